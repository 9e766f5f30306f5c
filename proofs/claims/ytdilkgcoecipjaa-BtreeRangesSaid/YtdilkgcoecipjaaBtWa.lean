/- btree: change.write of any node. -/
import Derived.Test.YtdilkgcoecipjaaM11
import Derived.Test.YtdilkgcoecipjaaM9
import Derived.Test.YtdilkgcoecipjaaM7
namespace Go.Proofs.Ytdilkgcoecipjaa
open Go.RowKit Go.Maps
set_option linter.unusedVariables false

theorem rd_chg_blk {w w' : World} {v : Value} {n g : Nat} {xs cur : List Value} {T : TypeId} (h : Rd w 1 v n xs) (hc : Chg (fun k => k = g) w w') (hb : Blk w g cur T) (hne : ∀ u ∈ xs, u ∉ cur) : Rd w' 1 v n xs := by
  obtain ⟨h0, p, cap, rfl, h1, h2, h3, h4⟩ := h
  refine ⟨h0, p, cap, rfl, h1, h2, h3, fun a ha j u hu => ?_⟩
  obtain ⟨hs, hcell⟩ := h4 a ha j u hu
  refine ⟨hs, ?_⟩
  have hlt := World.block_lt_of_cell? _ _ hcell
  have hg : a.block ≠ g := by
    intro e
    rw [e] at hcell
    exact hne u (List.mem_of_getElem? hu) (List.mem_of_getElem? ((hb.cell _).symm.trans hcell))
  exact (World.cell?_of_block (a := ⟨a.block, a.off + j, none⟩) (hc.block a.block hlt hg)).trans hcell
/-- cells of a node are none of a node's own block -/
theorem NdAt.chg2 {w w' : World} {lf : Bool} {pk pv pd : Option Addr} {ck cv cd : Nat} {n : Nd} (h : NdAt w lf pk ck pv cv pd cd n) {g : Nat} (hc : Chg (fun k => k = g) w w') {b : Bool} {p1 p2 p3 : Option Addr} {n1 n2 n3 c1 c2 c3 : Nat} {T : TypeId} (hb : Blk w g [.bool b, .slice p1 n1 c1, .slice p2 n2 c2, .slice p3 n3 c3] T) : NdAt w' lf pk ck pv cv pd cd n := by
  refine ⟨h.lf, rd_chg_blk h.keys hc hb ?_, rd_chg_blk h.vals hc hb ?_, rd_chg_blk h.kids hc hb ?_⟩
  · intro u hu; obtain ⟨t, _, rfl⟩ := List.mem_map.1 hu; simp
  · intro u hu; obtain ⟨t, _, rfl⟩ := List.mem_map.1 hu; simp
  · intro u hu; obtain ⟨t, _, rfl⟩ := List.mem_map.1 hu; simp

/-- a slice's block lies between two bounds -/
def InB (lo hi : Nat) (v : Value) (n : Nat) : Prop := n = 0 ∨ ∀ g, v.ownBlock = some g → lo ≤ g ∧ g < hi
theorem rd_inb {w w' : World} {fp : Nat → Prop} {lo hi n : Nat} {v : Value} {xs : List Value} (h : Rd w 1 v n xs) (hin : InB lo hi v n) (hc : Chg fp w w') (hn : ∀ g, lo ≤ g → g < hi → ¬ fp g) : Rd w' 1 v n xs := by
  rcases hin with h0 | hin
  · subst h0
    obtain rfl : xs = [] := List.eq_nil_of_length_eq_zero (by have := h.1; simpa using this)
    exact rd_zero h
  · exact rd_off h hc (fun g hg => hn g (hin g hg).1 (hin g hg).2)
structure NdIn (lo hi : Nat) (pk : Option Addr) (ck : Nat) (pv : Option Addr) (cv : Nat) (pd : Option Addr) (cd : Nat) (n : Nd) : Prop where
  keys : InB lo hi (.slice pk n.keys.length ck) n.keys.length
  vals : InB lo hi (.slice pv n.vals.length cv) n.vals.length
  kids : InB lo hi (.slice pd n.kids.length cd) n.kids.length
theorem rd_in {w : World} {lo n : Nat} {v : Value} {xs : List Value} (h : Rd w 1 v n xs) (ho : ∀ g, v.ownBlock = some g → lo ≤ g) : InB lo w.heap.size v n := by
  rcases Nat.eq_zero_or_pos n with h0 | h0
  · exact .inl h0
  · exact .inr (fun g hg => ⟨ho g hg, h.lt h0 (by decide) g hg⟩)
theorem NdAt.in_ {w : World} {lo : Nat} {lf : Bool} {pk pv pd : Option Addr} {ck cv cd : Nat} {n : Nd} (h : NdAt w lf pk ck pv cv pd cd n) (ho : ∀ g, (Value.ownBlock (.slice pk n.keys.length ck) = some g ∨ Value.ownBlock (.slice pv n.vals.length cv) = some g ∨ Value.ownBlock (.slice pd n.kids.length cd) = some g) → lo ≤ g) : NdIn lo w.heap.size pk ck pv cv pd cd n :=
  ⟨rd_in h.keys (fun g hg => ho g (.inl hg)), rd_in h.vals (fun g hg => ho g (.inr (.inl hg))), rd_in h.kids (fun g hg => ho g (.inr (.inr hg)))⟩
theorem NdAt.stay {w w' : World} {fp : Nat → Prop} {lo hi : Nat} {lf : Bool} {pk pv pd : Option Addr} {ck cv cd : Nat} {n : Nd} (h : NdAt w lf pk ck pv cv pd cd n) (hin : NdIn lo hi pk ck pv cv pd cd n) (hc : Chg fp w w') (hn : ∀ g, lo ≤ g → g < hi → ¬ fp g) : NdAt w' lf pk ck pv cv pd cd n :=
  ⟨h.lf, rd_inb h.keys hin.keys hc hn, rd_inb h.vals hin.vals hc hn, rd_inb h.kids hin.kids hc hn⟩
theorem NdAt.off {w w' : World} {lf : Bool} {pk pv pd : Option Addr} {ck cv cd : Nat} {n : Nd} {fp : Nat → Prop} (h : NdAt w lf pk ck pv cv pd cd n) (hc : Chg fp w w') (hn : ∀ g, (Value.ownBlock (.slice pk n.keys.length ck) = some g ∨ Value.ownBlock (.slice pv n.vals.length cv) = some g ∨ Value.ownBlock (.slice pd n.kids.length cd) = some g) → ¬ fp g) : NdAt w' lf pk ck pv cv pd cd n :=
  ⟨h.lf, rd_off h.keys hc (fun g hg => hn g (.inl hg)), rd_off h.vals hc (fun g hg => hn g (.inr (.inl hg))), rd_off h.kids hc (fun g hg => hn g (.inr (.inr hg)))⟩

/-- both halves, as they lie in memory -/
structure Hlv (w : World) (nd : Nd) (lf : Bool) (c p : Nat) (key val : Tx) (del was last : Bool) (lv : Nat) (A C : Nd) (pa : Option Addr) (ca : Nat) (pa2 : Option Addr) (ca2 : Nat) (pa3 : Option Addr) (ca3 : Nat) (pb : Option Addr) (cb : Nat) (pb2 : Option Addr) (cb2 : Nat) (pb3 : Option Addr) (cb3 : Nat) (b8 b9 : Nat) (k : Tx) (wr : World) : Prop where
  halves : Halves nd A C k
  okA : OkN A
  okC : OkN C
  szA : sizeP A ≤ 504
  szC : sizeP C ≤ 504
  t8 : Blk wr b8 [.bool lf, .slice pa A.keys.length ca, .slice pa2 A.vals.length ca2, .slice pa3 A.kids.length ca3] TN
  t9 : Blk wr b9 [.bool lf, .slice pb C.keys.length cb, .slice pb2 C.vals.length cb2, .slice pb3 C.kids.length cb3] TN
  ge : w.heap.size ≤ b8 ∧ w.heap.size ≤ b9
  nA : NdAt wr lf pa ca pa2 ca2 pa3 ca3 A
  nC : NdAt wr lf pb cb pb2 cb2 pb3 cb3 C
  ch : Blk wr c (chC p key val del was last lv) TCh
  below : Below w.heap.size w wr
  own : ∀ g, (Value.ownBlock (.slice pb C.keys.length cb) = some g ∨ Value.ownBlock (.slice pb2 C.vals.length cb2) = some g ∨ Value.ownBlock (.slice pb3 C.kids.length cb3) = some g) → w.heap.size ≤ g
/-- behind the region that makes both halves -/
def wr3 (w : World) (nd : Nd) (lf : Bool) (c p : Nat) (key val : Tx) (del was last : Bool) (lv at_ : Nat) (a : Act) (wr : World) : Prop :=
  ∃ (A C : Nd) (pa : Option Addr) (ca : Nat) (pa2 : Option Addr) (ca2 : Nat) (pa3 : Option Addr) (ca3 : Nat) (pb : Option Addr) (cb : Nat) (pb2 : Option Addr) (cb2 : Nat) (pb3 : Option Addr) (cb3 : Nat) (b8 b9 : Nat) (k : Tx) (u : Nat → Value),
    Hid (Hlv w nd lf c p key val del was last lv A C pa ca pa2 ca2 pa3 ca3 pb cb pb2 cb2 pb3 cb3 b8 b9 k wr) ∧ u 0 = .pointer (some ⟨c, 0, none⟩) ∧ u 1 = .int .i64 (at_ : Int) ∧ u 8 = .pointer (some ⟨b8, 0, none⟩) ∧ u 9 = .pointer (some ⟨b9, 0, none⟩) ∧ u 10 = .string (B k) ∧ a = ⟨#[u 0, u 1, u 2, u 3, u 4, u 5, u 6, u 7, u 8, u 9, u 10, u 11, u 12, u 13, u 14, u 15, u 16, u 17, u 18, u 19, u 20, u 21, u 22, u 23, u 24, u 25, u 26, u 27, u 28, u 29, u 30, u 31, u 32, u 33, u 34, u 35, u 36, u 37, u 38, u 39, u 40, u 41, u 42, u 43, u 44, u 45, u 46, u 47, u 48, u 49, u 50, u 51, u 52, u 53, u 54, u 55, u 56, u 57, u 58, u 59, u 60, u 61, u 62, u 63, u 64, u 65, u 66, u 67, u 68, u 69, u 70, u 71, u 72, u 73], []⟩
theorem wr3_mk {w : World} {nd : Nd} {lf : Bool} {c p : Nat} {key val : Tx} {del was last : Bool} {lv at_ : Nat} {a : Act} {wr : World} {A C : Nd} {pa : Option Addr} {ca : Nat} {pa2 : Option Addr} {ca2 : Nat} {pa3 : Option Addr} {ca3 : Nat} {pb : Option Addr} {cb : Nat} {pb2 : Option Addr} {cb2 : Nat} {pb3 : Option Addr} {cb3 : Nat} {b8 b9 : Nat} {k : Tx}
    (h : Hlv w nd lf c p key val del was last lv A C pa ca pa2 ca2 pa3 ca3 pb cb pb2 cb2 pb3 cb3 b8 b9 k wr) (hs : a.tmps.size = 74) (hd : a.defers = []) (h0 : a.tmps.getD 0 undef = .pointer (some ⟨c, 0, none⟩)) (h1 : a.tmps.getD 1 undef = .int .i64 (at_ : Int)) (h8 : a.tmps.getD 8 undef = .pointer (some ⟨b8, 0, none⟩)) (h9 : a.tmps.getD 9 undef = .pointer (some ⟨b9, 0, none⟩)) (h10 : a.tmps.getD 10 undef = .string (B k)) : wr3 w nd lf c p key val del was last lv at_ a wr :=
  ⟨A, C, pa, ca, pa2, ca2, pa3, ca3, pb, cb, pb2, cb2, pb3, cb3, b8, b9, k, fun j => a.tmps.getD j undef, hid h, h0, h1, h8, h9, h10, act_getD a 74 hs hd⟩

set_option maxRecDepth 100000 in
set_option maxHeartbeats 16000000 in
theorem write_split (w : World) (c p d : Nat) (F : Nat → Prop) (s : DS) (S T : AS) (N : Nat) (Nf : Nat → Option Nd) (U M : Nat) (key val : Tx) (del was last : Bool) (lv : Nat) (at_ : Nat) (nd : Nd) (lf : Bool) (pk : Option Addr) (nk ck : Nat) (pv : Option Addr) (nv cv : Nat) (pd : Option Addr) (nc cd : Nat)
    (hc : Blk w c (chC p key val del was last lv) TCh) (hcF : ¬ F c) (hnd : NdAt w lf pk ck pv cv pd cd nd) (hnk : nd.keys.length = nk) (hnv : nd.vals.length = nv) (hnc : nd.kids.length = nc) (hpg : PgV w p d F 1600 s S T true N) (hN : N ≤ 999990) (hst : Sto T Nf U M none) (hM : M ≤ 1190) (hU : U + 1 ≤ M) (hat : (Nf at_).isSome = true) (hok : OkN nd) (hsz : 504 < sizeP nd)
    (h2 : lf = true → sizeP nd ≤ 656) (h3 : lf = false → sizeP nd ≤ 647) (hl : last = true → lf = true → sizeP ⟨true, nd.keys.take (nk - 1), nd.vals.take (nk - 1), []⟩ ≤ 504) :
    Calls Try.prog 77 #[.pointer (some ⟨c, 0, none⟩), .int .i64 (at_ : Int), ndV lf pk nk ck pv nv cv pd nc cd] w fun e w' => ∃ (T2 : AS) (A C : Nd) (k : Tx) (to : Nat), WrTo 3 w p d F s S N T2 [(at_, []), (to, k)] e w' ∧ Nf to = none ∧ Halves nd A C k ∧ Sto T2 (updN (updN Nf at_ (some A)) to (some C)) (U + 1) M none ∧ T2.root = T.root := by
  obtain ⟨od, hod⟩ := Option.isSome_iff_exists.1 hat
  obtain ⟨hB, _, _, hk6⟩ := hst.vw at_ od hod
  have hvl : nd.leaf = true → nd.vals.length = nd.keys.length := fun h => (okn_leaf hok h).1
  have hmx : sizeP nd ≤ 656 := by cases lf; have := h3 rfl; omega; exact h2 rfl
  have HVL := hid hvl
  have HND := hid hnd
  have HNK := hid hnk
  have HNV := hid hnv
  have HNC := hid hnc
  have HPG := hid hpg
  have HSZ := hid hsz
  have HCC := hid hc
  have HCF := hid hcF
  have HST := hid hst
  have HAB := hid (And.intro hB hk6)
  have HAT := hid hod
  have HOK := hid hok
  have HH2 := hid h2
  have HH3 := hid h3
  have HHL := hid hl
  have HMX := hid hmx
  have hcl := hc.lt
  clear hc hcF hnd hnk hnv hnc hpg hst hat hok hsz hod hB hvl h2 h3 hl hmx hk6
  go_enter Try.func77, Try.ntmps77
  unfold ndV
  go_wp2_with fail
  obtain ⟨t5, ht5⟩ : ∃ b, w.heap.size = b := ⟨_, rfl⟩
  obtain ⟨w1, hw1⟩ : ∃ x, w.alloc (.cells #[.bool lf, .slice pk nk ck, .slice pv nv cv, .slice pd nc cd] 59) = x := ⟨_, rfl⟩
  have hal : Below w.heap.size w w1 := by rw [← hw1]; exact (Below.refl _ _).alloc (Nat.le_refl _) _
  have HT1 : Hid (Blk w1 t5 [.bool lf, .slice pk nk ck, .slice pv nv cv, .slice pd nc cd] TN) := hid (by rw [← hw1, ← ht5]; exact heap_alloc_new _ _)
  have HB1 := hid hal
  have hs1 : w1.heap.size = t5 + 1 := by rw [← hw1, ← ht5]; simp
  rw [hw1]
  clear hw1 hal
  have hsz2 := HMX.out
  refine (size_any2 w1 nd lf pk nk ck pv nv cv pd nc cd (HND.out.new HB1.out) HNK.out HNV.out HNC.out HVL.out (by omega)).mono ?_
  rintro e2 w2 ⟨rfl, hb2⟩
  have hsz3 : ¬ (sizeP nd : Int) ≤ 504 := by have := HSZ.out; omega
  have HT2 := hid (HT1.out.chg (Chg.new hb2 NoFp) (fun h => h))
  have HB2 := hid (HB1.out.trans (hb2.mono (by omega)))
  have hs2 := hb2.size
  have HS5 := hid ht5
  clear hb2 hsz2
  go_wp2_with fail
  obtain ⟨wz, hwz⟩ : ∃ x, w2.drew = x := ⟨_, rfl⟩
  have HBz : Hid (Below w.heap.size w wz) := hid (by rw [← hwz]; exact below_drewN HB2.out 1)
  have HCz := hid (show Blk wz c (chC p key val del was last lv) TCh from HCC.out.chg (Chg.new HBz.out NoFp) (fun h => h))
  have HTz := hid (show Blk wz t5 [.bool lf, .slice pk nk ck, .slice pv nv cv, .slice pd nc cd] TN by rw [← hwz]; exact HT2.out)
  have hsz1 : t5 + 1 ≤ wz.heap.size := by rw [← hwz]; show t5 + 1 ≤ w2.heap.size; omega
  clear HT1 HB1 HT2 HB2 hs1 hs2
  refine Code.wp_mono (Q := fun e a' w' => e = .normal ∧ wr3 w nd lf c p key val del was last lv at_ a' w') ?join ?region
  case region =>
    refine wp_region_plan4 (fun w' => Blk w' c (chC p key val del was last lv) TCh ∧ Blk w' t5 [.bool lf, .slice pk nk ck, .slice pv nv cv, .slice pd nc cd] TN) (fun j => !([5, 10, 11, 12, 13].contains j)) (fun j => [0, 4].contains j) (fun _ => false)
      (.cons 0 (.cons 1 (.cons 2 (.cons 3 (.cons 4 (.fork3 5 10 11 (.cons 6 (.cons 7 (.cons 8 (.cons 9 (.fork 10 11 (.cons 11 (.cons 12 (.cons 13 (.cons 14 .nil)))) (.cons 10 (.cons 12 (.cons 13 (.cons 14 .nil))))))))) (.fork 5 11 (.cons 6 (.cons 7 (.cons 8 (.cons 9 (.cons 11 (.cons 12 (.cons 13 (.cons 14 .nil)))))))) (.cons 5 (.cons 6 (.cons 7 (.cons 8 (.cons 9 (.cons 12 (.cons 13 (.cons 14 .nil))))))))) (.fork 5 10 (.cons 6 (.cons 7 (.cons 8 (.cons 9 (.cons 10 (.cons 12 (.cons 13 (.cons 14 .nil)))))))) (.cons 5 (.cons 6 (.cons 7 (.cons 8 (.cons 9 (.cons 12 (.cons 13 (.cons 14 .nil))))))))))))))) (by kernel_rfl) (by kernel_rfl) rfl (by kernel_rfl) (by kernel_rfl) (by rw [hwz]; exact ⟨HCz.out, HTz.out⟩) ?_
    iterate 5 (apply wpPlan4_val; (case ho => rfl); (case hst => rfl); (case hw => rfl); (case hv => intro w' hS; (try (have hS := hS rfl; obtain ⟨x0, x1, x2, x3, x4, x5, x6, _, _, _⟩ := ch_cells hS.1; obtain ⟨x8, x9, x10, x11, _, _, _, _⟩ := four_cells hS.2)); go_simp; first | done | rfl); intro K hK; go_simp; refine hK _ ?_; clear hK K)
    rw [hwz]
    clear hwz
    refine ⟨?_, ?_, ?_⟩
    · refine effect_list rfl rfl (fun K hK => ?_)
      refine wpList_step (fun K2 hK2 => ?_)
      go_simp
      refine (halves_any wz nd lf pk nk ck pv nv cv pd nc cd last (HND.out.new HBz.out) HNK.out HNV.out HNC.out HOK.out HSZ.out HH2.out HH3.out HHL.out).mono ?_
      rintro e1 w1 ⟨A, C, k, pa, ca, pa2, ca2, pa3, ca3, pb, cb, pb2, cb2, pb3, cb3, hh1, hh2, hh3, hh4, hh5, rfl, hhA, hhC, hal1, hown⟩
      simp only [ndV]
      go_simp
      refine hK2 _ _ ?_
      clear hK2 K2
      simp only [wpList]
      have HQ1 := hid (And.intro hh1 (And.intro hh2 (And.intro hh3 (And.intro hh4 hh5))))
      have HA1 := hid hhA
      have HD1 := hid hhC
      have HOWN := hid hown
      clear hown hh1 hh2 hh3 hh4 hh5 hhA hhC
      have HC1 := hid (HCz.out.chg (Chg.new hal1 NoFp) (fun h => h))
      have HT1 := hid (HTz.out.chg (Chg.new hal1 NoFp) (fun h => h))
      have HB1 := hid (HBz.out.trans (hal1.mono (by have := HS5.out; omega)))
      have hsz1 : t5 + 1 ≤ w1.heap.size := Nat.le_trans hsz1 hal1.size
      clear hal1
      refine hK _ _ (fun _ => ⟨HC1.out, HT1.out⟩) ?_
      clear hK K
      (apply wpPlan4_val; (case ho => rfl); (case hst => rfl); (case hw => rfl); (case hv => intro w' hS; (try (have hS := hS rfl; obtain ⟨x0, x1, x2, x3, x4, x5, x6, _, _, _⟩ := ch_cells hS.1; obtain ⟨x8, x9, x10, x11, _, _, _, _⟩ := four_cells hS.2)); go_simp; first | done | rfl); intro K hK; go_simp; refine hK _ ?_; clear hK K)
      (apply wpPlan4_val; (case ho => rfl); (case hst => rfl); (case hw => rfl); (case hv => intro w' hS; (try (have hS := hS rfl; obtain ⟨x0, x1, x2, x3, x4, x5, x6, _, _, _⟩ := ch_cells hS.1; obtain ⟨x8, x9, x10, x11, _, _, _, _⟩ := four_cells hS.2)); go_simp; first | done | rfl); intro K hK; go_simp; refine hK _ ?_; clear hK K)
      (apply wpPlan4_val; (case ho => rfl); (case hst => rfl); (case hw => rfl); (case hv => intro w' hS; (try (have hS := hS rfl; obtain ⟨x0, x1, x2, x3, x4, x5, x6, _, _, _⟩ := ch_cells hS.1; obtain ⟨x8, x9, x10, x11, _, _, _, _⟩ := four_cells hS.2)); go_simp; first | done | rfl); intro K hK; go_simp; refine hK _ ?_; clear hK K)
      (apply wpPlan4_val; (case ho => rfl); (case hst => rfl); (case hw => rfl); (case hv => intro w' hS; (try (have hS := hS rfl; obtain ⟨x0, x1, x2, x3, x4, x5, x6, _, _, _⟩ := ch_cells hS.1; obtain ⟨x8, x9, x10, x11, _, _, _, _⟩ := four_cells hS.2)); go_simp; first | done | rfl); intro K hK; go_simp; refine hK _ ?_; clear hK K)
      refine ⟨?_, ?_⟩
      · refine effect_list rfl rfl (fun K hK => ?_)
        refine wpList_step (fun K2 hK2 => ?_)
        go_simp
        refine hK2 _ _ ?_
        clear hK2 K2
        simp only [wpList]
        have hal2 : Below w1.heap.size w1 (w1.alloc (.cells #[.bool false, .slice none 0 0, .slice none 0 0, .slice none 0 0] TN)) := (Below.refl _ _).alloc (Nat.le_refl _) _
        obtain ⟨q2, hq2⟩ : ∃ b, w1.heap.size = b := ⟨_, rfl⟩
        obtain ⟨w2, hw2⟩ : ∃ x, w1.alloc (.cells #[.bool false, .slice none 0 0, .slice none 0 0, .slice none 0 0] TN) = x := ⟨_, rfl⟩
        have HZ2 : Hid (Blk w2 q2 [.bool false, .slice none 0 0, .slice none 0 0, .slice none 0 0] TN) := hid (by rw [← hw2, ← hq2]; exact heap_alloc_new _ _)
        have hqg2 : t5 + 1 ≤ q2 := by omega
        rw [hw2] at hal2 ⊢
        rw [hq2]
        clear hw2
        have HC2 := hid (HC1.out.chg (Chg.new hal2 NoFp) (fun h => h))
        have HT2 := hid (HT1.out.chg (Chg.new hal2 NoFp) (fun h => h))
        have HB2 := hid (HB1.out.trans (hal2.mono (by have := HS5.out; omega)))
        have hsz2 : t5 + 1 ≤ w2.heap.size := Nat.le_trans hsz1 hal2.size
        have HA1x2 := hid (HA1.out.new hal2)
        have HD1x2 := hid (HD1.out.new hal2)
        have hlt89 : q2 < w2.heap.size := HZ2.out.lt
        clear hal2
        refine hK _ _ (fun _ => ⟨HC2.out, HT2.out⟩) ?_
        clear hK K
        refine wpPlan4_list rfl rfl rfl (fun K hK => ?_)
        refine wpList_step (fun K2 hK2 => ?_)
        go_simp
        refine hK2 _ _ ?_
        clear hK2 K2
        simp only [wpList]
        have hal3 : Below w2.heap.size w2 (w2.alloc (.cells #[.bool false, .slice none 0 0, .slice none 0 0, .slice none 0 0] TN)) := (Below.refl _ _).alloc (Nat.le_refl _) _
        obtain ⟨q3, hq3⟩ : ∃ b, w2.heap.size = b := ⟨_, rfl⟩
        obtain ⟨w3, hw3⟩ : ∃ x, w2.alloc (.cells #[.bool false, .slice none 0 0, .slice none 0 0, .slice none 0 0] TN) = x := ⟨_, rfl⟩
        have HZ3 : Hid (Blk w3 q3 [.bool false, .slice none 0 0, .slice none 0 0, .slice none 0 0] TN) := hid (by rw [← hw3, ← hq3]; exact heap_alloc_new _ _)
        have hqg3 : t5 + 1 ≤ q3 := by omega
        rw [hw3] at hal3 ⊢
        rw [hq3]
        clear hw3
        have HC3 := hid (HC2.out.chg (Chg.new hal3 NoFp) (fun h => h))
        have HT3 := hid (HT2.out.chg (Chg.new hal3 NoFp) (fun h => h))
        have HB3 := hid (HB2.out.trans (hal3.mono (by have := HS5.out; omega)))
        have hsz3 : t5 + 1 ≤ w3.heap.size := Nat.le_trans hsz2 hal3.size
        have HZ2x3 := hid (HZ2.out.chg (Chg.new hal3 NoFp) (fun h => h))
        have HA1x2x3 := hid (HA1x2.out.new hal3)
        have HD1x2x3 := hid (HD1x2.out.new hal3)
        have hne89 : q2 ≠ q3 := by omega
        clear hq3
        clear hal3
        refine hK _ _ (fun _ => ⟨HC3.out, HT3.out⟩) ?_
        clear hK K
        obtain ⟨_, _, _, _, f0, f1, f2, f3⟩ := four_cells HZ2x3.out
        refine wpPlan4_list rfl rfl rfl (fun K hK => ?_)
        refine wpList_step (fun K2 hK2 => ?_)
        go_simp
        refine hK2 _ _ ?_
        clear hK2 K2
        simp only [wpList]
        have hfin4 := nset4 HZ2x3.out (.bool lf) (.slice pa A.keys.length ca) (.slice pa2 A.vals.length ca2) (.slice pa3 A.kids.length ca3)
        have hch4 := nchg4 (w := w3) (g := q2) (.bool lf) (.slice pa A.keys.length ca) (.slice pa2 A.vals.length ca2) (.slice pa3 A.kids.length ca3)
        obtain ⟨w4, hs4⟩ : ∃ x, (((w3.setCell ⟨q2, 0, none⟩ (.bool lf)).setCell ⟨q2, 1, none⟩ (.slice pa A.keys.length ca)).setCell ⟨q2, 2, none⟩ (.slice pa2 A.vals.length ca2)).setCell ⟨q2, 3, none⟩ (.slice pa3 A.kids.length ca3) = x := ⟨_, rfl⟩
        rw [hs4] at hfin4 hch4 ⊢
        clear hs4 f0 f1 f2 f3
        have HZ4 := hid hfin4
        have HO4 := hid (HZ3.out.chg hch4 (by omega))
        have HC4 := hid (HC3.out.chg hch4 (by have := HS5.out; omega))
        have HT4 := hid (HT3.out.chg hch4 (by omega))
        have HB4 := hid (HB3.out.trans (hch4.below (B := w.heap.size) (by have := HS5.out; omega) (by have := HS5.out; omega)))
        have HA4 := hid (HA1x2x3.out.chg2 hch4 HZ2x3.out)
        have HD4 := hid (HD1x2x3.out.chg2 hch4 HZ2x3.out)
        have hsz4 : t5 + 1 ≤ w4.heap.size := Nat.le_trans hsz3 hch4.size
        clear hfin4 hch4
        refine hK _ _ (fun _ => ⟨HC4.out, HT4.out⟩) ?_
        clear hK K
        obtain ⟨_, _, _, _, f0, f1, f2, f3⟩ := four_cells HO4.out
        refine wpPlan4_list rfl rfl rfl (fun K hK => ?_)
        refine wpList_step (fun K2 hK2 => ?_)
        go_simp
        refine hK2 _ _ ?_
        clear hK2 K2
        simp only [wpList]
        have hfin5 := nset4 HO4.out (.bool lf) (.slice pb C.keys.length cb) (.slice pb2 C.vals.length cb2) (.slice pb3 C.kids.length cb3)
        have hch5 := nchg4 (w := w4) (g := q3) (.bool lf) (.slice pb C.keys.length cb) (.slice pb2 C.vals.length cb2) (.slice pb3 C.kids.length cb3)
        obtain ⟨w5, hs5⟩ : ∃ x, (((w4.setCell ⟨q3, 0, none⟩ (.bool lf)).setCell ⟨q3, 1, none⟩ (.slice pb C.keys.length cb)).setCell ⟨q3, 2, none⟩ (.slice pb2 C.vals.length cb2)).setCell ⟨q3, 3, none⟩ (.slice pb3 C.kids.length cb3) = x := ⟨_, rfl⟩
        rw [hs5] at hfin5 hch5 ⊢
        clear hs5 f0 f1 f2 f3
        have HZ5 := hid hfin5
        have HO5 := hid (HZ4.out.chg hch5 (by omega))
        have HC5 := hid (HC4.out.chg hch5 (by have := HS5.out; omega))
        have HT5 := hid (HT4.out.chg hch5 (by omega))
        have HB5 := hid (HB4.out.trans (hch5.below (B := w.heap.size) (by have := HS5.out; omega) (by have := HS5.out; omega)))
        have HA5 := hid (HA4.out.chg2 hch5 HO4.out)
        have HD5 := hid (HD4.out.chg2 hch5 HO4.out)
        have hsz5 : t5 + 1 ≤ w5.heap.size := Nat.le_trans hsz4 hch5.size
        clear hfin5 hch5
        refine hK _ _ (fun _ => ⟨HC5.out, HT5.out⟩) ?_
        clear hK K
        (apply wpPlan4_val; (case ho => rfl); (case hst => rfl); (case hw => rfl); (case hv => intro w' hS; (try (have hS := hS rfl; obtain ⟨x0, x1, x2, x3, x4, x5, x6, _, _, _⟩ := ch_cells hS.1; obtain ⟨x8, x9, x10, x11, _, _, _, _⟩ := four_cells hS.2)); go_simp; first | done | rfl); intro K hK; go_simp; refine hK _ ?_; clear hK K)
        refine wpPlan4_nil ?_
        simp only [Qn]
        exact ⟨trivial, wr3_mk ⟨HQ1.out.1, HQ1.out.2.1, HQ1.out.2.2.1, HQ1.out.2.2.2.1, HQ1.out.2.2.2.2, HO5.out, HZ5.out, by have := HS5.out; omega, HA5.out, HD5.out, HC5.out, HB5.out, fun g hg => by have := HOWN.out g hg; have := HS5.out; have := hsz1; omega⟩ rfl rfl rfl rfl rfl rfl rfl⟩
      · refine effect_list rfl rfl (fun K hK => ?_)
        refine wpList_step (fun K2 hK2 => ?_)
        go_simp
        refine hK2 _ _ ?_
        clear hK2 K2
        simp only [wpList]
        have hal6 : Below w1.heap.size w1 (w1.alloc (.cells #[.bool false, .slice none 0 0, .slice none 0 0, .slice none 0 0] TN)) := (Below.refl _ _).alloc (Nat.le_refl _) _
        obtain ⟨q6, hq6⟩ : ∃ b, w1.heap.size = b := ⟨_, rfl⟩
        obtain ⟨w6, hw6⟩ : ∃ x, w1.alloc (.cells #[.bool false, .slice none 0 0, .slice none 0 0, .slice none 0 0] TN) = x := ⟨_, rfl⟩
        have HZ6 : Hid (Blk w6 q6 [.bool false, .slice none 0 0, .slice none 0 0, .slice none 0 0] TN) := hid (by rw [← hw6, ← hq6]; exact heap_alloc_new _ _)
        have hqg6 : t5 + 1 ≤ q6 := by omega
        rw [hw6] at hal6 ⊢
        rw [hq6]
        clear hw6
        have HC6 := hid (HC1.out.chg (Chg.new hal6 NoFp) (fun h => h))
        have HT6 := hid (HT1.out.chg (Chg.new hal6 NoFp) (fun h => h))
        have HB6 := hid (HB1.out.trans (hal6.mono (by have := HS5.out; omega)))
        have hsz6 : t5 + 1 ≤ w6.heap.size := Nat.le_trans hsz1 hal6.size
        have HA1x6 := hid (HA1.out.new hal6)
        have HD1x6 := hid (HD1.out.new hal6)
        have hlt89 : q6 < w6.heap.size := HZ6.out.lt
        clear hal6
        refine hK _ _ (fun _ => ⟨HC6.out, HT6.out⟩) ?_
        clear hK K
        refine wpPlan4_list rfl rfl rfl (fun K hK => ?_)
        refine wpList_step (fun K2 hK2 => ?_)
        go_simp
        refine hK2 _ _ ?_
        clear hK2 K2
        simp only [wpList]
        have hal7 : Below w6.heap.size w6 (w6.alloc (.cells #[.bool false, .slice none 0 0, .slice none 0 0, .slice none 0 0] TN)) := (Below.refl _ _).alloc (Nat.le_refl _) _
        obtain ⟨q7, hq7⟩ : ∃ b, w6.heap.size = b := ⟨_, rfl⟩
        obtain ⟨w7, hw7⟩ : ∃ x, w6.alloc (.cells #[.bool false, .slice none 0 0, .slice none 0 0, .slice none 0 0] TN) = x := ⟨_, rfl⟩
        have HZ7 : Hid (Blk w7 q7 [.bool false, .slice none 0 0, .slice none 0 0, .slice none 0 0] TN) := hid (by rw [← hw7, ← hq7]; exact heap_alloc_new _ _)
        have hqg7 : t5 + 1 ≤ q7 := by omega
        rw [hw7] at hal7 ⊢
        rw [hq7]
        clear hw7
        have HC7 := hid (HC6.out.chg (Chg.new hal7 NoFp) (fun h => h))
        have HT7 := hid (HT6.out.chg (Chg.new hal7 NoFp) (fun h => h))
        have HB7 := hid (HB6.out.trans (hal7.mono (by have := HS5.out; omega)))
        have hsz7 : t5 + 1 ≤ w7.heap.size := Nat.le_trans hsz6 hal7.size
        have HZ6x7 := hid (HZ6.out.chg (Chg.new hal7 NoFp) (fun h => h))
        have HA1x6x7 := hid (HA1x6.out.new hal7)
        have HD1x6x7 := hid (HD1x6.out.new hal7)
        have hne89 : q7 ≠ q6 := by omega
        clear hq7
        clear hal7
        refine hK _ _ (fun _ => ⟨HC7.out, HT7.out⟩) ?_
        clear hK K
        obtain ⟨_, _, _, _, f0, f1, f2, f3⟩ := four_cells HZ7.out
        refine wpPlan4_list rfl rfl rfl (fun K hK => ?_)
        refine wpList_step (fun K2 hK2 => ?_)
        go_simp
        refine hK2 _ _ ?_
        clear hK2 K2
        simp only [wpList]
        have hfin8 := nset4 HZ7.out (.bool lf) (.slice pa A.keys.length ca) (.slice pa2 A.vals.length ca2) (.slice pa3 A.kids.length ca3)
        have hch8 := nchg4 (w := w7) (g := q7) (.bool lf) (.slice pa A.keys.length ca) (.slice pa2 A.vals.length ca2) (.slice pa3 A.kids.length ca3)
        obtain ⟨w8, hs8⟩ : ∃ x, (((w7.setCell ⟨q7, 0, none⟩ (.bool lf)).setCell ⟨q7, 1, none⟩ (.slice pa A.keys.length ca)).setCell ⟨q7, 2, none⟩ (.slice pa2 A.vals.length ca2)).setCell ⟨q7, 3, none⟩ (.slice pa3 A.kids.length ca3) = x := ⟨_, rfl⟩
        rw [hs8] at hfin8 hch8 ⊢
        clear hs8 f0 f1 f2 f3
        have HZ8 := hid hfin8
        have HO8 := hid (HZ6x7.out.chg hch8 (by omega))
        have HC8 := hid (HC7.out.chg hch8 (by have := HS5.out; omega))
        have HT8 := hid (HT7.out.chg hch8 (by omega))
        have HB8 := hid (HB7.out.trans (hch8.below (B := w.heap.size) (by have := HS5.out; omega) (by have := HS5.out; omega)))
        have HA8 := hid (HA1x6x7.out.chg2 hch8 HZ7.out)
        have HD8 := hid (HD1x6x7.out.chg2 hch8 HZ7.out)
        have hsz8 : t5 + 1 ≤ w8.heap.size := Nat.le_trans hsz7 hch8.size
        clear hfin8 hch8
        refine hK _ _ (fun _ => ⟨HC8.out, HT8.out⟩) ?_
        clear hK K
        obtain ⟨_, _, _, _, f0, f1, f2, f3⟩ := four_cells HO8.out
        refine wpPlan4_list rfl rfl rfl (fun K hK => ?_)
        refine wpList_step (fun K2 hK2 => ?_)
        go_simp
        refine hK2 _ _ ?_
        clear hK2 K2
        simp only [wpList]
        have hfin9 := nset4 HO8.out (.bool lf) (.slice pb C.keys.length cb) (.slice pb2 C.vals.length cb2) (.slice pb3 C.kids.length cb3)
        have hch9 := nchg4 (w := w8) (g := q6) (.bool lf) (.slice pb C.keys.length cb) (.slice pb2 C.vals.length cb2) (.slice pb3 C.kids.length cb3)
        obtain ⟨w9, hs9⟩ : ∃ x, (((w8.setCell ⟨q6, 0, none⟩ (.bool lf)).setCell ⟨q6, 1, none⟩ (.slice pb C.keys.length cb)).setCell ⟨q6, 2, none⟩ (.slice pb2 C.vals.length cb2)).setCell ⟨q6, 3, none⟩ (.slice pb3 C.kids.length cb3) = x := ⟨_, rfl⟩
        rw [hs9] at hfin9 hch9 ⊢
        clear hs9 f0 f1 f2 f3
        have HZ9 := hid hfin9
        have HO9 := hid (HZ8.out.chg hch9 (by omega))
        have HC9 := hid (HC8.out.chg hch9 (by have := HS5.out; omega))
        have HT9 := hid (HT8.out.chg hch9 (by omega))
        have HB9 := hid (HB8.out.trans (hch9.below (B := w.heap.size) (by have := HS5.out; omega) (by have := HS5.out; omega)))
        have HA9 := hid (HA8.out.chg2 hch9 HO8.out)
        have HD9 := hid (HD8.out.chg2 hch9 HO8.out)
        have hsz9 : t5 + 1 ≤ w9.heap.size := Nat.le_trans hsz8 hch9.size
        clear hfin9 hch9
        refine hK _ _ (fun _ => ⟨HC9.out, HT9.out⟩) ?_
        clear hK K
        (apply wpPlan4_val; (case ho => rfl); (case hst => rfl); (case hw => rfl); (case hv => intro w' hS; (try (have hS := hS rfl; obtain ⟨x0, x1, x2, x3, x4, x5, x6, _, _, _⟩ := ch_cells hS.1; obtain ⟨x8, x9, x10, x11, _, _, _, _⟩ := four_cells hS.2)); go_simp; first | done | rfl); intro K hK; go_simp; refine hK _ ?_; clear hK K)
        refine wpPlan4_nil ?_
        simp only [Qn]
        exact ⟨trivial, wr3_mk ⟨HQ1.out.1, HQ1.out.2.1, HQ1.out.2.2.1, HQ1.out.2.2.2.1, HQ1.out.2.2.2.2, HO9.out, HZ9.out, by have := HS5.out; omega, HA9.out, HD9.out, HC9.out, HB9.out, fun g hg => by have := HOWN.out g hg; have := HS5.out; have := hsz1; omega⟩ rfl rfl rfl rfl rfl rfl rfl⟩
    · refine effect_list rfl rfl (fun K hK => ?_)
      refine wpList_step (fun K2 hK2 => ?_)
      go_simp
      refine hK2 _ _ ?_
      clear hK2 K2
      simp only [wpList]
      have hal10 : Below wz.heap.size wz (wz.alloc (.cells #[.bool false, .slice none 0 0, .slice none 0 0, .slice none 0 0] TN)) := (Below.refl _ _).alloc (Nat.le_refl _) _
      obtain ⟨q10, hq10⟩ : ∃ b, wz.heap.size = b := ⟨_, rfl⟩
      obtain ⟨w10, hw10⟩ : ∃ x, wz.alloc (.cells #[.bool false, .slice none 0 0, .slice none 0 0, .slice none 0 0] TN) = x := ⟨_, rfl⟩
      have HZ10 : Hid (Blk w10 q10 [.bool false, .slice none 0 0, .slice none 0 0, .slice none 0 0] TN) := hid (by rw [← hw10, ← hq10]; exact heap_alloc_new _ _)
      have hqg10 : t5 + 1 ≤ q10 := by omega
      rw [hw10] at hal10 ⊢
      rw [hq10]
      clear hw10
      have HC10 := hid (HCz.out.chg (Chg.new hal10 NoFp) (fun h => h))
      have HT10 := hid (HTz.out.chg (Chg.new hal10 NoFp) (fun h => h))
      have HB10 := hid (HBz.out.trans (hal10.mono (by have := HS5.out; omega)))
      have hsz10 : t5 + 1 ≤ w10.heap.size := Nat.le_trans hsz1 hal10.size
      have hlt89 : q10 < w10.heap.size := HZ10.out.lt
      clear hal10
      refine hK _ _ (fun _ => ⟨HC10.out, HT10.out⟩) ?_
      clear hK K
      refine ⟨?_, ?_⟩
      · refine effect_list rfl rfl (fun K hK => ?_)
        refine wpList_step (fun K2 hK2 => ?_)
        go_simp
        refine (halves_any w10 nd lf pk nk ck pv nv cv pd nc cd last (HND.out.new HB10.out) HNK.out HNV.out HNC.out HOK.out HSZ.out HH2.out HH3.out HHL.out).mono ?_
        rintro e11 w11 ⟨A, C, k, pa, ca, pa2, ca2, pa3, ca3, pb, cb, pb2, cb2, pb3, cb3, hh1, hh2, hh3, hh4, hh5, rfl, hhA, hhC, hal11, hown⟩
        simp only [ndV]
        go_simp
        refine hK2 _ _ ?_
        clear hK2 K2
        simp only [wpList]
        have HQ11 := hid (And.intro hh1 (And.intro hh2 (And.intro hh3 (And.intro hh4 hh5))))
        have HA11 := hid hhA
        have HD11 := hid hhC
        have HOWN := hid hown
        clear hown hh1 hh2 hh3 hh4 hh5 hhA hhC
        have HC11 := hid (HC10.out.chg (Chg.new hal11 NoFp) (fun h => h))
        have HT11 := hid (HT10.out.chg (Chg.new hal11 NoFp) (fun h => h))
        have HB11 := hid (HB10.out.trans (hal11.mono (by have := HS5.out; omega)))
        have hsz11 : t5 + 1 ≤ w11.heap.size := Nat.le_trans hsz10 hal11.size
        have HZ10x11 := hid (HZ10.out.chg (Chg.new hal11 NoFp) (fun h => h))
        have hlt89 := Nat.lt_of_lt_of_le hlt89 hal11.size
        clear hal11
        refine hK _ _ (fun _ => ⟨HC11.out, HT11.out⟩) ?_
        clear hK K
        (apply wpPlan4_val; (case ho => rfl); (case hst => rfl); (case hw => rfl); (case hv => intro w' hS; (try (have hS := hS rfl; obtain ⟨x0, x1, x2, x3, x4, x5, x6, _, _, _⟩ := ch_cells hS.1; obtain ⟨x8, x9, x10, x11, _, _, _, _⟩ := four_cells hS.2)); go_simp; first | done | rfl); intro K hK; go_simp; refine hK _ ?_; clear hK K)
        (apply wpPlan4_val; (case ho => rfl); (case hst => rfl); (case hw => rfl); (case hv => intro w' hS; (try (have hS := hS rfl; obtain ⟨x0, x1, x2, x3, x4, x5, x6, _, _, _⟩ := ch_cells hS.1; obtain ⟨x8, x9, x10, x11, _, _, _, _⟩ := four_cells hS.2)); go_simp; first | done | rfl); intro K hK; go_simp; refine hK _ ?_; clear hK K)
        (apply wpPlan4_val; (case ho => rfl); (case hst => rfl); (case hw => rfl); (case hv => intro w' hS; (try (have hS := hS rfl; obtain ⟨x0, x1, x2, x3, x4, x5, x6, _, _, _⟩ := ch_cells hS.1; obtain ⟨x8, x9, x10, x11, _, _, _, _⟩ := four_cells hS.2)); go_simp; first | done | rfl); intro K hK; go_simp; refine hK _ ?_; clear hK K)
        (apply wpPlan4_val; (case ho => rfl); (case hst => rfl); (case hw => rfl); (case hv => intro w' hS; (try (have hS := hS rfl; obtain ⟨x0, x1, x2, x3, x4, x5, x6, _, _, _⟩ := ch_cells hS.1; obtain ⟨x8, x9, x10, x11, _, _, _, _⟩ := four_cells hS.2)); go_simp; first | done | rfl); intro K hK; go_simp; refine hK _ ?_; clear hK K)
        refine wpPlan4_list rfl rfl rfl (fun K hK => ?_)
        refine wpList_step (fun K2 hK2 => ?_)
        go_simp
        refine hK2 _ _ ?_
        clear hK2 K2
        simp only [wpList]
        have hal12 : Below w11.heap.size w11 (w11.alloc (.cells #[.bool false, .slice none 0 0, .slice none 0 0, .slice none 0 0] TN)) := (Below.refl _ _).alloc (Nat.le_refl _) _
        obtain ⟨q12, hq12⟩ : ∃ b, w11.heap.size = b := ⟨_, rfl⟩
        obtain ⟨w12, hw12⟩ : ∃ x, w11.alloc (.cells #[.bool false, .slice none 0 0, .slice none 0 0, .slice none 0 0] TN) = x := ⟨_, rfl⟩
        have HZ12 : Hid (Blk w12 q12 [.bool false, .slice none 0 0, .slice none 0 0, .slice none 0 0] TN) := hid (by rw [← hw12, ← hq12]; exact heap_alloc_new _ _)
        have hqg12 : t5 + 1 ≤ q12 := by omega
        rw [hw12] at hal12 ⊢
        rw [hq12]
        clear hw12
        have HC12 := hid (HC11.out.chg (Chg.new hal12 NoFp) (fun h => h))
        have HT12 := hid (HT11.out.chg (Chg.new hal12 NoFp) (fun h => h))
        have HB12 := hid (HB11.out.trans (hal12.mono (by have := HS5.out; omega)))
        have hsz12 : t5 + 1 ≤ w12.heap.size := Nat.le_trans hsz11 hal12.size
        have HZ10x11x12 := hid (HZ10x11.out.chg (Chg.new hal12 NoFp) (fun h => h))
        have HA11x12 := hid (HA11.out.new hal12)
        have HD11x12 := hid (HD11.out.new hal12)
        have hne89 : q10 ≠ q12 := by omega
        clear hq12
        clear hal12
        refine hK _ _ (fun _ => ⟨HC12.out, HT12.out⟩) ?_
        clear hK K
        obtain ⟨_, _, _, _, f0, f1, f2, f3⟩ := four_cells HZ10x11x12.out
        refine wpPlan4_list rfl rfl rfl (fun K hK => ?_)
        refine wpList_step (fun K2 hK2 => ?_)
        go_simp
        refine hK2 _ _ ?_
        clear hK2 K2
        simp only [wpList]
        have hfin13 := nset4 HZ10x11x12.out (.bool lf) (.slice pa A.keys.length ca) (.slice pa2 A.vals.length ca2) (.slice pa3 A.kids.length ca3)
        have hch13 := nchg4 (w := w12) (g := q10) (.bool lf) (.slice pa A.keys.length ca) (.slice pa2 A.vals.length ca2) (.slice pa3 A.kids.length ca3)
        obtain ⟨w13, hs13⟩ : ∃ x, (((w12.setCell ⟨q10, 0, none⟩ (.bool lf)).setCell ⟨q10, 1, none⟩ (.slice pa A.keys.length ca)).setCell ⟨q10, 2, none⟩ (.slice pa2 A.vals.length ca2)).setCell ⟨q10, 3, none⟩ (.slice pa3 A.kids.length ca3) = x := ⟨_, rfl⟩
        rw [hs13] at hfin13 hch13 ⊢
        clear hs13 f0 f1 f2 f3
        have HZ13 := hid hfin13
        have HO13 := hid (HZ12.out.chg hch13 (by omega))
        have HC13 := hid (HC12.out.chg hch13 (by have := HS5.out; omega))
        have HT13 := hid (HT12.out.chg hch13 (by omega))
        have HB13 := hid (HB12.out.trans (hch13.below (B := w.heap.size) (by have := HS5.out; omega) (by have := HS5.out; omega)))
        have HA13 := hid (HA11x12.out.chg2 hch13 HZ10x11x12.out)
        have HD13 := hid (HD11x12.out.chg2 hch13 HZ10x11x12.out)
        have hsz13 : t5 + 1 ≤ w13.heap.size := Nat.le_trans hsz12 hch13.size
        clear hfin13 hch13
        refine hK _ _ (fun _ => ⟨HC13.out, HT13.out⟩) ?_
        clear hK K
        obtain ⟨_, _, _, _, f0, f1, f2, f3⟩ := four_cells HO13.out
        refine wpPlan4_list rfl rfl rfl (fun K hK => ?_)
        refine wpList_step (fun K2 hK2 => ?_)
        go_simp
        refine hK2 _ _ ?_
        clear hK2 K2
        simp only [wpList]
        have hfin14 := nset4 HO13.out (.bool lf) (.slice pb C.keys.length cb) (.slice pb2 C.vals.length cb2) (.slice pb3 C.kids.length cb3)
        have hch14 := nchg4 (w := w13) (g := q12) (.bool lf) (.slice pb C.keys.length cb) (.slice pb2 C.vals.length cb2) (.slice pb3 C.kids.length cb3)
        obtain ⟨w14, hs14⟩ : ∃ x, (((w13.setCell ⟨q12, 0, none⟩ (.bool lf)).setCell ⟨q12, 1, none⟩ (.slice pb C.keys.length cb)).setCell ⟨q12, 2, none⟩ (.slice pb2 C.vals.length cb2)).setCell ⟨q12, 3, none⟩ (.slice pb3 C.kids.length cb3) = x := ⟨_, rfl⟩
        rw [hs14] at hfin14 hch14 ⊢
        clear hs14 f0 f1 f2 f3
        have HZ14 := hid hfin14
        have HO14 := hid (HZ13.out.chg hch14 (by omega))
        have HC14 := hid (HC13.out.chg hch14 (by have := HS5.out; omega))
        have HT14 := hid (HT13.out.chg hch14 (by omega))
        have HB14 := hid (HB13.out.trans (hch14.below (B := w.heap.size) (by have := HS5.out; omega) (by have := HS5.out; omega)))
        have HA14 := hid (HA13.out.chg2 hch14 HO13.out)
        have HD14 := hid (HD13.out.chg2 hch14 HO13.out)
        have hsz14 : t5 + 1 ≤ w14.heap.size := Nat.le_trans hsz13 hch14.size
        clear hfin14 hch14
        refine hK _ _ (fun _ => ⟨HC14.out, HT14.out⟩) ?_
        clear hK K
        (apply wpPlan4_val; (case ho => rfl); (case hst => rfl); (case hw => rfl); (case hv => intro w' hS; (try (have hS := hS rfl; obtain ⟨x0, x1, x2, x3, x4, x5, x6, _, _, _⟩ := ch_cells hS.1; obtain ⟨x8, x9, x10, x11, _, _, _, _⟩ := four_cells hS.2)); go_simp; first | done | rfl); intro K hK; go_simp; refine hK _ ?_; clear hK K)
        refine wpPlan4_nil ?_
        simp only [Qn]
        exact ⟨trivial, wr3_mk ⟨HQ11.out.1, HQ11.out.2.1, HQ11.out.2.2.1, HQ11.out.2.2.2.1, HQ11.out.2.2.2.2, HO14.out, HZ14.out, by have := HS5.out; omega, HA14.out, HD14.out, HC14.out, HB14.out, fun g hg => by have := HOWN.out g hg; have := HS5.out; have := hsz10; omega⟩ rfl rfl rfl rfl rfl rfl rfl⟩
      · refine effect_list rfl rfl (fun K hK => ?_)
        refine wpList_step (fun K2 hK2 => ?_)
        go_simp
        refine hK2 _ _ ?_
        clear hK2 K2
        simp only [wpList]
        have hal15 : Below w10.heap.size w10 (w10.alloc (.cells #[.bool false, .slice none 0 0, .slice none 0 0, .slice none 0 0] TN)) := (Below.refl _ _).alloc (Nat.le_refl _) _
        obtain ⟨q15, hq15⟩ : ∃ b, w10.heap.size = b := ⟨_, rfl⟩
        obtain ⟨w15, hw15⟩ : ∃ x, w10.alloc (.cells #[.bool false, .slice none 0 0, .slice none 0 0, .slice none 0 0] TN) = x := ⟨_, rfl⟩
        have HZ15 : Hid (Blk w15 q15 [.bool false, .slice none 0 0, .slice none 0 0, .slice none 0 0] TN) := hid (by rw [← hw15, ← hq15]; exact heap_alloc_new _ _)
        have hqg15 : t5 + 1 ≤ q15 := by omega
        rw [hw15] at hal15 ⊢
        rw [hq15]
        clear hw15
        have HC15 := hid (HC10.out.chg (Chg.new hal15 NoFp) (fun h => h))
        have HT15 := hid (HT10.out.chg (Chg.new hal15 NoFp) (fun h => h))
        have HB15 := hid (HB10.out.trans (hal15.mono (by have := HS5.out; omega)))
        have hsz15 : t5 + 1 ≤ w15.heap.size := Nat.le_trans hsz10 hal15.size
        have HZ10x15 := hid (HZ10.out.chg (Chg.new hal15 NoFp) (fun h => h))
        have hne89 : q10 ≠ q15 := by omega
        clear hq15
        clear hal15
        refine hK _ _ (fun _ => ⟨HC15.out, HT15.out⟩) ?_
        clear hK K
        refine wpPlan4_list rfl rfl rfl (fun K hK => ?_)
        refine wpList_step (fun K2 hK2 => ?_)
        go_simp
        refine (halves_any w15 nd lf pk nk ck pv nv cv pd nc cd last (HND.out.new HB15.out) HNK.out HNV.out HNC.out HOK.out HSZ.out HH2.out HH3.out HHL.out).mono ?_
        rintro e16 w16 ⟨A, C, k, pa, ca, pa2, ca2, pa3, ca3, pb, cb, pb2, cb2, pb3, cb3, hh1, hh2, hh3, hh4, hh5, rfl, hhA, hhC, hal16, hown⟩
        simp only [ndV]
        go_simp
        refine hK2 _ _ ?_
        clear hK2 K2
        simp only [wpList]
        have HQ16 := hid (And.intro hh1 (And.intro hh2 (And.intro hh3 (And.intro hh4 hh5))))
        have HA16 := hid hhA
        have HD16 := hid hhC
        have HOWN := hid hown
        clear hown hh1 hh2 hh3 hh4 hh5 hhA hhC
        have HC16 := hid (HC15.out.chg (Chg.new hal16 NoFp) (fun h => h))
        have HT16 := hid (HT15.out.chg (Chg.new hal16 NoFp) (fun h => h))
        have HB16 := hid (HB15.out.trans (hal16.mono (by have := HS5.out; omega)))
        have hsz16 : t5 + 1 ≤ w16.heap.size := Nat.le_trans hsz15 hal16.size
        have HZ10x15x16 := hid (HZ10x15.out.chg (Chg.new hal16 NoFp) (fun h => h))
        have HZ15x16 := hid (HZ15.out.chg (Chg.new hal16 NoFp) (fun h => h))
        clear hal16
        refine hK _ _ (fun _ => ⟨HC16.out, HT16.out⟩) ?_
        clear hK K
        (apply wpPlan4_val; (case ho => rfl); (case hst => rfl); (case hw => rfl); (case hv => intro w' hS; (try (have hS := hS rfl; obtain ⟨x0, x1, x2, x3, x4, x5, x6, _, _, _⟩ := ch_cells hS.1; obtain ⟨x8, x9, x10, x11, _, _, _, _⟩ := four_cells hS.2)); go_simp; first | done | rfl); intro K hK; go_simp; refine hK _ ?_; clear hK K)
        (apply wpPlan4_val; (case ho => rfl); (case hst => rfl); (case hw => rfl); (case hv => intro w' hS; (try (have hS := hS rfl; obtain ⟨x0, x1, x2, x3, x4, x5, x6, _, _, _⟩ := ch_cells hS.1; obtain ⟨x8, x9, x10, x11, _, _, _, _⟩ := four_cells hS.2)); go_simp; first | done | rfl); intro K hK; go_simp; refine hK _ ?_; clear hK K)
        (apply wpPlan4_val; (case ho => rfl); (case hst => rfl); (case hw => rfl); (case hv => intro w' hS; (try (have hS := hS rfl; obtain ⟨x0, x1, x2, x3, x4, x5, x6, _, _, _⟩ := ch_cells hS.1; obtain ⟨x8, x9, x10, x11, _, _, _, _⟩ := four_cells hS.2)); go_simp; first | done | rfl); intro K hK; go_simp; refine hK _ ?_; clear hK K)
        (apply wpPlan4_val; (case ho => rfl); (case hst => rfl); (case hw => rfl); (case hv => intro w' hS; (try (have hS := hS rfl; obtain ⟨x0, x1, x2, x3, x4, x5, x6, _, _, _⟩ := ch_cells hS.1; obtain ⟨x8, x9, x10, x11, _, _, _, _⟩ := four_cells hS.2)); go_simp; first | done | rfl); intro K hK; go_simp; refine hK _ ?_; clear hK K)
        obtain ⟨_, _, _, _, f0, f1, f2, f3⟩ := four_cells HZ10x15x16.out
        refine wpPlan4_list rfl rfl rfl (fun K hK => ?_)
        refine wpList_step (fun K2 hK2 => ?_)
        go_simp
        refine hK2 _ _ ?_
        clear hK2 K2
        simp only [wpList]
        have hfin17 := nset4 HZ10x15x16.out (.bool lf) (.slice pa A.keys.length ca) (.slice pa2 A.vals.length ca2) (.slice pa3 A.kids.length ca3)
        have hch17 := nchg4 (w := w16) (g := q10) (.bool lf) (.slice pa A.keys.length ca) (.slice pa2 A.vals.length ca2) (.slice pa3 A.kids.length ca3)
        obtain ⟨w17, hs17⟩ : ∃ x, (((w16.setCell ⟨q10, 0, none⟩ (.bool lf)).setCell ⟨q10, 1, none⟩ (.slice pa A.keys.length ca)).setCell ⟨q10, 2, none⟩ (.slice pa2 A.vals.length ca2)).setCell ⟨q10, 3, none⟩ (.slice pa3 A.kids.length ca3) = x := ⟨_, rfl⟩
        rw [hs17] at hfin17 hch17 ⊢
        clear hs17 f0 f1 f2 f3
        have HZ17 := hid hfin17
        have HO17 := hid (HZ15x16.out.chg hch17 (by omega))
        have HC17 := hid (HC16.out.chg hch17 (by have := HS5.out; omega))
        have HT17 := hid (HT16.out.chg hch17 (by omega))
        have HB17 := hid (HB16.out.trans (hch17.below (B := w.heap.size) (by have := HS5.out; omega) (by have := HS5.out; omega)))
        have HA17 := hid (HA16.out.chg2 hch17 HZ10x15x16.out)
        have HD17 := hid (HD16.out.chg2 hch17 HZ10x15x16.out)
        have hsz17 : t5 + 1 ≤ w17.heap.size := Nat.le_trans hsz16 hch17.size
        clear hfin17 hch17
        refine hK _ _ (fun _ => ⟨HC17.out, HT17.out⟩) ?_
        clear hK K
        obtain ⟨_, _, _, _, f0, f1, f2, f3⟩ := four_cells HO17.out
        refine wpPlan4_list rfl rfl rfl (fun K hK => ?_)
        refine wpList_step (fun K2 hK2 => ?_)
        go_simp
        refine hK2 _ _ ?_
        clear hK2 K2
        simp only [wpList]
        have hfin18 := nset4 HO17.out (.bool lf) (.slice pb C.keys.length cb) (.slice pb2 C.vals.length cb2) (.slice pb3 C.kids.length cb3)
        have hch18 := nchg4 (w := w17) (g := q15) (.bool lf) (.slice pb C.keys.length cb) (.slice pb2 C.vals.length cb2) (.slice pb3 C.kids.length cb3)
        obtain ⟨w18, hs18⟩ : ∃ x, (((w17.setCell ⟨q15, 0, none⟩ (.bool lf)).setCell ⟨q15, 1, none⟩ (.slice pb C.keys.length cb)).setCell ⟨q15, 2, none⟩ (.slice pb2 C.vals.length cb2)).setCell ⟨q15, 3, none⟩ (.slice pb3 C.kids.length cb3) = x := ⟨_, rfl⟩
        rw [hs18] at hfin18 hch18 ⊢
        clear hs18 f0 f1 f2 f3
        have HZ18 := hid hfin18
        have HO18 := hid (HZ17.out.chg hch18 (by omega))
        have HC18 := hid (HC17.out.chg hch18 (by have := HS5.out; omega))
        have HT18 := hid (HT17.out.chg hch18 (by omega))
        have HB18 := hid (HB17.out.trans (hch18.below (B := w.heap.size) (by have := HS5.out; omega) (by have := HS5.out; omega)))
        have HA18 := hid (HA17.out.chg2 hch18 HO17.out)
        have HD18 := hid (HD17.out.chg2 hch18 HO17.out)
        have hsz18 : t5 + 1 ≤ w18.heap.size := Nat.le_trans hsz17 hch18.size
        clear hfin18 hch18
        refine hK _ _ (fun _ => ⟨HC18.out, HT18.out⟩) ?_
        clear hK K
        (apply wpPlan4_val; (case ho => rfl); (case hst => rfl); (case hw => rfl); (case hv => intro w' hS; (try (have hS := hS rfl; obtain ⟨x0, x1, x2, x3, x4, x5, x6, _, _, _⟩ := ch_cells hS.1; obtain ⟨x8, x9, x10, x11, _, _, _, _⟩ := four_cells hS.2)); go_simp; first | done | rfl); intro K hK; go_simp; refine hK _ ?_; clear hK K)
        refine wpPlan4_nil ?_
        simp only [Qn]
        exact ⟨trivial, wr3_mk ⟨HQ16.out.1, HQ16.out.2.1, HQ16.out.2.2.1, HQ16.out.2.2.2.1, HQ16.out.2.2.2.2, HO18.out, HZ18.out, by have := HS5.out; omega, HA18.out, HD18.out, HC18.out, HB18.out, fun g hg => by have := HOWN.out g hg; have := HS5.out; have := hsz15; omega⟩ rfl rfl rfl rfl rfl rfl rfl⟩
    · refine effect_list rfl rfl (fun K hK => ?_)
      refine wpList_step (fun K2 hK2 => ?_)
      go_simp
      refine hK2 _ _ ?_
      clear hK2 K2
      simp only [wpList]
      have hal19 : Below wz.heap.size wz (wz.alloc (.cells #[.bool false, .slice none 0 0, .slice none 0 0, .slice none 0 0] TN)) := (Below.refl _ _).alloc (Nat.le_refl _) _
      obtain ⟨q19, hq19⟩ : ∃ b, wz.heap.size = b := ⟨_, rfl⟩
      obtain ⟨w19, hw19⟩ : ∃ x, wz.alloc (.cells #[.bool false, .slice none 0 0, .slice none 0 0, .slice none 0 0] TN) = x := ⟨_, rfl⟩
      have HZ19 : Hid (Blk w19 q19 [.bool false, .slice none 0 0, .slice none 0 0, .slice none 0 0] TN) := hid (by rw [← hw19, ← hq19]; exact heap_alloc_new _ _)
      have hqg19 : t5 + 1 ≤ q19 := by omega
      rw [hw19] at hal19 ⊢
      rw [hq19]
      clear hw19
      have HC19 := hid (HCz.out.chg (Chg.new hal19 NoFp) (fun h => h))
      have HT19 := hid (HTz.out.chg (Chg.new hal19 NoFp) (fun h => h))
      have HB19 := hid (HBz.out.trans (hal19.mono (by have := HS5.out; omega)))
      have hsz19 : t5 + 1 ≤ w19.heap.size := Nat.le_trans hsz1 hal19.size
      have hlt89 : q19 < w19.heap.size := HZ19.out.lt
      clear hal19
      refine hK _ _ (fun _ => ⟨HC19.out, HT19.out⟩) ?_
      clear hK K
      refine ⟨?_, ?_⟩
      · refine effect_list rfl rfl (fun K hK => ?_)
        refine wpList_step (fun K2 hK2 => ?_)
        go_simp
        refine (halves_any w19 nd lf pk nk ck pv nv cv pd nc cd last (HND.out.new HB19.out) HNK.out HNV.out HNC.out HOK.out HSZ.out HH2.out HH3.out HHL.out).mono ?_
        rintro e20 w20 ⟨A, C, k, pa, ca, pa2, ca2, pa3, ca3, pb, cb, pb2, cb2, pb3, cb3, hh1, hh2, hh3, hh4, hh5, rfl, hhA, hhC, hal20, hown⟩
        simp only [ndV]
        go_simp
        refine hK2 _ _ ?_
        clear hK2 K2
        simp only [wpList]
        have HQ20 := hid (And.intro hh1 (And.intro hh2 (And.intro hh3 (And.intro hh4 hh5))))
        have HA20 := hid hhA
        have HD20 := hid hhC
        have HOWN := hid hown
        clear hown hh1 hh2 hh3 hh4 hh5 hhA hhC
        have HC20 := hid (HC19.out.chg (Chg.new hal20 NoFp) (fun h => h))
        have HT20 := hid (HT19.out.chg (Chg.new hal20 NoFp) (fun h => h))
        have HB20 := hid (HB19.out.trans (hal20.mono (by have := HS5.out; omega)))
        have hsz20 : t5 + 1 ≤ w20.heap.size := Nat.le_trans hsz19 hal20.size
        have HZ19x20 := hid (HZ19.out.chg (Chg.new hal20 NoFp) (fun h => h))
        have hlt89 := Nat.lt_of_lt_of_le hlt89 hal20.size
        clear hal20
        refine hK _ _ (fun _ => ⟨HC20.out, HT20.out⟩) ?_
        clear hK K
        (apply wpPlan4_val; (case ho => rfl); (case hst => rfl); (case hw => rfl); (case hv => intro w' hS; (try (have hS := hS rfl; obtain ⟨x0, x1, x2, x3, x4, x5, x6, _, _, _⟩ := ch_cells hS.1; obtain ⟨x8, x9, x10, x11, _, _, _, _⟩ := four_cells hS.2)); go_simp; first | done | rfl); intro K hK; go_simp; refine hK _ ?_; clear hK K)
        (apply wpPlan4_val; (case ho => rfl); (case hst => rfl); (case hw => rfl); (case hv => intro w' hS; (try (have hS := hS rfl; obtain ⟨x0, x1, x2, x3, x4, x5, x6, _, _, _⟩ := ch_cells hS.1; obtain ⟨x8, x9, x10, x11, _, _, _, _⟩ := four_cells hS.2)); go_simp; first | done | rfl); intro K hK; go_simp; refine hK _ ?_; clear hK K)
        (apply wpPlan4_val; (case ho => rfl); (case hst => rfl); (case hw => rfl); (case hv => intro w' hS; (try (have hS := hS rfl; obtain ⟨x0, x1, x2, x3, x4, x5, x6, _, _, _⟩ := ch_cells hS.1; obtain ⟨x8, x9, x10, x11, _, _, _, _⟩ := four_cells hS.2)); go_simp; first | done | rfl); intro K hK; go_simp; refine hK _ ?_; clear hK K)
        (apply wpPlan4_val; (case ho => rfl); (case hst => rfl); (case hw => rfl); (case hv => intro w' hS; (try (have hS := hS rfl; obtain ⟨x0, x1, x2, x3, x4, x5, x6, _, _, _⟩ := ch_cells hS.1; obtain ⟨x8, x9, x10, x11, _, _, _, _⟩ := four_cells hS.2)); go_simp; first | done | rfl); intro K hK; go_simp; refine hK _ ?_; clear hK K)
        refine wpPlan4_list rfl rfl rfl (fun K hK => ?_)
        refine wpList_step (fun K2 hK2 => ?_)
        go_simp
        refine hK2 _ _ ?_
        clear hK2 K2
        simp only [wpList]
        have hal21 : Below w20.heap.size w20 (w20.alloc (.cells #[.bool false, .slice none 0 0, .slice none 0 0, .slice none 0 0] TN)) := (Below.refl _ _).alloc (Nat.le_refl _) _
        obtain ⟨q21, hq21⟩ : ∃ b, w20.heap.size = b := ⟨_, rfl⟩
        obtain ⟨w21, hw21⟩ : ∃ x, w20.alloc (.cells #[.bool false, .slice none 0 0, .slice none 0 0, .slice none 0 0] TN) = x := ⟨_, rfl⟩
        have HZ21 : Hid (Blk w21 q21 [.bool false, .slice none 0 0, .slice none 0 0, .slice none 0 0] TN) := hid (by rw [← hw21, ← hq21]; exact heap_alloc_new _ _)
        have hqg21 : t5 + 1 ≤ q21 := by omega
        rw [hw21] at hal21 ⊢
        rw [hq21]
        clear hw21
        have HC21 := hid (HC20.out.chg (Chg.new hal21 NoFp) (fun h => h))
        have HT21 := hid (HT20.out.chg (Chg.new hal21 NoFp) (fun h => h))
        have HB21 := hid (HB20.out.trans (hal21.mono (by have := HS5.out; omega)))
        have hsz21 : t5 + 1 ≤ w21.heap.size := Nat.le_trans hsz20 hal21.size
        have HZ19x20x21 := hid (HZ19x20.out.chg (Chg.new hal21 NoFp) (fun h => h))
        have HA20x21 := hid (HA20.out.new hal21)
        have HD20x21 := hid (HD20.out.new hal21)
        have hne89 : q21 ≠ q19 := by omega
        clear hq21
        clear hal21
        refine hK _ _ (fun _ => ⟨HC21.out, HT21.out⟩) ?_
        clear hK K
        obtain ⟨_, _, _, _, f0, f1, f2, f3⟩ := four_cells HZ21.out
        refine wpPlan4_list rfl rfl rfl (fun K hK => ?_)
        refine wpList_step (fun K2 hK2 => ?_)
        go_simp
        refine hK2 _ _ ?_
        clear hK2 K2
        simp only [wpList]
        have hfin22 := nset4 HZ21.out (.bool lf) (.slice pa A.keys.length ca) (.slice pa2 A.vals.length ca2) (.slice pa3 A.kids.length ca3)
        have hch22 := nchg4 (w := w21) (g := q21) (.bool lf) (.slice pa A.keys.length ca) (.slice pa2 A.vals.length ca2) (.slice pa3 A.kids.length ca3)
        obtain ⟨w22, hs22⟩ : ∃ x, (((w21.setCell ⟨q21, 0, none⟩ (.bool lf)).setCell ⟨q21, 1, none⟩ (.slice pa A.keys.length ca)).setCell ⟨q21, 2, none⟩ (.slice pa2 A.vals.length ca2)).setCell ⟨q21, 3, none⟩ (.slice pa3 A.kids.length ca3) = x := ⟨_, rfl⟩
        rw [hs22] at hfin22 hch22 ⊢
        clear hs22 f0 f1 f2 f3
        have HZ22 := hid hfin22
        have HO22 := hid (HZ19x20x21.out.chg hch22 (by omega))
        have HC22 := hid (HC21.out.chg hch22 (by have := HS5.out; omega))
        have HT22 := hid (HT21.out.chg hch22 (by omega))
        have HB22 := hid (HB21.out.trans (hch22.below (B := w.heap.size) (by have := HS5.out; omega) (by have := HS5.out; omega)))
        have HA22 := hid (HA20x21.out.chg2 hch22 HZ21.out)
        have HD22 := hid (HD20x21.out.chg2 hch22 HZ21.out)
        have hsz22 : t5 + 1 ≤ w22.heap.size := Nat.le_trans hsz21 hch22.size
        clear hfin22 hch22
        refine hK _ _ (fun _ => ⟨HC22.out, HT22.out⟩) ?_
        clear hK K
        obtain ⟨_, _, _, _, f0, f1, f2, f3⟩ := four_cells HO22.out
        refine wpPlan4_list rfl rfl rfl (fun K hK => ?_)
        refine wpList_step (fun K2 hK2 => ?_)
        go_simp
        refine hK2 _ _ ?_
        clear hK2 K2
        simp only [wpList]
        have hfin23 := nset4 HO22.out (.bool lf) (.slice pb C.keys.length cb) (.slice pb2 C.vals.length cb2) (.slice pb3 C.kids.length cb3)
        have hch23 := nchg4 (w := w22) (g := q19) (.bool lf) (.slice pb C.keys.length cb) (.slice pb2 C.vals.length cb2) (.slice pb3 C.kids.length cb3)
        obtain ⟨w23, hs23⟩ : ∃ x, (((w22.setCell ⟨q19, 0, none⟩ (.bool lf)).setCell ⟨q19, 1, none⟩ (.slice pb C.keys.length cb)).setCell ⟨q19, 2, none⟩ (.slice pb2 C.vals.length cb2)).setCell ⟨q19, 3, none⟩ (.slice pb3 C.kids.length cb3) = x := ⟨_, rfl⟩
        rw [hs23] at hfin23 hch23 ⊢
        clear hs23 f0 f1 f2 f3
        have HZ23 := hid hfin23
        have HO23 := hid (HZ22.out.chg hch23 (by omega))
        have HC23 := hid (HC22.out.chg hch23 (by have := HS5.out; omega))
        have HT23 := hid (HT22.out.chg hch23 (by omega))
        have HB23 := hid (HB22.out.trans (hch23.below (B := w.heap.size) (by have := HS5.out; omega) (by have := HS5.out; omega)))
        have HA23 := hid (HA22.out.chg2 hch23 HO22.out)
        have HD23 := hid (HD22.out.chg2 hch23 HO22.out)
        have hsz23 : t5 + 1 ≤ w23.heap.size := Nat.le_trans hsz22 hch23.size
        clear hfin23 hch23
        refine hK _ _ (fun _ => ⟨HC23.out, HT23.out⟩) ?_
        clear hK K
        (apply wpPlan4_val; (case ho => rfl); (case hst => rfl); (case hw => rfl); (case hv => intro w' hS; (try (have hS := hS rfl; obtain ⟨x0, x1, x2, x3, x4, x5, x6, _, _, _⟩ := ch_cells hS.1; obtain ⟨x8, x9, x10, x11, _, _, _, _⟩ := four_cells hS.2)); go_simp; first | done | rfl); intro K hK; go_simp; refine hK _ ?_; clear hK K)
        refine wpPlan4_nil ?_
        simp only [Qn]
        exact ⟨trivial, wr3_mk ⟨HQ20.out.1, HQ20.out.2.1, HQ20.out.2.2.1, HQ20.out.2.2.2.1, HQ20.out.2.2.2.2, HO23.out, HZ23.out, by have := HS5.out; omega, HA23.out, HD23.out, HC23.out, HB23.out, fun g hg => by have := HOWN.out g hg; have := HS5.out; have := hsz19; omega⟩ rfl rfl rfl rfl rfl rfl rfl⟩
      · refine effect_list rfl rfl (fun K hK => ?_)
        refine wpList_step (fun K2 hK2 => ?_)
        go_simp
        refine hK2 _ _ ?_
        clear hK2 K2
        simp only [wpList]
        have hal24 : Below w19.heap.size w19 (w19.alloc (.cells #[.bool false, .slice none 0 0, .slice none 0 0, .slice none 0 0] TN)) := (Below.refl _ _).alloc (Nat.le_refl _) _
        obtain ⟨q24, hq24⟩ : ∃ b, w19.heap.size = b := ⟨_, rfl⟩
        obtain ⟨w24, hw24⟩ : ∃ x, w19.alloc (.cells #[.bool false, .slice none 0 0, .slice none 0 0, .slice none 0 0] TN) = x := ⟨_, rfl⟩
        have HZ24 : Hid (Blk w24 q24 [.bool false, .slice none 0 0, .slice none 0 0, .slice none 0 0] TN) := hid (by rw [← hw24, ← hq24]; exact heap_alloc_new _ _)
        have hqg24 : t5 + 1 ≤ q24 := by omega
        rw [hw24] at hal24 ⊢
        rw [hq24]
        clear hw24
        have HC24 := hid (HC19.out.chg (Chg.new hal24 NoFp) (fun h => h))
        have HT24 := hid (HT19.out.chg (Chg.new hal24 NoFp) (fun h => h))
        have HB24 := hid (HB19.out.trans (hal24.mono (by have := HS5.out; omega)))
        have hsz24 : t5 + 1 ≤ w24.heap.size := Nat.le_trans hsz19 hal24.size
        have HZ19x24 := hid (HZ19.out.chg (Chg.new hal24 NoFp) (fun h => h))
        have hne89 : q24 ≠ q19 := by omega
        clear hq24
        clear hal24
        refine hK _ _ (fun _ => ⟨HC24.out, HT24.out⟩) ?_
        clear hK K
        refine wpPlan4_list rfl rfl rfl (fun K hK => ?_)
        refine wpList_step (fun K2 hK2 => ?_)
        go_simp
        refine (halves_any w24 nd lf pk nk ck pv nv cv pd nc cd last (HND.out.new HB24.out) HNK.out HNV.out HNC.out HOK.out HSZ.out HH2.out HH3.out HHL.out).mono ?_
        rintro e25 w25 ⟨A, C, k, pa, ca, pa2, ca2, pa3, ca3, pb, cb, pb2, cb2, pb3, cb3, hh1, hh2, hh3, hh4, hh5, rfl, hhA, hhC, hal25, hown⟩
        simp only [ndV]
        go_simp
        refine hK2 _ _ ?_
        clear hK2 K2
        simp only [wpList]
        have HQ25 := hid (And.intro hh1 (And.intro hh2 (And.intro hh3 (And.intro hh4 hh5))))
        have HA25 := hid hhA
        have HD25 := hid hhC
        have HOWN := hid hown
        clear hown hh1 hh2 hh3 hh4 hh5 hhA hhC
        have HC25 := hid (HC24.out.chg (Chg.new hal25 NoFp) (fun h => h))
        have HT25 := hid (HT24.out.chg (Chg.new hal25 NoFp) (fun h => h))
        have HB25 := hid (HB24.out.trans (hal25.mono (by have := HS5.out; omega)))
        have hsz25 : t5 + 1 ≤ w25.heap.size := Nat.le_trans hsz24 hal25.size
        have HZ24x25 := hid (HZ24.out.chg (Chg.new hal25 NoFp) (fun h => h))
        have HZ19x24x25 := hid (HZ19x24.out.chg (Chg.new hal25 NoFp) (fun h => h))
        clear hal25
        refine hK _ _ (fun _ => ⟨HC25.out, HT25.out⟩) ?_
        clear hK K
        (apply wpPlan4_val; (case ho => rfl); (case hst => rfl); (case hw => rfl); (case hv => intro w' hS; (try (have hS := hS rfl; obtain ⟨x0, x1, x2, x3, x4, x5, x6, _, _, _⟩ := ch_cells hS.1; obtain ⟨x8, x9, x10, x11, _, _, _, _⟩ := four_cells hS.2)); go_simp; first | done | rfl); intro K hK; go_simp; refine hK _ ?_; clear hK K)
        (apply wpPlan4_val; (case ho => rfl); (case hst => rfl); (case hw => rfl); (case hv => intro w' hS; (try (have hS := hS rfl; obtain ⟨x0, x1, x2, x3, x4, x5, x6, _, _, _⟩ := ch_cells hS.1; obtain ⟨x8, x9, x10, x11, _, _, _, _⟩ := four_cells hS.2)); go_simp; first | done | rfl); intro K hK; go_simp; refine hK _ ?_; clear hK K)
        (apply wpPlan4_val; (case ho => rfl); (case hst => rfl); (case hw => rfl); (case hv => intro w' hS; (try (have hS := hS rfl; obtain ⟨x0, x1, x2, x3, x4, x5, x6, _, _, _⟩ := ch_cells hS.1; obtain ⟨x8, x9, x10, x11, _, _, _, _⟩ := four_cells hS.2)); go_simp; first | done | rfl); intro K hK; go_simp; refine hK _ ?_; clear hK K)
        (apply wpPlan4_val; (case ho => rfl); (case hst => rfl); (case hw => rfl); (case hv => intro w' hS; (try (have hS := hS rfl; obtain ⟨x0, x1, x2, x3, x4, x5, x6, _, _, _⟩ := ch_cells hS.1; obtain ⟨x8, x9, x10, x11, _, _, _, _⟩ := four_cells hS.2)); go_simp; first | done | rfl); intro K hK; go_simp; refine hK _ ?_; clear hK K)
        obtain ⟨_, _, _, _, f0, f1, f2, f3⟩ := four_cells HZ24x25.out
        refine wpPlan4_list rfl rfl rfl (fun K hK => ?_)
        refine wpList_step (fun K2 hK2 => ?_)
        go_simp
        refine hK2 _ _ ?_
        clear hK2 K2
        simp only [wpList]
        have hfin26 := nset4 HZ24x25.out (.bool lf) (.slice pa A.keys.length ca) (.slice pa2 A.vals.length ca2) (.slice pa3 A.kids.length ca3)
        have hch26 := nchg4 (w := w25) (g := q24) (.bool lf) (.slice pa A.keys.length ca) (.slice pa2 A.vals.length ca2) (.slice pa3 A.kids.length ca3)
        obtain ⟨w26, hs26⟩ : ∃ x, (((w25.setCell ⟨q24, 0, none⟩ (.bool lf)).setCell ⟨q24, 1, none⟩ (.slice pa A.keys.length ca)).setCell ⟨q24, 2, none⟩ (.slice pa2 A.vals.length ca2)).setCell ⟨q24, 3, none⟩ (.slice pa3 A.kids.length ca3) = x := ⟨_, rfl⟩
        rw [hs26] at hfin26 hch26 ⊢
        clear hs26 f0 f1 f2 f3
        have HZ26 := hid hfin26
        have HO26 := hid (HZ19x24x25.out.chg hch26 (by omega))
        have HC26 := hid (HC25.out.chg hch26 (by have := HS5.out; omega))
        have HT26 := hid (HT25.out.chg hch26 (by omega))
        have HB26 := hid (HB25.out.trans (hch26.below (B := w.heap.size) (by have := HS5.out; omega) (by have := HS5.out; omega)))
        have HA26 := hid (HA25.out.chg2 hch26 HZ24x25.out)
        have HD26 := hid (HD25.out.chg2 hch26 HZ24x25.out)
        have hsz26 : t5 + 1 ≤ w26.heap.size := Nat.le_trans hsz25 hch26.size
        clear hfin26 hch26
        refine hK _ _ (fun _ => ⟨HC26.out, HT26.out⟩) ?_
        clear hK K
        obtain ⟨_, _, _, _, f0, f1, f2, f3⟩ := four_cells HO26.out
        refine wpPlan4_list rfl rfl rfl (fun K hK => ?_)
        refine wpList_step (fun K2 hK2 => ?_)
        go_simp
        refine hK2 _ _ ?_
        clear hK2 K2
        simp only [wpList]
        have hfin27 := nset4 HO26.out (.bool lf) (.slice pb C.keys.length cb) (.slice pb2 C.vals.length cb2) (.slice pb3 C.kids.length cb3)
        have hch27 := nchg4 (w := w26) (g := q19) (.bool lf) (.slice pb C.keys.length cb) (.slice pb2 C.vals.length cb2) (.slice pb3 C.kids.length cb3)
        obtain ⟨w27, hs27⟩ : ∃ x, (((w26.setCell ⟨q19, 0, none⟩ (.bool lf)).setCell ⟨q19, 1, none⟩ (.slice pb C.keys.length cb)).setCell ⟨q19, 2, none⟩ (.slice pb2 C.vals.length cb2)).setCell ⟨q19, 3, none⟩ (.slice pb3 C.kids.length cb3) = x := ⟨_, rfl⟩
        rw [hs27] at hfin27 hch27 ⊢
        clear hs27 f0 f1 f2 f3
        have HZ27 := hid hfin27
        have HO27 := hid (HZ26.out.chg hch27 (by omega))
        have HC27 := hid (HC26.out.chg hch27 (by have := HS5.out; omega))
        have HT27 := hid (HT26.out.chg hch27 (by omega))
        have HB27 := hid (HB26.out.trans (hch27.below (B := w.heap.size) (by have := HS5.out; omega) (by have := HS5.out; omega)))
        have HA27 := hid (HA26.out.chg2 hch27 HO26.out)
        have HD27 := hid (HD26.out.chg2 hch27 HO26.out)
        have hsz27 : t5 + 1 ≤ w27.heap.size := Nat.le_trans hsz26 hch27.size
        clear hfin27 hch27
        refine hK _ _ (fun _ => ⟨HC27.out, HT27.out⟩) ?_
        clear hK K
        (apply wpPlan4_val; (case ho => rfl); (case hst => rfl); (case hw => rfl); (case hv => intro w' hS; (try (have hS := hS rfl; obtain ⟨x0, x1, x2, x3, x4, x5, x6, _, _, _⟩ := ch_cells hS.1; obtain ⟨x8, x9, x10, x11, _, _, _, _⟩ := four_cells hS.2)); go_simp; first | done | rfl); intro K hK; go_simp; refine hK _ ?_; clear hK K)
        refine wpPlan4_nil ?_
        simp only [Qn]
        exact ⟨trivial, wr3_mk ⟨HQ25.out.1, HQ25.out.2.1, HQ25.out.2.2.1, HQ25.out.2.2.2.1, HQ25.out.2.2.2.2, HO27.out, HZ27.out, by have := HS5.out; omega, HA27.out, HD27.out, HC27.out, HB27.out, fun g hg => by have := HOWN.out g hg; have := HS5.out; have := hsz24; omega⟩ rfl rfl rfl rfl rfl rfl rfl⟩
  case join =>
    rintro e a' w3 ⟨rfl, A, C, pa, ca, pa2, ca2, pa3, ca3, pb, cb, pb2, cb2, pb3, cb3, b8, b9, k, u, HL, u0, u1, u8, u9, u10, rfl⟩
    rw [u0, u1, u8, u9, u10]
    clear u0 u1 u8 u9 u10
    have hst1 := HST.out.put (.inl rfl) (by rw [HAB.out.1]; rfl) A HL.out.okA HL.out.szA HAB.out.2
    obtain ⟨T1, hput1, hs1, hr1, _⟩ := hst1
    obtain ⟨to, T2, hnew, hto, hto6, hs2, hB2, hr2⟩ := hs1.new hM hU
    obtain ⟨T3, hput3, hs3, hr3, _⟩ := hs2.put (.inr rfl) hB2 C HL.out.okC HL.out.szC hto6
    have hne : to ≠ at_ := fun h => by rw [h, updN_same] at hto; cases hto
    rw [updN_other hne] at hto
    have HP1 := hid hput1
    have HP2 := hid hnew
    have HP3 := hid hput3
    have HFIN : Hid (Nf to = none ∧ Halves nd A C k ∧ Sto T3 (updN (updN Nf at_ (some A)) to (some C)) (U + 1) M none ∧ T3.root = T.root) := hid ⟨hto, HL.out.halves, hs3, by rw [hr3, hr2, hr1]⟩
    clear hput1 hs1 hr1 hnew hs2 hB2 hr2 hput3 hs3 hr3 hne hto
    have HC3 := hid HL.out.ch
    have H83 := hid HL.out.t8
    have H93 := hid HL.out.t9
    have HG3 : Hid (Chg F w w3) := hid (Chg.new HL.out.below F)
    have HPG3 := hid (HPG.out.new' HL.out.below)
    have HNA := hid HL.out.nA
    have HNC3 := hid HL.out.nC
    have HSA := hid HL.out.szA
    have HSC := hid HL.out.szC
    have HVA := hid (fun h => (okn_leaf HL.out.okA h).1)
    have HVC := hid (fun h => (okn_leaf HL.out.okC h).1)
    have hge := HL.out.ge
    have HIN := hid (HL.out.nC.in_ HL.out.own)
    have hb9l := HL.out.t9.lt
    have hb8l := HL.out.t8.lt
    have hG3 := HL.out.below.size
    clear HL HCz HTz HBz hsz1
    go_wp2_with fail
    obtain ⟨zd, hzd⟩ : ∃ x, w3.drew = x := ⟨_, rfl⟩
    have hbzd : Below w3.heap.size w3 zd := by rw [← hzd]; exact below_drewN (Below.refl _ _) 1
    have HCzd := hid (HC3.out.chg (Chg.new hbzd NoFp) (fun h => h))
    have H8zd := hid (H83.out.chg (Chg.new hbzd NoFp) (fun h => h))
    have H9zd := hid (H93.out.chg (Chg.new hbzd NoFp) (fun h => h))
    have HGzd := hid (HG3.out.trans (Chg.new hbzd NoFp) (fun _ _ h => h.elim))
    have HPzd := hid (HPG3.out.new' hbzd)
    have HNzd := hid (HNC3.out.new hbzd)
    have HAzd := hid (HNA.out.new hbzd)
    refine wp_region_plan3 (fun w' => Blk w' c (chC p key val del was last lv) TCh ∧ Blk w' b8 [.bool lf, .slice pa A.keys.length ca, .slice pa2 A.vals.length ca2, .slice pa3 A.kids.length ca3] TN) (fun j => !([6, 7].contains j)) (fun j => [3, 5].contains j) (fun _ => false)
      (.cons 0 (.cons 1 (.cons 2 (.cons 3 (.cons 4 (.cons 5 (.cons 6 (.cons 7 (.cons 8 .nil))))))))) (by kernel_rfl) (by kernel_rfl) rfl (by kernel_rfl) (by kernel_rfl) (by rw [hzd]; exact ⟨HCzd.out, H8zd.out⟩) ?_
    iterate 6 (apply wpPlan3_val; (case ho => rfl); (case hst => rfl); (case hw => rfl); (case hv => intro w' hS; (try (have hS := hS rfl; obtain ⟨x0, x1, x2, x3, x4, x5, x6, _, _, _⟩ := ch_cells hS.1; obtain ⟨x8, x9, x10, x11, _, _, _, _⟩ := four_cells hS.2)); go_simp; first | done | rfl); intro K hK; go_simp; refine hK _ ?_; clear hK K)
    rw [hzd]
    clear hzd
    refine wpPlan3_list rfl rfl rfl (fun K hK => ?_)
    refine wpList_step (fun K2 hK2 => ?_)
    go_simp
    refine (bytes_any zd A lf pa _ ca pa2 _ ca2 pa3 _ ca3 HAzd.out rfl rfl rfl HVA.out (by have := HSA.out; omega)).mono ?_
    rintro e4 w4 ⟨pb4, cb4, rfl, hob4, hal4⟩
    go_simp
    refine hK2 _ _ ?_
    clear hK2 K2
    simp only [wpList]
    have HO4 := hid (Rd.of_own hob4)
    have HC4 := hid (HCzd.out.chg (Chg.new hal4 NoFp) (fun h => h))
    have H84 := hid (H8zd.out.chg (Chg.new hal4 NoFp) (fun h => h))
    have H94 := hid (H9zd.out.chg (Chg.new hal4 NoFp) (fun h => h))
    have HG4 := hid (HGzd.out.trans (Chg.new hal4 NoFp) (fun _ _ h => h.elim))
    have HP4 := hid (HPzd.out.new' hal4)
    have HN4 := hid (HNzd.out.new hal4)
    refine hK _ _ (fun _ => ⟨HC4.out, H84.out⟩) ?_
    clear hK K
    refine wpPlan3_list rfl rfl rfl (fun K hK => ?_)
    refine wpList_step (fun K2 hK2 => ?_)
    go_simp
    refine (HP4.out.put (at_ : Int) _ (enc A) HO4.out (by rw [enc_length]; have := HSA.out; omega) (by omega)).mono ?_
    rw [HP1.out]
    rintro e5 w5 ⟨rfl, F5, N5, hv5, hN5, hc5, hF5⟩
    go_simp
    refine hK2 _ _ ?_
    clear hK2 K2
    simp only [wpList]
    have hFl : ∀ k, F k → k < w.heap.size := HPG.out.lt
    have hX0 : ∀ k, F k → F k ∨ w3.heap.size ≤ k := fun k h => .inl h
    have hsz4 : w3.heap.size ≤ w4.heap.size := by have := hbzd.size; have := hal4.size; omega
    have hout5 : ∀ g, w.heap.size ≤ g → g < w3.heap.size → ¬ F g := fun g h1 h2 h => by rcases hX0 g h with h3 | h3; have := hFl _ h3; omega; omega
    have HC5 := hid (HC4.out.chg hc5 HCF.out)
    have H85 := hid (H84.out.chg hc5 (hout5 b8 (by omega) (by omega)))
    have H95 := hid (H94.out.chg hc5 (hout5 b9 (by omega) (by omega)))
    have HG5 := hid (HG4.out.trans hc5 (fun k hk h => by rcases hX0 k h with h3 | h3; exact h3; exact absurd hk (by omega)))
    have HP5 := hid hv5
    have HN5 := hid (HN4.out.stay HIN.out hc5 hout5)
    have hz5 := hc5.size
    have hX5 : ∀ k, F5 k → F k ∨ w3.heap.size ≤ k := fun k h => by rcases hF5 k h with h2 | h2; exact hX0 k h2; exact .inr (by omega)
    have hNN5 : N5 ≤ N + 1 := hN5
    clear hv5 hN5 hF5 hc5 hal4 hob4 HO4 hbzd
    refine hK _ _ (fun _ => ⟨HC5.out, H85.out⟩) ?_
    clear hK K
    (apply wpPlan3_val; (case ho => rfl); (case hst => rfl); (case hw => rfl); (case hv => intro w' hS; (try (have hS := hS rfl; obtain ⟨x0, x1, x2, x3, x4, x5, x6, _, _, _⟩ := ch_cells hS.1; obtain ⟨x8, x9, x10, x11, _, _, _, _⟩ := four_cells hS.2)); go_simp; first | done | rfl); intro K hK; go_simp; refine hK _ ?_; clear hK K)
    refine wpPlan3_nil ?_
    simp only [Qn]
    obtain ⟨x0, x1, x2, x3, x4, x5, x6, _, _, _⟩ := ch_cells HC5.out
    go_wp2_with fail
    clear x0 x1 x2 x3 x4 x5 x6
    refine (HP5.out.new (by omega)).mono ?_
    rw [HP2.out]
    rintro e6 w6 ⟨rfl, F6, N6, hv6, hN6, hc6, hF6⟩
    have hout6 : ∀ g, w.heap.size ≤ g → g < w3.heap.size → ¬ F5 g := fun g h1 h2 h => by rcases hX5 g h with h3 | h3; have := hFl _ h3; omega; omega
    have HC6 := hid (HC5.out.chg hc6 (fun h => by rcases hX5 c h with h3 | h3; exact HCF.out h3; omega))
    have H86 := hid (H85.out.chg hc6 (hout6 b8 (by omega) (by omega)))
    have H96 := hid (H95.out.chg hc6 (hout6 b9 (by omega) (by omega)))
    have HG6 := hid (HG5.out.trans hc6 (fun k hk h => by rcases hX5 k h with h3 | h3; exact h3; exact absurd hk (by omega)))
    have HP6 := hid hv6
    have HN6 := hid (HN5.out.stay HIN.out hc6 hout6)
    have hz6 := hc6.size
    have hX6 : ∀ k, F6 k → F k ∨ w3.heap.size ≤ k := fun k h => by rcases hF6 k h with h2 | h2; exact hX5 k h2; exact .inr (by omega)
    have hNN6 : N6 ≤ N + 2 := by omega
    clear hv6 hN6 hF6 hc6
    go_wp2_with fail
    obtain ⟨zf, hzf⟩ : ∃ x, w6.drew = x := ⟨_, rfl⟩
    have hbzf : Below w6.heap.size w6 zf := by rw [← hzf]; exact below_drewN (Below.refl _ _) 1
    have HCzf := hid (HC6.out.chg (Chg.new hbzf NoFp) (fun h => h))
    have H8zf := hid (H86.out.chg (Chg.new hbzf NoFp) (fun h => h))
    have H9zf := hid (H96.out.chg (Chg.new hbzf NoFp) (fun h => h))
    have HGzf := hid (HG6.out.trans (Chg.new hbzf NoFp) (fun _ _ h => h.elim))
    have HPzf := hid (HP6.out.new' hbzf)
    have HNzf := hid (HN6.out.new hbzf)
    have hszf : w6.heap.size ≤ zf.heap.size := hbzf.size
    clear hbzf
    refine wp_region_plan3 (fun w' => Blk w' c (chC p key val del was last lv) TCh ∧ Blk w' b9 [.bool lf, .slice pb C.keys.length cb, .slice pb2 C.vals.length cb2, .slice pb3 C.kids.length cb3] TN) (fun j => !([5, 12, 13].contains j)) (fun j => [9, 11].contains j) (fun _ => false)
      (.cons 0 (.cons 1 (.cons 2 (.cons 3 (.cons 4 (.cons 6 (.cons 7 (.cons 8 (.cons 9 (.cons 10 (.cons 11 (.fork 5 12 (.cons 12 (.cons 13 (.cons 14 (.cons 15 .nil)))) (.fork 5 13 (.cons 13 (.cons 14 (.cons 15 .nil))) (.cons 5 (.cons 14 (.cons 15 .nil)))))))))))))))) (by kernel_rfl) (by kernel_rfl) rfl (by kernel_rfl) (by kernel_rfl) (by rw [hzf]; exact ⟨HCzf.out, H9zf.out⟩) ?_
    iterate 11 (apply wpPlan3_val; (case ho => rfl); (case hst => rfl); (case hw => rfl); (case hv => intro w' hS; (try (have hS := hS rfl; obtain ⟨x0, x1, x2, x3, x4, x5, x6, _, _, _⟩ := ch_cells hS.1; obtain ⟨x8, x9, x10, x11, _, _, _, _⟩ := four_cells hS.2)); go_simp; first | done | rfl); intro K hK; go_simp; refine hK _ ?_; clear hK K)
    rw [hzf]
    clear hzf
    refine ⟨?_, ?_⟩
    · refine effect_list rfl rfl (fun K hK => ?_)
      refine wpList_step (fun K2 hK2 => ?_)
      go_simp
      refine hK2 _ _ ?_
      clear hK2 K2
      simp only [wpList]
      have hal28 : Below zf.heap.size zf (zf.alloc (.cells #[.int .i64 (at_ : Int), .string ⟨#[]⟩, .int .i64 (to : Int), .string (B k)] 116)) := (Below.refl _ _).alloc (Nat.le_refl _) _
      obtain ⟨q28, hq28⟩ : ∃ b, zf.heap.size = b := ⟨_, rfl⟩
      obtain ⟨w28, hw28⟩ : ∃ x, zf.alloc (.cells #[.int .i64 (at_ : Int), .string ⟨#[]⟩, .int .i64 (to : Int), .string (B k)] 116) = x := ⟨_, rfl⟩
      have HQ28 : Hid (Blk w28 q28 (ptV [(at_, []), (to, k)]) TPt) := hid (by rw [← hw28, ← hq28]; exact heap_alloc_new _ _)
      rw [hw28] at hal28 ⊢
      rw [hq28]
      have hqF28 : Hid (¬ F6 q28 ∧ w.heap.size ≤ q28 ∧ q28 < w28.heap.size) := hid (by refine ⟨fun h => ?_, ?_, ?_⟩; have := HPzf.out.lt _ h; omega; have := HGzf.out.size; omega; exact HQ28.out.lt)
      have HC28 := hid (HCzf.out.chg (Chg.new hal28 NoFp) (fun h => h))
      have H928 := hid (H9zf.out.chg (Chg.new hal28 NoFp) (fun h => h))
      have HG28 := hid (HGzf.out.trans (Chg.new hal28 NoFp) (fun _ _ h => h.elim))
      have HP28 := hid (HPzf.out.new' hal28)
      have HN28 := hid (HNzf.out.new hal28)
      clear hal28
      refine hK _ _ (fun _ => ⟨HC28.out, H928.out⟩) ?_
      clear hK K
      refine wpPlan3_list rfl rfl rfl (fun K hK => ?_)
      refine wpList_step (fun K2 hK2 => ?_)
      go_simp
      refine (bytes_any w28 C lf pb _ cb pb2 _ cb2 pb3 _ cb3 HN28.out rfl rfl rfl HVC.out (by have := HSC.out; omega)).mono ?_
      rintro e29 w29 ⟨pb29x, cb29x, rfl, hob29, hal29⟩
      go_simp
      refine hK2 _ _ ?_
      clear hK2 K2
      simp only [wpList]
      have HO29 := hid (Rd.of_own hob29)
      clear hob29
      have HC29 := hid (HC28.out.chg (Chg.new hal29 NoFp) (fun h => h))
      have H929 := hid (H928.out.chg (Chg.new hal29 NoFp) (fun h => h))
      have HG29 := hid (HG28.out.trans (Chg.new hal29 NoFp) (fun _ _ h => h.elim))
      have HP29 := hid (HP28.out.new' hal29)
      have HQ29 := hid (HQ28.out.chg (Chg.new hal29 NoFp) (fun h => h))
      have hqF29 := hid (And.intro hqF28.out.1 (And.intro hqF28.out.2.1 (Nat.lt_of_lt_of_le hqF28.out.2.2 hal29.size)))
      clear hal29
      refine hK _ _ (fun _ => ⟨HC29.out, H929.out⟩) ?_
      clear hK K
      refine wpPlan3_list rfl rfl rfl (fun K hK => ?_)
      refine wpList_step (fun K2 hK2 => ?_)
      go_simp
      refine (HP29.out.put (to : Int) _ (enc C) HO29.out (by rw [enc_length]; have := HSC.out; omega) (by omega)).mono ?_
      rw [HP3.out]
      rintro e30 w30 ⟨rfl, F30, N30, hv30, hN30, hc30, hF30⟩
      go_simp
      refine hK2 _ _ ?_
      clear hK2 K2
      simp only [wpList]
      have hout30 : ∀ g, w.heap.size ≤ g → g < w3.heap.size → ¬ F6 g := fun g h1 h2 h => by rcases hX6 g h with h3 | h3; have := hFl _ h3; omega; omega
      have HC30 := hid (HC29.out.chg hc30 (fun h => by rcases hX6 c h with h3 | h3; exact HCF.out h3; omega))
      have H930 := hid (H929.out.chg hc30 (hout30 b9 (by omega) (by omega)))
      have HG30 := hid (HG29.out.trans hc30 (fun k hk h => by rcases hX6 k h with h3 | h3; exact h3; exact absurd hk (by omega)))
      have HP30 := hid hv30
      have HF30 : Hid (∀ k, F30 k → F k ∨ w.heap.size ≤ k) := hid (fun k h => by rcases hF30 k h with h2 | h2; exact (hX6 k h2).imp id (fun h => by omega); have := HG29.out.size; exact .inr (by omega))
      have hNN30 : N30 ≤ N + 3 := by omega
      have HQ30 := hid (HQ29.out.chg hc30 hqF29.out.1)
      have hqF30 : Hid (¬ F30 q28 ∧ w.heap.size ≤ q28 ∧ q28 < w30.heap.size) := hid (by refine ⟨fun h => ?_, hqF29.out.2.1, Nat.lt_of_lt_of_le hqF29.out.2.2 hc30.size⟩; rcases hF30 _ h with h2 | h2; exact hqF29.out.1 h2; have := hqF29.out.2.2; omega)
      clear hv30 hN30 hF30 hc30
      refine hK _ _ (fun _ => ⟨HC30.out, H930.out⟩) ?_
      clear hK K
      (apply wpPlan3_val; (case ho => rfl); (case hst => rfl); (case hw => rfl); (case hv => intro w' hS; go_simp; first | done | rfl); intro K hK; go_simp; refine hK _ ?_; clear hK K)
      (apply wpPlan3_val; (case ho => rfl); (case hst => rfl); (case hw => rfl); (case hv => intro w' hS; go_simp; first | done | rfl); intro K hK; go_simp; refine hK _ ?_; clear hK K)
      refine wpPlan3_nil ?_
      simp only [Qn]
      go_wp2_with fail
      go_ret2
      exact ⟨T3, A, C, k, to, ⟨q28, F30, N30, rfl, HQ30.out, HP30.out, hNN30, HG30.out, HF30.out, hqF30.out.1, hqF30.out.2.1⟩, HFIN.out⟩
    · refine effect_list rfl rfl (fun K hK => ?_)
      refine wpList_step (fun K2 hK2 => ?_)
      go_simp
      refine (bytes_any zf C lf pb _ cb pb2 _ cb2 pb3 _ cb3 HNzf.out rfl rfl rfl HVC.out (by have := HSC.out; omega)).mono ?_
      rintro e31 w31 ⟨pb31x, cb31x, rfl, hob31, hal31⟩
      go_simp
      refine hK2 _ _ ?_
      clear hK2 K2
      simp only [wpList]
      have HO31 := hid (Rd.of_own hob31)
      clear hob31
      have HC31 := hid (HCzf.out.chg (Chg.new hal31 NoFp) (fun h => h))
      have H931 := hid (H9zf.out.chg (Chg.new hal31 NoFp) (fun h => h))
      have HG31 := hid (HGzf.out.trans (Chg.new hal31 NoFp) (fun _ _ h => h.elim))
      have HP31 := hid (HPzf.out.new' hal31)
      clear hal31
      refine hK _ _ (fun _ => ⟨HC31.out, H931.out⟩) ?_
      clear hK K
      refine ⟨?_, ?_⟩
      · refine effect_list rfl rfl (fun K hK => ?_)
        refine wpList_step (fun K2 hK2 => ?_)
        go_simp
        refine hK2 _ _ ?_
        clear hK2 K2
        simp only [wpList]
        have hal32 : Below w31.heap.size w31 (w31.alloc (.cells #[.int .i64 (at_ : Int), .string ⟨#[]⟩, .int .i64 (to : Int), .string (B k)] 116)) := (Below.refl _ _).alloc (Nat.le_refl _) _
        obtain ⟨q32, hq32⟩ : ∃ b, w31.heap.size = b := ⟨_, rfl⟩
        obtain ⟨w32, hw32⟩ : ∃ x, w31.alloc (.cells #[.int .i64 (at_ : Int), .string ⟨#[]⟩, .int .i64 (to : Int), .string (B k)] 116) = x := ⟨_, rfl⟩
        have HQ32 : Hid (Blk w32 q32 (ptV [(at_, []), (to, k)]) TPt) := hid (by rw [← hw32, ← hq32]; exact heap_alloc_new _ _)
        rw [hw32] at hal32 ⊢
        rw [hq32]
        have hqF32 : Hid (¬ F6 q32 ∧ w.heap.size ≤ q32 ∧ q32 < w32.heap.size) := hid (by refine ⟨fun h => ?_, ?_, ?_⟩; have := HP31.out.lt _ h; omega; have := HG31.out.size; omega; exact HQ32.out.lt)
        have HC32 := hid (HC31.out.chg (Chg.new hal32 NoFp) (fun h => h))
        have H932 := hid (H931.out.chg (Chg.new hal32 NoFp) (fun h => h))
        have HG32 := hid (HG31.out.trans (Chg.new hal32 NoFp) (fun _ _ h => h.elim))
        have HP32 := hid (HP31.out.new' hal32)
        have HO32 := hid (HO31.out.new hal32)
        clear hal32
        refine hK _ _ (fun _ => ⟨HC32.out, H932.out⟩) ?_
        clear hK K
        refine wpPlan3_list rfl rfl rfl (fun K hK => ?_)
        refine wpList_step (fun K2 hK2 => ?_)
        go_simp
        refine (HP32.out.put (to : Int) _ (enc C) HO32.out (by rw [enc_length]; have := HSC.out; omega) (by omega)).mono ?_
        rw [HP3.out]
        rintro e33 w33 ⟨rfl, F33, N33, hv33, hN33, hc33, hF33⟩
        go_simp
        refine hK2 _ _ ?_
        clear hK2 K2
        simp only [wpList]
        have hout33 : ∀ g, w.heap.size ≤ g → g < w3.heap.size → ¬ F6 g := fun g h1 h2 h => by rcases hX6 g h with h3 | h3; have := hFl _ h3; omega; omega
        have HC33 := hid (HC32.out.chg hc33 (fun h => by rcases hX6 c h with h3 | h3; exact HCF.out h3; omega))
        have H933 := hid (H932.out.chg hc33 (hout33 b9 (by omega) (by omega)))
        have HG33 := hid (HG32.out.trans hc33 (fun k hk h => by rcases hX6 k h with h3 | h3; exact h3; exact absurd hk (by omega)))
        have HP33 := hid hv33
        have HF33 : Hid (∀ k, F33 k → F k ∨ w.heap.size ≤ k) := hid (fun k h => by rcases hF33 k h with h2 | h2; exact (hX6 k h2).imp id (fun h => by omega); have := HG32.out.size; exact .inr (by omega))
        have hNN33 : N33 ≤ N + 3 := by omega
        have HQ33 := hid (HQ32.out.chg hc33 hqF32.out.1)
        have hqF33 : Hid (¬ F33 q32 ∧ w.heap.size ≤ q32 ∧ q32 < w33.heap.size) := hid (by refine ⟨fun h => ?_, hqF32.out.2.1, Nat.lt_of_lt_of_le hqF32.out.2.2 hc33.size⟩; rcases hF33 _ h with h2 | h2; exact hqF32.out.1 h2; have := hqF32.out.2.2; omega)
        clear hv33 hN33 hF33 hc33
        refine hK _ _ (fun _ => ⟨HC33.out, H933.out⟩) ?_
        clear hK K
        (apply wpPlan3_val; (case ho => rfl); (case hst => rfl); (case hw => rfl); (case hv => intro w' hS; go_simp; first | done | rfl); intro K hK; go_simp; refine hK _ ?_; clear hK K)
        (apply wpPlan3_val; (case ho => rfl); (case hst => rfl); (case hw => rfl); (case hv => intro w' hS; go_simp; first | done | rfl); intro K hK; go_simp; refine hK _ ?_; clear hK K)
        refine wpPlan3_nil ?_
        simp only [Qn]
        go_wp2_with fail
        go_ret2
        exact ⟨T3, A, C, k, to, ⟨q32, F33, N33, rfl, HQ33.out, HP33.out, hNN33, HG33.out, HF33.out, hqF33.out.1, hqF33.out.2.1⟩, HFIN.out⟩
      · refine effect_list rfl rfl (fun K hK => ?_)
        refine wpList_step (fun K2 hK2 => ?_)
        go_simp
        refine (HP31.out.put (to : Int) _ (enc C) HO31.out (by rw [enc_length]; have := HSC.out; omega) (by omega)).mono ?_
        rw [HP3.out]
        rintro e34 w34 ⟨rfl, F34, N34, hv34, hN34, hc34, hF34⟩
        go_simp
        refine hK2 _ _ ?_
        clear hK2 K2
        simp only [wpList]
        have hout34 : ∀ g, w.heap.size ≤ g → g < w3.heap.size → ¬ F6 g := fun g h1 h2 h => by rcases hX6 g h with h3 | h3; have := hFl _ h3; omega; omega
        have HC34 := hid (HC31.out.chg hc34 (fun h => by rcases hX6 c h with h3 | h3; exact HCF.out h3; omega))
        have H934 := hid (H931.out.chg hc34 (hout34 b9 (by omega) (by omega)))
        have HG34 := hid (HG31.out.trans hc34 (fun k hk h => by rcases hX6 k h with h3 | h3; exact h3; exact absurd hk (by omega)))
        have HP34 := hid hv34
        have HF34 : Hid (∀ k, F34 k → F k ∨ w.heap.size ≤ k) := hid (fun k h => by rcases hF34 k h with h2 | h2; exact (hX6 k h2).imp id (fun h => by omega); have := HG31.out.size; exact .inr (by omega))
        have hNN34 : N34 ≤ N + 3 := by omega
        clear hv34 hN34 hF34 hc34
        refine hK _ _ (fun _ => ⟨HC34.out, H934.out⟩) ?_
        clear hK K
        refine wpPlan3_list rfl rfl rfl (fun K hK => ?_)
        refine wpList_step (fun K2 hK2 => ?_)
        go_simp
        refine hK2 _ _ ?_
        clear hK2 K2
        simp only [wpList]
        have hal35 : Below w34.heap.size w34 (w34.alloc (.cells #[.int .i64 (at_ : Int), .string ⟨#[]⟩, .int .i64 (to : Int), .string (B k)] 116)) := (Below.refl _ _).alloc (Nat.le_refl _) _
        obtain ⟨q35, hq35⟩ : ∃ b, w34.heap.size = b := ⟨_, rfl⟩
        obtain ⟨w35, hw35⟩ : ∃ x, w34.alloc (.cells #[.int .i64 (at_ : Int), .string ⟨#[]⟩, .int .i64 (to : Int), .string (B k)] 116) = x := ⟨_, rfl⟩
        have HQ35 : Hid (Blk w35 q35 (ptV [(at_, []), (to, k)]) TPt) := hid (by rw [← hw35, ← hq35]; exact heap_alloc_new _ _)
        rw [hw35] at hal35 ⊢
        rw [hq35]
        have hqF35 : Hid (¬ F34 q35 ∧ w.heap.size ≤ q35 ∧ q35 < w35.heap.size) := hid (by refine ⟨fun h => ?_, ?_, ?_⟩; have := HP34.out.lt _ h; omega; have := HG34.out.size; omega; exact HQ35.out.lt)
        have HC35 := hid (HC34.out.chg (Chg.new hal35 NoFp) (fun h => h))
        have H935 := hid (H934.out.chg (Chg.new hal35 NoFp) (fun h => h))
        have HG35 := hid (HG34.out.trans (Chg.new hal35 NoFp) (fun _ _ h => h.elim))
        have HP35 := hid (HP34.out.new' hal35)
        clear hal35
        refine hK _ _ (fun _ => ⟨HC35.out, H935.out⟩) ?_
        clear hK K
        (apply wpPlan3_val; (case ho => rfl); (case hst => rfl); (case hw => rfl); (case hv => intro w' hS; go_simp; first | done | rfl); intro K hK; go_simp; refine hK _ ?_; clear hK K)
        (apply wpPlan3_val; (case ho => rfl); (case hst => rfl); (case hw => rfl); (case hv => intro w' hS; go_simp; first | done | rfl); intro K hK; go_simp; refine hK _ ?_; clear hK K)
        refine wpPlan3_nil ?_
        simp only [Qn]
        go_wp2_with fail
        go_ret2
        exact ⟨T3, A, C, k, to, ⟨q35, F34, N34, rfl, HQ35.out, HP35.out, hNN34, HG35.out, HF34.out, hqF35.out.1, hqF35.out.2.1⟩, HFIN.out⟩

theorem nwrite_any (w : World) (c p d : Nat) (F : Nat → Prop) (s : DS) (S T : AS) (N : Nat) (Nf : Nat → Option Nd) (U M : Nat) (key val : Tx) (del was last : Bool) (lv : Nat) (at_ : Nat) (nd : Nd) (lf : Bool) (pk : Option Addr) (nk ck : Nat) (pv : Option Addr) (nv cv : Nat) (pd : Option Addr) (nc cd : Nat)
    (hc : Blk w c (chC p key val del was last lv) TCh) (hcF : ¬ F c) (hnd : NdAt w lf pk ck pv cv pd cd nd) (hnk : nd.keys.length = nk) (hnv : nd.vals.length = nv) (hnc : nd.kids.length = nc) (hpg : PgV w p d F 1600 s S T true N) (hN : N ≤ 999990) (hst : Sto T Nf U M none) (hM : M ≤ 1190) (hU : U + 1 ≤ M) (hat : (Nf at_).isSome = true) (hok : OkN nd)
    (h2 : lf = true → sizeP nd ≤ 656) (h3 : lf = false → sizeP nd ≤ 647) (hl : last = true → lf = true → sizeP ⟨true, nd.keys.take (nk - 1), nd.vals.take (nk - 1), []⟩ ≤ 504) :
    Calls Try.prog 77 #[.pointer (some ⟨c, 0, none⟩), .int .i64 (at_ : Int), ndV lf pk nk ck pv nv cv pd nc cd] w fun e w' => ∃ (T2 : AS) (l : List (Nat × Tx)) (Nf2 : Nat → Option Nd) (U2 : Nat), WrTo 3 w p d F s S N T2 l e w' ∧ Wrote Nf U at_ nd l Nf2 U2 ∧ Sto T2 Nf2 U2 M none ∧ T2.root = T.root := by
  by_cases hs : sizeP nd ≤ 504
  · refine (write_fit w c p d F s S T N Nf U M key val del was last lv at_ nd lf pk nk ck pv nv cv pd nc cd hc hcF hnd hnk hnv hnc hpg hN hst hat hok hs).mono ?_
    rintro e w' ⟨T2, ⟨q, F', N', h4, h5, h6, h7, h8⟩, hst2, hr⟩
    exact ⟨T2, _, _, _, ⟨q, F', N', h4, h5, h6, by omega, h8⟩, .inl ⟨rfl, rfl, rfl⟩, hst2, hr⟩
  · refine (write_split w c p d F s S T N Nf U M key val del was last lv at_ nd lf pk nk ck pv nv cv pd nc cd hc hcF hnd hnk hnv hnc hpg hN hst hM hU hat hok (by omega) h2 h3 hl).mono ?_
    rintro e w' ⟨T2, A, C, k, to, hw, hto, hh, hst2, hr⟩
    exact ⟨T2, _, _, _, hw, .inr ⟨A, C, k, to, rfl, hto, rfl, rfl, hh⟩, hst2, hr⟩
end Go.Proofs.Ytdilkgcoecipjaa
