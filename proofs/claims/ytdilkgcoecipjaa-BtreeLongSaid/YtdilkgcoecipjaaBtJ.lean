/- btree: change.write of a node that fits on its page. -/
import Derived.Test.YtdilkgcoecipjaaBtI
import Derived.Test.YtdilkgcoecipjaaOrd3
namespace Go.Proofs.Ytdilkgcoecipjaa
open Go.RowKit Go.Maps
set_option linter.unusedVariables false

abbrev TCh : TypeId := 64
abbrev TPt : TypeId := 116
/-- a change's cells -/
def chC (p : Nat) (key val : Tx) (del was last : Bool) (lv : Nat) : List Value := [.pointer (some ⟨p, 0, none⟩), .string (B key), .string (B val), .bool del, .bool was, .bool last, .int .i64 (lv : Int)]
theorem ch_cells {w : World} {c p : Nat} {key val : Tx} {del was last : Bool} {lv : Nat} {T : TypeId} (h : Blk w c (chC p key val del was last lv) T) :
    w.cell? ⟨c, 0, none⟩ = some (.pointer (some ⟨p, 0, none⟩)) ∧ w.cell? ⟨c, 1, none⟩ = some (.string (B key)) ∧ w.cell? ⟨c, 2, none⟩ = some (.string (B val)) ∧ w.cell? ⟨c, 3, none⟩ = some (.bool del) ∧ w.cell? ⟨c, 4, none⟩ = some (.bool was) ∧ w.cell? ⟨c, 5, none⟩ = some (.bool last) ∧ w.cell? ⟨c, 6, none⟩ = some (.int .i64 (lv : Int)) ∧
    w.frozen? ⟨c, 4, none⟩ = false ∧ w.frozen? ⟨c, 5, none⟩ = false ∧ w.frozen? ⟨c, 6, none⟩ = false :=
  ⟨h.cell 0, h.cell 1, h.cell 2, h.cell 3, h.cell 4, h.cell 5, h.cell 6, h.frozen 4, h.frozen 5, h.frozen 6⟩
/-- parts as they lie in memory -/
def ptV (l : List (Nat × Tx)) : List Value := l.flatMap fun x => [.int .i64 (x.1 : Int), .string (B x.2)]
/-- what a change of pages hands back: the parts, the pager -/
def WrTo (m : Nat) (w : World) (p d : Nat) (F : Nat → Prop) (s : DS) (S : AS) (N : Nat) (T2 : AS) (l : List (Nat × Tx)) (e : Ending) (w' : World) : Prop :=
  ∃ (q : Nat) (F' : Nat → Prop) (N' : Nat), e = .returned (.tuple #[.slice (some ⟨q, 0, none⟩) l.length l.length, .int .i64 0]) ∧ Blk w' q (ptV l) TPt ∧ PgV w' p d F' 1600 s S T2 true N' ∧ N' ≤ N + m ∧ Chg F w w' ∧ (∀ k, F' k → F k ∨ w.heap.size ≤ k) ∧ ¬ F' q ∧ w.heap.size ≤ q

theorem size_any2 (w : World) (n : Nd) (lf : Bool) (pk : Option Addr) (nk ck : Nat) (pv : Option Addr) (nv cv : Nat) (pd : Option Addr) (nc cd : Nat) (h : NdAt w lf pk ck pv cv pd cd n) (hnk : n.keys.length = nk) (hnv : n.vals.length = nv) (hnc : n.kids.length = nc) (hv : n.leaf = true → n.vals.length = n.keys.length) (hs : sizeP n ≤ 100000) :
    Calls Try.prog 88 #[ndV lf pk nk ck pv nv cv pd nc cd] w fun e w' => e = .returned (.int .i64 (sizeP n : Int)) ∧ Below w.heap.size w w' := by
  subst hnk hnv hnc
  exact size_any w n lf pk ck pv cv pd cd h hv hs

set_option maxRecDepth 100000 in
set_option maxHeartbeats 8000000 in
theorem write_fit (w : World) (c p d : Nat) (F : Nat → Prop) (s : DS) (S T : AS) (N : Nat) (Nf : Nat → Option Nd) (U M : Nat) (key val : Tx) (del was last : Bool) (lv : Nat) (at_ : Nat) (nd : Nd) (lf : Bool) (pk : Option Addr) (nk ck : Nat) (pv : Option Addr) (nv cv : Nat) (pd : Option Addr) (nc cd : Nat)
    (hc : Blk w c (chC p key val del was last lv) TCh) (hcF : ¬ F c) (hnd : NdAt w lf pk ck pv cv pd cd nd) (hnk : nd.keys.length = nk) (hnv : nd.vals.length = nv) (hnc : nd.kids.length = nc) (hpg : PgV w p d F 1600 s S T true N) (hN : N ≤ 999990) (hst : Sto T Nf U M none) (hat : (Nf at_).isSome = true) (hok : OkN nd) (hsz : sizeP nd ≤ 504) :
    Calls Try.prog 77 #[.pointer (some ⟨c, 0, none⟩), .int .i64 (at_ : Int), ndV lf pk nk ck pv nv cv pd nc cd] w fun e w' => ∃ T2, WrTo 1 w p d F s S N T2 [(at_, [])] e w' ∧ Sto T2 (updN Nf at_ (some nd)) U M none ∧ T2.root = T.root := by
  obtain ⟨od, hod⟩ := Option.isSome_iff_exists.1 hat
  obtain ⟨hB, _, _, hk6⟩ := hst.vw at_ od hod
  obtain ⟨T2, hput, hs2, hr2, _⟩ := hst.put (.inl rfl) (by rw [hB]; rfl) nd hok hsz hk6
  have hvl : nd.leaf = true → nd.vals.length = nd.keys.length := fun h => (okn_leaf hok h).1
  have HVL := hid hvl
  have HND := hid hnd
  have HNK := hid hnk
  have HNV := hid hnv
  have HNC := hid hnc
  have HPG := hid hpg
  have HPUT := hid hput
  have HFIN := hid (And.intro hs2 hr2)
  have HSZ := hid hsz
  have HCC := hid hc
  have HCF := hid hcF
  have hcl := hc.lt
  clear hc hcF hnd hnk hnv hnc hpg hst hat hok hsz hod hB hput hs2 hr2 hvl
  go_enter Try.func77, Try.ntmps77
  unfold ndV
  go_wp2_with fail
  obtain ⟨t5, ht5⟩ : ∃ b, w.heap.size = b := ⟨_, rfl⟩
  obtain ⟨w1, hw1⟩ : ∃ x, w.alloc (.cells #[.bool lf, .slice pk nk ck, .slice pv nv cv, .slice pd nc cd] 59) = x := ⟨_, rfl⟩
  have hal : Below w.heap.size w w1 := by rw [← hw1]; exact (Below.refl _ _).alloc (Nat.le_refl _) _
  have HT1 : Hid (Blk w1 t5 [.bool lf, .slice pk nk ck, .slice pv nv cv, .slice pd nc cd] TN) := hid (by rw [← hw1, ← ht5]; exact heap_alloc_new _ _)
  have HB1 := hid hal
  have hs1 : w1.heap.size = t5 + 1 := by rw [← hw1, ← ht5]; simp
  rw [hw1]
  clear hw1 hal
  have hsz2 := HSZ.out
  refine (size_any2 w1 nd lf pk nk ck pv nv cv pd nc cd (HND.out.new HB1.out) HNK.out HNV.out HNC.out HVL.out (by omega)).mono ?_
  rintro e2 w2 ⟨rfl, hb2⟩
  have hsz3 : (sizeP nd : Int) ≤ 504 := by omega
  have HT2 := hid (HT1.out.chg (Chg.new hb2 NoFp) (fun h => h))
  have HB2 := hid (HB1.out.trans (hb2.mono (by omega)))
  have hs2 := hb2.size
  have HS5 := hid ht5
  clear hb2
  go_wp2_with fail
  obtain ⟨wz, hwz⟩ : ∃ x, w2.drew = x := ⟨_, rfl⟩
  have HCz := hid (show Blk wz c (chC p key val del was last lv) TCh by rw [← hwz]; exact (show Blk w2 c (chC p key val del was last lv) TCh from HCC.out.chg (Chg.new HB2.out NoFp) (fun h => h)))
  have HTz := hid (show Blk wz t5 [.bool lf, .slice pk nk ck, .slice pv nv cv, .slice pd nc cd] TN by rw [← hwz]; exact HT2.out)
  have HGz : Hid (Chg F w wz) := hid (by rw [← hwz]; exact (Chg.new HB2.out F).drewR 1)
  have HBz : Hid (Below w.heap.size w wz) := hid (by rw [← hwz]; exact below_drewN HB2.out 1)
  have HPz := hid (HPG.out.new' HBz.out)
  have HDz := hid (HND.out.new HBz.out)
  have HFz : Hid (∀ k, F k → F k ∨ w.heap.size ≤ k) := hid (fun k h => .inl h)
  have hNz : N ≤ N := Nat.le_refl _
  have hsz1 : t5 + 1 ≤ wz.heap.size := by rw [← hwz]; show t5 + 1 ≤ w2.heap.size; omega
  refine wp_region_plan3 (fun w' => Blk w' c (chC p key val del was last lv) TCh ∧ Blk w' t5 [.bool lf, .slice pk nk ck, .slice pv nv cv, .slice pd nc cd] TN) (fun j => !([2, 9, 10].contains j)) (fun j => [6, 8].contains j) (fun _ => false)
    (.cons 0 (.cons 1 (.cons 3 (.cons 4 (.cons 5 (.cons 6 (.cons 7 (.cons 8 (.fork 2 9 (.cons 9 (.cons 10 (.cons 11 (.cons 12 .nil)))) (.fork 2 10 (.cons 10 (.cons 11 (.cons 12 .nil))) (.cons 2 (.cons 11 (.cons 12 .nil))))))))))))) (by kernel_rfl) (by kernel_rfl) rfl (by kernel_rfl) (by kernel_rfl) (by rw [hwz]; exact ⟨HCz.out, HTz.out⟩) ?_
  iterate 8 (apply wpPlan3_val; (case ho => rfl); (case hst => rfl); (case hw => rfl); (case hv => intro w' hS; (try (have hS := hS rfl; obtain ⟨x0, x1, x2, x3, x4, x5, x6, _, _, _⟩ := ch_cells hS.1; obtain ⟨x8, x9, x10, x11, _, _, _, _⟩ := four_cells hS.2)); go_simp; first | done | rfl); intro K hK; go_simp; refine hK _ ?_; clear hK K)
  rw [hwz]
  clear hwz
  refine ⟨?_, ?_⟩
  · refine effect_list rfl rfl (fun K hK => ?_)
    refine wpList_step (fun K2 hK2 => ?_)
    go_simp
    refine hK2 _ _ ?_
    clear hK2 K2
    simp only [wpList]
    have hal1 : Below wz.heap.size wz (wz.alloc (.cells #[.int .i64 (at_ : Int), .string ⟨#[]⟩] 116)) := (Below.refl _ _).alloc (Nat.le_refl _) _
    obtain ⟨q1, hq1⟩ : ∃ b, wz.heap.size = b := ⟨_, rfl⟩
    obtain ⟨w1, hw1⟩ : ∃ x, wz.alloc (.cells #[.int .i64 (at_ : Int), .string ⟨#[]⟩] 116) = x := ⟨_, rfl⟩
    have HQ1 : Hid (Blk w1 q1 (ptV [(at_, [])]) TPt) := hid (by rw [← hw1, ← hq1]; exact heap_alloc_new _ _)
    rw [hw1] at hal1 ⊢
    rw [hq1]
    have hqF1 : Hid (¬ F q1 ∧ w.heap.size ≤ q1 ∧ q1 < w1.heap.size) := hid (by refine ⟨fun h => ?_, ?_, ?_⟩; have := HPz.out.lt _ h; omega; have := HGz.out.size; omega; exact HQ1.out.lt)
    have HC1 := hid (HCz.out.chg (Chg.new hal1 NoFp) (fun h => h))
    have HT1 := hid (HTz.out.chg (Chg.new hal1 NoFp) (fun h => h))
    have HG1 := hid (HGz.out.trans (Chg.new hal1 NoFp) (fun _ _ h => h.elim))
    have HP1 := hid (HPz.out.new' hal1)
    have HD1 := hid (HDz.out.new hal1)
    have hsz1 : t5 + 1 ≤ w1.heap.size := Nat.le_trans hsz1 hal1.size
    clear hal1 hw1 hq1
    refine hK _ _ (fun _ => ⟨HC1.out, HT1.out⟩) ?_
    clear hK K
    refine wpPlan3_list rfl rfl rfl (fun K hK => ?_)
    refine wpList_step (fun K2 hK2 => ?_)
    go_simp
    refine (bytes_any w1 nd lf pk nk ck pv nv cv pd nc cd HD1.out HNK.out HNV.out HNC.out HVL.out (by omega)).mono ?_
    rintro e2 w2 ⟨pb2, cb2, rfl, hob2, hal2⟩
    go_simp
    refine hK2 _ _ ?_
    clear hK2 K2
    simp only [wpList]
    have HO2 := hid (Rd.of_own hob2)
    clear hob2
    have HC2 := hid (HC1.out.chg (Chg.new hal2 NoFp) (fun h => h))
    have HT2 := hid (HT1.out.chg (Chg.new hal2 NoFp) (fun h => h))
    have HG2 := hid (HG1.out.trans (Chg.new hal2 NoFp) (fun _ _ h => h.elim))
    have HP2 := hid (HP1.out.new' hal2)
    have hsz2 : t5 + 1 ≤ w2.heap.size := Nat.le_trans hsz1 hal2.size
    have HQ2 := hid (HQ1.out.chg (Chg.new hal2 NoFp) (fun h => h))
    have hqF2 := hid (And.intro hqF1.out.1 (And.intro hqF1.out.2.1 (Nat.lt_of_lt_of_le hqF1.out.2.2 hal2.size)))
    clear hal2
    refine hK _ _ (fun _ => ⟨HC2.out, HT2.out⟩) ?_
    clear hK K
    refine wpPlan3_list rfl rfl rfl (fun K hK => ?_)
    refine wpList_step (fun K2 hK2 => ?_)
    go_simp
    refine (HP2.out.put (at_ : Int) _ (enc nd) HO2.out (by rw [enc_length]; omega) (by omega)).mono ?_
    rw [HPUT.out]
    rintro e3 w3 ⟨rfl, F3, N3, hv3, hN3, hc3, hF3⟩
    go_simp
    refine hK2 _ _ ?_
    clear hK2 K2
    simp only [wpList]
    have HC3 := hid (HC2.out.chg hc3 HCF.out)
    have HT3 := hid (HT2.out.chg hc3 (fun h => by have := HPG.out.lt _ h; omega))
    have HG3 := hid (HG2.out.trans hc3 (fun _ _ h => h))
    have HP3 := hid hv3
    have HF3 : Hid (∀ k, F3 k → F k ∨ w.heap.size ≤ k) := hid (fun k h => by rcases hF3 k h with h2 | h2; exact .inl h2; have := HG2.out.size; exact .inr (by omega))
    have hNN3 : N3 ≤ N + 1 := by omega
    have hsz3 : t5 + 1 ≤ w3.heap.size := Nat.le_trans hsz2 hc3.size
    have HQ3 := hid (HQ2.out.chg hc3 hqF2.out.1)
    have hqF3 : Hid (¬ F3 q1 ∧ w.heap.size ≤ q1 ∧ q1 < w3.heap.size) := hid (by refine ⟨fun h => ?_, hqF2.out.2.1, Nat.lt_of_lt_of_le hqF2.out.2.2 hc3.size⟩; rcases hF3 _ h with h2 | h2; exact hqF2.out.1 h2; have := hqF2.out.2.2; omega)
    clear hv3 hN3 hF3 hc3
    refine hK _ _ (fun _ => ⟨HC3.out, HT3.out⟩) ?_
    clear hK K
    (apply wpPlan3_val; (case ho => rfl); (case hst => rfl); (case hw => rfl); (case hv => intro w' hS; go_simp; first | done | rfl); intro K hK; go_simp; refine hK _ ?_; clear hK K)
    (apply wpPlan3_val; (case ho => rfl); (case hst => rfl); (case hw => rfl); (case hv => intro w' hS; go_simp; first | done | rfl); intro K hK; go_simp; refine hK _ ?_; clear hK K)
    refine wpPlan3_nil ?_
    simp only [Qn]
    go_wp2_with fail
    go_ret2
    exact ⟨T2, ⟨q1, F3, N3, rfl, HQ3.out, HP3.out, hNN3, HG3.out, HF3.out, hqF3.out.1, hqF3.out.2.1⟩, HFIN.out⟩
  · refine effect_list rfl rfl (fun K hK => ?_)
    refine wpList_step (fun K2 hK2 => ?_)
    go_simp
    refine (bytes_any wz nd lf pk nk ck pv nv cv pd nc cd HDz.out HNK.out HNV.out HNC.out HVL.out (by omega)).mono ?_
    rintro e4 w4 ⟨pb4, cb4, rfl, hob4, hal4⟩
    go_simp
    refine hK2 _ _ ?_
    clear hK2 K2
    simp only [wpList]
    have HO4 := hid (Rd.of_own hob4)
    clear hob4
    have HC4 := hid (HCz.out.chg (Chg.new hal4 NoFp) (fun h => h))
    have HT4 := hid (HTz.out.chg (Chg.new hal4 NoFp) (fun h => h))
    have HG4 := hid (HGz.out.trans (Chg.new hal4 NoFp) (fun _ _ h => h.elim))
    have HP4 := hid (HPz.out.new' hal4)
    have hsz4 : t5 + 1 ≤ w4.heap.size := Nat.le_trans hsz1 hal4.size
    clear hal4
    refine hK _ _ (fun _ => ⟨HC4.out, HT4.out⟩) ?_
    clear hK K
    refine ⟨?_, ?_⟩
    · refine effect_list rfl rfl (fun K hK => ?_)
      refine wpList_step (fun K2 hK2 => ?_)
      go_simp
      refine hK2 _ _ ?_
      clear hK2 K2
      simp only [wpList]
      have hal5 : Below w4.heap.size w4 (w4.alloc (.cells #[.int .i64 (at_ : Int), .string ⟨#[]⟩] 116)) := (Below.refl _ _).alloc (Nat.le_refl _) _
      obtain ⟨q5, hq5⟩ : ∃ b, w4.heap.size = b := ⟨_, rfl⟩
      obtain ⟨w5, hw5⟩ : ∃ x, w4.alloc (.cells #[.int .i64 (at_ : Int), .string ⟨#[]⟩] 116) = x := ⟨_, rfl⟩
      have HQ5 : Hid (Blk w5 q5 (ptV [(at_, [])]) TPt) := hid (by rw [← hw5, ← hq5]; exact heap_alloc_new _ _)
      rw [hw5] at hal5 ⊢
      rw [hq5]
      have hqF5 : Hid (¬ F q5 ∧ w.heap.size ≤ q5 ∧ q5 < w5.heap.size) := hid (by refine ⟨fun h => ?_, ?_, ?_⟩; have := HP4.out.lt _ h; omega; have := HG4.out.size; omega; exact HQ5.out.lt)
      have HC5 := hid (HC4.out.chg (Chg.new hal5 NoFp) (fun h => h))
      have HT5 := hid (HT4.out.chg (Chg.new hal5 NoFp) (fun h => h))
      have HG5 := hid (HG4.out.trans (Chg.new hal5 NoFp) (fun _ _ h => h.elim))
      have HP5 := hid (HP4.out.new' hal5)
      have hsz5 : t5 + 1 ≤ w5.heap.size := Nat.le_trans hsz4 hal5.size
      have HO5 := hid (HO4.out.new hal5)
      clear hal5 hw5 hq5
      refine hK _ _ (fun _ => ⟨HC5.out, HT5.out⟩) ?_
      clear hK K
      refine wpPlan3_list rfl rfl rfl (fun K hK => ?_)
      refine wpList_step (fun K2 hK2 => ?_)
      go_simp
      refine (HP5.out.put (at_ : Int) _ (enc nd) HO5.out (by rw [enc_length]; omega) (by omega)).mono ?_
      rw [HPUT.out]
      rintro e6 w6 ⟨rfl, F6, N6, hv6, hN6, hc6, hF6⟩
      go_simp
      refine hK2 _ _ ?_
      clear hK2 K2
      simp only [wpList]
      have HC6 := hid (HC5.out.chg hc6 HCF.out)
      have HT6 := hid (HT5.out.chg hc6 (fun h => by have := HPG.out.lt _ h; omega))
      have HG6 := hid (HG5.out.trans hc6 (fun _ _ h => h))
      have HP6 := hid hv6
      have HF6 : Hid (∀ k, F6 k → F k ∨ w.heap.size ≤ k) := hid (fun k h => by rcases hF6 k h with h2 | h2; exact .inl h2; have := HG5.out.size; exact .inr (by omega))
      have hNN6 : N6 ≤ N + 1 := by omega
      have hsz6 : t5 + 1 ≤ w6.heap.size := Nat.le_trans hsz5 hc6.size
      have HQ6 := hid (HQ5.out.chg hc6 hqF5.out.1)
      have hqF6 : Hid (¬ F6 q5 ∧ w.heap.size ≤ q5 ∧ q5 < w6.heap.size) := hid (by refine ⟨fun h => ?_, hqF5.out.2.1, Nat.lt_of_lt_of_le hqF5.out.2.2 hc6.size⟩; rcases hF6 _ h with h2 | h2; exact hqF5.out.1 h2; have := hqF5.out.2.2; omega)
      clear hv6 hN6 hF6 hc6
      refine hK _ _ (fun _ => ⟨HC6.out, HT6.out⟩) ?_
      clear hK K
      (apply wpPlan3_val; (case ho => rfl); (case hst => rfl); (case hw => rfl); (case hv => intro w' hS; go_simp; first | done | rfl); intro K hK; go_simp; refine hK _ ?_; clear hK K)
      (apply wpPlan3_val; (case ho => rfl); (case hst => rfl); (case hw => rfl); (case hv => intro w' hS; go_simp; first | done | rfl); intro K hK; go_simp; refine hK _ ?_; clear hK K)
      refine wpPlan3_nil ?_
      simp only [Qn]
      go_wp2_with fail
      go_ret2
      exact ⟨T2, ⟨q5, F6, N6, rfl, HQ6.out, HP6.out, hNN6, HG6.out, HF6.out, hqF6.out.1, hqF6.out.2.1⟩, HFIN.out⟩
    · refine effect_list rfl rfl (fun K hK => ?_)
      refine wpList_step (fun K2 hK2 => ?_)
      go_simp
      refine (HP4.out.put (at_ : Int) _ (enc nd) HO4.out (by rw [enc_length]; omega) (by omega)).mono ?_
      rw [HPUT.out]
      rintro e7 w7 ⟨rfl, F7, N7, hv7, hN7, hc7, hF7⟩
      go_simp
      refine hK2 _ _ ?_
      clear hK2 K2
      simp only [wpList]
      have HC7 := hid (HC4.out.chg hc7 HCF.out)
      have HT7 := hid (HT4.out.chg hc7 (fun h => by have := HPG.out.lt _ h; omega))
      have HG7 := hid (HG4.out.trans hc7 (fun _ _ h => h))
      have HP7 := hid hv7
      have HF7 : Hid (∀ k, F7 k → F k ∨ w.heap.size ≤ k) := hid (fun k h => by rcases hF7 k h with h2 | h2; exact .inl h2; have := HG4.out.size; exact .inr (by omega))
      have hNN7 : N7 ≤ N + 1 := by omega
      have hsz7 : t5 + 1 ≤ w7.heap.size := Nat.le_trans hsz4 hc7.size
      clear hv7 hN7 hF7 hc7
      refine hK _ _ (fun _ => ⟨HC7.out, HT7.out⟩) ?_
      clear hK K
      refine wpPlan3_list rfl rfl rfl (fun K hK => ?_)
      refine wpList_step (fun K2 hK2 => ?_)
      go_simp
      refine hK2 _ _ ?_
      clear hK2 K2
      simp only [wpList]
      have hal8 : Below w7.heap.size w7 (w7.alloc (.cells #[.int .i64 (at_ : Int), .string ⟨#[]⟩] 116)) := (Below.refl _ _).alloc (Nat.le_refl _) _
      obtain ⟨q8, hq8⟩ : ∃ b, w7.heap.size = b := ⟨_, rfl⟩
      obtain ⟨w8, hw8⟩ : ∃ x, w7.alloc (.cells #[.int .i64 (at_ : Int), .string ⟨#[]⟩] 116) = x := ⟨_, rfl⟩
      have HQ8 : Hid (Blk w8 q8 (ptV [(at_, [])]) TPt) := hid (by rw [← hw8, ← hq8]; exact heap_alloc_new _ _)
      rw [hw8] at hal8 ⊢
      rw [hq8]
      have hqF8 : Hid (¬ F7 q8 ∧ w.heap.size ≤ q8 ∧ q8 < w8.heap.size) := hid (by refine ⟨fun h => ?_, ?_, ?_⟩; have := HP7.out.lt _ h; omega; have := HG7.out.size; omega; exact HQ8.out.lt)
      have HC8 := hid (HC7.out.chg (Chg.new hal8 NoFp) (fun h => h))
      have HT8 := hid (HT7.out.chg (Chg.new hal8 NoFp) (fun h => h))
      have HG8 := hid (HG7.out.trans (Chg.new hal8 NoFp) (fun _ _ h => h.elim))
      have HP8 := hid (HP7.out.new' hal8)
      have hsz8 : t5 + 1 ≤ w8.heap.size := Nat.le_trans hsz7 hal8.size
      clear hal8 hw8 hq8
      refine hK _ _ (fun _ => ⟨HC8.out, HT8.out⟩) ?_
      clear hK K
      (apply wpPlan3_val; (case ho => rfl); (case hst => rfl); (case hw => rfl); (case hv => intro w' hS; go_simp; first | done | rfl); intro K hK; go_simp; refine hK _ ?_; clear hK K)
      (apply wpPlan3_val; (case ho => rfl); (case hst => rfl); (case hw => rfl); (case hv => intro w' hS; go_simp; first | done | rfl); intro K hK; go_simp; refine hK _ ?_; clear hK K)
      refine wpPlan3_nil ?_
      simp only [Qn]
      go_wp2_with fail
      go_ret2
      exact ⟨T2, ⟨q8, F7, N7, rfl, HQ8.out, HP8.out, hNN7, HG8.out, HF7.out, hqF8.out.1, hqF8.out.2.1⟩, HFIN.out⟩
end Go.Proofs.Ytdilkgcoecipjaa
