/- btree.read: a page's node. -/
import Derived.Test.YtdilkgcoecipjaaM6
import Derived.Test.YtdilkgcoecipjaaM5
namespace Go.Proofs.Ytdilkgcoecipjaa
open Go.RowKit
set_option linter.unusedVariables false

theorem keys_lt {n : Nd} (h : OkN n) (hs : sizeP n ≤ 504) : n.keys.length ≤ 251 ∧ n.keys.length * (if n.leaf = true then 2 else 1) ≤ 502 := by
  have h2 : ∀ (l : List Nat) (k : Nat), (∀ x ∈ l, k ≤ x) → l.length * k ≤ l.sum := by
    intro l k
    induction l with
    | nil => intro _; simp
    | cons a l ih =>
      intro h
      have h1 := ih (fun x hx => h x (List.mem_cons_of_mem _ hx))
      have h2 := h a (List.mem_cons_self ..)
      rw [List.length_cons, List.sum_cons, Nat.add_mul]; omega
  unfold sizeP at hs
  by_cases hl : n.leaf = true
  · have hc : ∀ x ∈ costs n, 2 ≤ x := by
      intro x hx
      unfold costs at hx
      rw [if_pos hl] at hx
      obtain ⟨e, _, rfl⟩ := List.mem_map.1 hx
      omega
    have h3 := h2 _ _ hc
    rw [costs_length h] at h3
    rw [if_pos hl]
    omega
  · have h3 := len_le_sum _ (costs_pos n)
    rw [costs_length h] at h3
    unfold OkN at h
    rw [if_neg hl] at h
    have := h.2.1
    rw [if_neg hl]
    omega
theorem okn_leaf {n : Nd} (h : OkN n) (hl : n.leaf = true) : n.vals.length = n.keys.length ∧ n.kids = [] ∧ (∀ k ∈ n.keys, k.length < 256) ∧ ∀ v ∈ n.vals, v.length < 256 := by
  unfold OkN at h
  rw [if_pos hl] at h
  refine ⟨h.1, h.2.1, fun k hk => ?_, fun v hv => ?_⟩
  · obtain ⟨i, hi, rfl⟩ := List.mem_iff_getElem.1 hk
    have := (h.2.2 (n.keys[i], n.vals[i]'(by omega)) (List.mem_of_getElem? (i := i) (List.getElem?_zip_eq_some.2 ⟨List.getElem?_eq_getElem hi, List.getElem?_eq_getElem (by omega)⟩))).2
    simp only at this
    omega
  · obtain ⟨i, hi, rfl⟩ := List.mem_iff_getElem.1 hv
    have := (h.2.2 (n.keys[i]'(by omega), n.vals[i]) (List.mem_of_getElem? (i := i) (List.getElem?_zip_eq_some.2 ⟨List.getElem?_eq_getElem (by omega), List.getElem?_eq_getElem hi⟩))).2
    simp only at this
    omega
theorem okn_inner {n : Nd} (h : OkN n) (hl : n.leaf = false) : n.vals = [] ∧ n.kids.length = n.keys.length + 1 ∧ (∀ k ∈ n.keys, k.length < 256) ∧ ∀ k ∈ n.kids, k < 65536 := by
  unfold OkN at h
  rw [if_neg (by rw [hl]; simp)] at h
  exact ⟨h.1, h.2.1, fun k hk => by have := h.2.2.1 k hk; omega, h.2.2.2⟩
/-- what is left behind the first keys -/
def post (n : Nd) (i : Nat) : Tx := (if n.leaf then ((n.keys.zip n.vals).drop i).flatMap (fun e => encT e.1 ++ encT e.2) else (n.keys.drop i).flatMap encT) ++ n.kids.flatMap le2
theorem post_zero (n : Nd) : enc n = front n ++ post n 0 := by
  rw [enc_front]
  unfold post bodyP
  split <;> simp
theorem post_leaf {n : Nd} (hl : n.leaf = true) (hv : n.vals.length = n.keys.length) {i : Nat} (hi : i < n.keys.length) : post n i = encT n.keys[i] ++ (encT (n.vals[i]'(by omega)) ++ post n (i + 1)) := by
  unfold post
  rw [if_pos hl, if_pos hl, List.drop_eq_getElem_cons (by rw [List.length_zip]; omega), List.getElem_zip]
  simp
theorem post_inner {n : Nd} (hl : n.leaf = false) {i : Nat} (hi : i < n.keys.length) : post n i = encT n.keys[i] ++ post n (i + 1) := by
  unfold post
  rw [if_neg (by rw [hl]; simp), if_neg (by rw [hl]; simp), List.drop_eq_getElem_cons hi, List.flatMap_cons, List.append_assoc]
theorem post_all {n : Nd} {i : Nat} (hi : n.keys.length ≤ i) : post n i = n.kids.flatMap le2 := by
  unfold post
  split
  · rw [List.drop_eq_nil_of_le (by rw [List.length_zip]; omega)]; rfl
  · rw [List.drop_eq_nil_of_le hi]; rfl

/-- a node's own slices -/
structure NdOwn (B0 : Nat) (w : World) (pk : Option Addr) (ck : Nat) (pv : Option Addr) (cv : Nat) (pd : Option Addr) (cd : Nat) (n : Nd) : Prop where
  keys : w.ownsRow B0 TSt 1 (.slice pk n.keys.length ck) n.keys.length (tv n.keys)
  vals : w.ownsRow B0 TSt 1 (.slice pv n.vals.length cv) n.vals.length (tv n.vals)
  kids : w.ownsRow B0 TI 1 (.slice pd n.kids.length cd) n.kids.length (kv n.kids)
  ne : NeB (.slice pk n.keys.length ck) (.slice pv n.vals.length cv)
theorem NdOwn.at {B0 : Nat} {w : World} {lf : Bool} {pk pv pd : Option Addr} {ck cv cd : Nat} {n : Nd} (h : NdOwn B0 w pk ck pv cv pd cd n) (hl : n.leaf = lf) : NdAt w lf pk ck pv cv pd cd n :=
  ⟨hl, Rd.of_own h.keys, Rd.of_own h.vals, Rd.of_own h.kids⟩
theorem NdOwn.new {B0 : Nat} {w w' : World} {pk pv pd : Option Addr} {ck cv cd : Nat} {n : Nd} (h : NdOwn B0 w pk ck pv cv pd cd n) (hb : Below w.heap.size w w') : NdOwn B0 w' pk ck pv cv pd cd n :=
  ⟨own_new h.keys hb, own_new h.vals hb, own_new h.kids hb, h.ne⟩
theorem NdOwn.base {B0 B1 : Nat} {w : World} {pk pv pd : Option Addr} {ck cv cd : Nat} {n : Nd} (h : NdOwn B1 w pk ck pv cv pd cd n) (hb : B0 ≤ B1) : NdOwn B0 w pk ck pv cv pd cd n :=
  ⟨own_base h.keys hb, own_base h.vals hb, own_base h.kids hb, h.ne⟩
theorem infoSt : (Try.prog.info? TSt).map (fun i => (i.zero, i.size, i.bytes)) = some (some (.string ⟨#[]⟩), 1, 16) := by kernel_rfl
theorem infoTI : (Try.prog.info? TI).map (fun i => (i.zero, i.size, i.bytes)) = some (some (.int .i64 0), 1, 8) := by kernel_rfl
theorem four_cells {w : World} {g : Nat} {x0 x1 x2 x3 : Value} {T : TypeId} (h : Blk w g [x0, x1, x2, x3] T) : w.cell? ⟨g, 0, none⟩ = some x0 ∧ w.cell? ⟨g, 1, none⟩ = some x1 ∧ w.cell? ⟨g, 2, none⟩ = some x2 ∧ w.cell? ⟨g, 3, none⟩ = some x3 ∧
    w.frozen? ⟨g, 0, none⟩ = false ∧ w.frozen? ⟨g, 1, none⟩ = false ∧ w.frozen? ⟨g, 2, none⟩ = false ∧ w.frozen? ⟨g, 3, none⟩ = false :=
  ⟨h.cell 0, h.cell 1, h.cell 2, h.cell 3, h.frozen 0, h.frozen 1, h.frozen 2, h.frozen 3⟩
theorem or_kid (k : Nat) (hk : k < 65536) : bits .or .i64 (IntKind.i64.wrap ((k : Int) % 256)) (IntKind.i64.wrap (IntKind.i64.wrap ((k : Int) / 256 % 256) * 256)) = (k : Int) := by
  have e1 : IntKind.i64.wrap ((k : Int) % 256) = ((k % 256 : Nat) : Int) := by
    rw [IntWalk.i64_in _ ⟨by omega, by omega⟩]; omega
  have e2 : IntKind.i64.wrap (IntKind.i64.wrap ((k : Int) / 256 % 256) * 256) = ((2 ^ 8 * (k / 256 % 256) : Nat) : Int) := by
    rw [IntWalk.i64_in ((k : Int) / 256 % 256) ⟨by omega, by omega⟩, IntWalk.i64_in _ ⟨by omega, by omega⟩]; omega
  rw [e1, e2, (bits_nat .i64 63 (by decide) (fun n h0 h1 => IntWalk.i64_in n ⟨by omega, by omega⟩) _ _ (by omega) (by omega)).2]
  rw [Nat.or_comm, ← Nat.two_pow_add_eq_or_of_lt (by omega : k % 256 < 2 ^ 8)]
  omega
theorem nset4 {w : World} {g : Nat} {x0 x1 x2 x3 : Value} {T : TypeId} (h : Blk w g [x0, x1, x2, x3] T) (y0 y1 y2 y3 : Value) :
    Blk ((((w.setCell ⟨g, 0, none⟩ y0).setCell ⟨g, 1, none⟩ y1).setCell ⟨g, 2, none⟩ y2).setCell ⟨g, 3, none⟩ y3) g [y0, y1, y2, y3] T :=
  (((h.set 0 _).set 1 _).set 2 _).set 3 _
theorem nchg4 {w : World} {g : Nat} (y0 y1 y2 y3 : Value) : Chg (fun k => k = g) w ((((w.setCell ⟨g, 0, none⟩ y0).setCell ⟨g, 1, none⟩ y1).setCell ⟨g, 2, none⟩ y2).setCell ⟨g, 3, none⟩ y3) := by
  have h : ∀ (w : World) (j : Nat) (y : Value), Chg (fun k => k = g) w (w.setCell ⟨g, j, none⟩ y) := fun w j y => Chg.setCell (fp := fun k => k = g) _ rfl _
  exact (((h _ _ _).trans (h _ _ _) (fun _ _ h => h)).trans (h _ _ _) (fun _ _ h => h)).trans (h _ _ _) (fun _ _ h => h)
theorem results_row_tmp {P : Program} {fn : Func} {p u : Tmp} {ty : TypeId} (h : fn.results = #[.cell p ty, .tmp u]) (tmps : Array Value) (w : World) (g : Nat) (t : TypeId) (cs : Array Value) (fr : Nat × Nat) (d : TypeDesc)
    (hp : tmps.getD p undef = .pointer (some ⟨g, 0, none⟩)) (hg : w.heap[g]? = some (.cells cs t fr))
    (hu : P.underlying ty = some d) (hd : (match d with | .struct _ | .array _ _ => true | _ => false) = true) (hi : (P.info? ty).map (·.size) = some cs.size) :
    (results fn tmps).run P w = .ok (.tuple #[.agg cs, tmps.getD u undef]) w := by
  have hp' : tmps[p]?.getD undef = .pointer (some ⟨g, 0, none⟩) := by simpa using hp
  simp [results, h, hp', asAddr, run_loadVar_row w g t ty cs fr d hg hu hd hi]

set_option maxRecDepth 100000 in
set_option maxHeartbeats 8000000 in
theorem read_leaf (w : World) (p d : Nat) (F : Nat → Prop) (n : Nat) (s : DS) (S T : AS) (op : Bool) (N : Nat) (at_ : Int) (nd : Nd) (h : PgV w p d F n s S T op N) (hp : T.B at_ = some (pad504 (enc nd))) (hok : OkN nd) (hsz : sizeP nd ≤ 504) (hl : nd.leaf = true) :
    Calls Try.prog 48 #[.pointer (some ⟨p, 0, none⟩), .int .i64 at_] w fun e w' => ∃ pk ck pv cv pd cd, e = .returned (.tuple #[ndV true pk nd.keys.length ck pv nd.vals.length cv pd nd.kids.length cd, .int .i64 0]) ∧ NdOwn w.heap.size w' pk ck pv cv pd cd nd ∧ Below w.heap.size w w' := by
  have HV := hid h
  have HP := hid hp
  have HOK := hid hok
  have HSZ := hid hsz
  have HLF := hid hl
  clear h hp hok hsz hl
  go_enter Try.func48, Try.ntmps48
  go_wp2_with fail
  obtain ⟨w1, hw1⟩ : ∃ x, w.alloc (.cells #[.bool false, .slice none 0 0, .slice none 0 0, .slice none 0 0] 59) = x := ⟨_, rfl⟩
  rw [hw1]
  have HRS1 : Hid (Blk w1 w.heap.size [.bool false, .slice none 0 0, .slice none 0 0, .slice none 0 0] TN) := hid (by rw [← hw1]; exact heap_alloc_new _ _)
  have HB1 : Hid (Below w.heap.size w w1) := hid (by rw [← hw1]; exact (Below.refl _ _).alloc (Nat.le_refl _) _)
  have hs1 : w1.heap.size = w.heap.size + 1 := by rw [← hw1]; simp
  clear hw1
  refine ((HV.out.new' HB1.out).get at_).mono ?_
  rintro e2 w2 ⟨q, m, c, rfl, hm, hbs, hb2, hg2⟩
  have hget : getA T at_ = (pad504 (enc nd), 0) := by unfold getA; rw [HP.out]
  rw [hget] at hm hbs ⊢
  have HBS := hid hbs
  have hlen : (pad504 (enc nd)).length = 504 := pad504_length (by rw [enc_length]; exact HSZ.out)
  rw [hlen] at hm
  subst hm
  have hs2 := hb2.size
  have HRS2 := hid (HRS1.out.chg (Chg.new hb2 NoFp) (fun h => h))
  have HB2 := hid (HB1.out.trans (hb2.mono (by omega)))
  have HG2 : Hid (∀ g, Value.ownBlock (.slice q 504 c) = some g → w1.heap.size ≤ g ∧ g < w2.heap.size) := hid (fun g hg => ⟨hg2 g hg, (Rd.lt HBS.out (by rw [hlen]; decide) (by decide) g hg)⟩)
  clear hget hbs hb2 hg2
  go_wp2_with fail
  obtain ⟨r, hr⟩ : ∃ r, w2.heap.size = r := ⟨_, rfl⟩
  obtain ⟨w3, hw3⟩ : ∃ x, w2.alloc (.cells #[.slice q 504 c, .bool false] 119) = x := ⟨_, rfl⟩
  rw [hw3]
  obtain ⟨Z, hZ⟩ : ∃ Z, List.replicate (504 - (enc nd).length) (0 : UInt8) = Z := ⟨_, rfl⟩
  have hsplit : pad504 (enc nd) = front nd ++ (post nd 0 ++ Z) := by unfold pad504; rw [hZ, post_zero, List.append_assoc]
  have HL504 := hid hlen
  rw [hsplit] at HBS HL504
  have HBT3 : Hid (Bit w3 r (Value.ownBlock (.slice q 504 c)) (front nd ++ (post nd 0 ++ Z))) := hid (by
    refine ⟨.slice q 504 c, by rw [← hw3, ← hr]; exact heap_alloc_new _ _, ?_, rfl, ?_⟩
    · have h1 := HBS.out
      unfold Bs at h1 ⊢
      rw [HL504.out] at h1 ⊢
      rw [← hw3]
      exact h1.new ((Below.refl _ _).alloc (Nat.le_refl _) _)
    · intro hh
      have := (HG2.out r hh).2
      omega)
  have hs3 : w3.heap.size = r + 1 := by rw [← hw3, ← hr]; simp
  have HRS3 : Hid (Blk w3 w.heap.size [.bool false, .slice none 0 0, .slice none 0 0, .slice none 0 0] TN) := hid (by rw [← hw3]; exact HRS2.out.chg (Chg.alloc NoFp _ _) (fun h => h))
  have HB3 : Hid (Below w.heap.size w w3) := hid (by rw [← hw3]; exact HB2.out.alloc (by omega) _)
  rw [hr]
  rw [hr] at hs2
  have HG3 : Hid (∀ g, Value.ownBlock (.slice q 504 c) = some g → w1.heap.size ≤ g ∧ g < r) := hid (by rw [← hr]; exact HG2.out)
  clear hw3 HBS HG2 HRS2 HB2 hlen hsplit hZ
  refine (btake_any r _ (front nd ++ (post nd 0 ++ Z)) 2 w3 HBT3.out (by rw [HL504.out]; omega) (by rw [HL504.out]; omega)).mono ?_
  rintro e4 w4 ⟨p4, c4, rfl, hc4, hb4, hr4, hob4⟩
  rw [List.take_left' (show (front nd).length = 2 from rfl)] at hr4
  rw [List.drop_left' (show (front nd).length = 2 from rfl)] at hb4

  obtain ⟨bh, oh, rfl, hcc⟩ := hr4.addr (by omega)
  have hbr : bh < r := (HG3.out bh hob4.symm).2
  have hk251 := keys_lt HOK.out HSZ.out
  have hcnt : ((UInt8.ofNat nd.keys.length).toNat : Int) = (nd.keys.length : Int) := by rw [UInt8.toNat_ofNat']; omega
  have hfr : bv (front nd) = [.int .u8 1, .int .u8 (nd.keys.length : Int)] := by
    unfold front
    rw [HLF.out, ← hcnt]
    rfl
  rw [hfr] at hcc
  have e0 : w4.cell? ⟨bh, oh, none⟩ = some (.int .u8 1) := hcc 0 _ rfl
  have e1 : w4.cell? ⟨bh, oh + 1, none⟩ = some (.int .u8 (nd.keys.length : Int)) := hcc 1 _ rfl
  obtain ⟨nk, hnk⟩ : ∃ m, nd.keys.length = m := ⟨_, rfl⟩
  rw [hnk] at e1
  have HNK := hid hnk
  have hs4 := hc4.size
  have HRS4 := hid (HRS3.out.chg hc4 (by omega))
  have HB4 := hid (HB3.out.trans (hc4.below (B := w.heap.size) (by omega) (by omega)))
  have HBT4 := hid hb4
  have hbh : bh < w4.heap.size := World.block_lt_of_cell? _ _ e0
  clear hc4 hb4 hr4 hob4 hcc hfr hcnt hnk
  rw [hs3] at hs4
  have hk251 : nk ≤ 251 := by rw [← HNK.out]; exact hk251.1
  go_wp2_with fail
  obtain ⟨nb, hnb⟩ : ∃ m, w4.heap.size = m := ⟨_, rfl⟩
  obtain ⟨w5, hw5⟩ : ∃ x, w4.alloc (.cells #[.bool true, .slice none 0 0, .slice none 0 0, .slice none 0 0] 59) = x := ⟨_, rfl⟩
  have HN5 : Hid (Blk w5 nb [.bool true, .slice none 0 0, .slice none 0 0, .slice none 0 0] TN) := hid (by rw [← hw5, ← hnb]; exact heap_alloc_new _ _)
  have hc5 : Chg NoFp w4 w5 := by rw [← hw5]; exact Chg.alloc _ _ _
  have HBT5 := hid (HBT4.out.chg hc5 (fun h => h) (fun _ _ _ h => h))
  have HRS5 := hid (HRS4.out.chg hc5 (fun h => h))
  have HB5 : Hid (Below w.heap.size w w5) := hid (by rw [← hw5]; exact HB4.out.alloc (by omega) _)
  have hs5 : w5.heap.size = nb + 1 := by rw [← hw5, ← hnb]; simp
  have c0 : w5.cell? ⟨bh, oh, none⟩ = some (.int .u8 1) := (World.cell?_of_block (w := w4) (a := ⟨bh, oh, none⟩) (hc5.block bh hbh (fun h => h))).trans e0
  have HPL0 := hid (show (post nd 0 ++ Z).length ≤ 504 by have := HL504.out; rw [List.length_append] at this; omega)
  rw [hw5, hnb]
  rw [hnb] at hs4 hbh
  clear hw5 hc5 hnb e0 e1 HBT4 HRS4 HB4 HRS3 HB3 HBT3
  go_loopw [37] (fun vi wr => ∃ (i : Nat) (pk : Option Addr) (ck : Nat) (pv : Option Addr) (cv : Nat), vi = .int .i64 i ∧ i ≤ nk ∧ nb + 1 ≤ wr.heap.size ∧ Hid ((post nd i ++ Z).length ≤ 504) ∧ Hid (Blk wr nb [.bool true, .slice pk i ck, .slice pv i cv, .slice none 0 0] TN) ∧ Hid (Bit wr r (Value.ownBlock (.slice q 504 c)) (post nd i ++ Z)) ∧
    Hid (wr.ownsRow (nb + 1) TSt 1 (.slice pk i ck) i (tv (nd.keys.take i))) ∧ Hid (wr.ownsRow (nb + 1) TSt 1 (.slice pv i cv) i (tv (nd.vals.take i))) ∧ Hid (NeB (.slice pk i ck) (.slice pv i cv)) ∧ Hid (Chg (fun k => k = r ∨ k = nb ∨ nb + 1 ≤ k) w5 wr)) (fun vi _ => nk - (intOf vi).toNat)
  case atStart => exact ⟨0, none, 0, none, 0, rfl, Nat.zero_le _, by omega, HPL0, HN5, HBT5, hid (World.ownsRow_nil _ _ _ _), hid (World.ownsRow_nil _ _ _ _), hid (fun g h => by cases h), hid (Chg.refl _ _)⟩
  case round =>
    obtain ⟨i, pk, ck, pv, cv, rfl, hi, hsr, HPL, HNB, HBT, HOK1, HOV1, HNE, HC⟩ := hrel
    by_cases hlt : i < nk
    · have hlt2 : (i : Int) < (nk : Int) := by omega
      obtain ⟨hvl, _, hk256, hv256⟩ := okn_leaf HOK.out HLF.out
      have hi2 : i < nd.keys.length := by rw [HNK.out]; exact hlt
      have hpost := post_leaf HLF.out hvl hi2
      have hkl := hk256 _ (List.getElem_mem hi2)
      have hul := hv256 _ (List.getElem_mem (show i < nd.vals.length by omega))
      obtain ⟨k, hk⟩ : ∃ k, nd.keys[i] = k := ⟨_, rfl⟩
      obtain ⟨u, hu⟩ : ∃ u, nd.vals[i]'(by omega) = u := ⟨_, rfl⟩
      have HKT := hid (show nd.keys.take (i + 1) = nd.keys.take i ++ [k] by rw [List.take_add_one, List.getElem?_eq_getElem hi2, hk]; rfl)
      have HUT := hid (show nd.vals.take (i + 1) = nd.vals.take i ++ [u] by rw [List.take_add_one, List.getElem?_eq_getElem (show i < nd.vals.length by omega), hu]; rfl)
      rw [hk, hu] at hpost
      rw [hk] at hkl
      rw [hu] at hul
      have hbt2 := HBT.out
      have hpl := HPL.out
      rw [hpost] at hbt2 hpl
      rw [List.append_assoc, List.append_assoc] at hbt2 hpl
      have HBT2 := hid hbt2
      have HTL := hid (show k.length < 256 ∧ (encT k ++ (encT u ++ (post nd (i + 1) ++ Z))).length ≤ 100000 from ⟨hkl, by omega⟩)
      have HUL := hid (show u.length < 256 ∧ (encT u ++ (post nd (i + 1) ++ Z)).length ≤ 100000 from ⟨hul, by rw [List.length_append] at hpl; omega⟩)
      have HPL2 := hid (show (post nd (i + 1) ++ Z).length ≤ 504 by rw [List.length_append, List.length_append] at hpl; omega)
      clear hvl hk256 hv256 hpost hkl hul hk hu hbt2 hpl
      go_wp2_with fail

      have HBXa := hid (four_cells HNB.out)
      refine wp_region_plan (fun w' => w'.cell? ⟨nb, 1, none⟩ = some (.slice pk i ck)) (fun j => !([3, 4, 5, 7].contains j)) (fun j => [7].contains j)
        (.of [0, 1, 2, 3, 4, 5, 6, 7]) (by kernel_rfl) (by kernel_rfl) rfl (by kernel_rfl) (by kernel_rfl) HBXa.out.2.1 ?_
      iterate 3 (apply wpPlan_val; (case ho => rfl); (case hst => rfl); (case hw => rfl); (case hv => intro w' hS; go_simp; first | done | rfl); intro K hK; go_simp; refine hK _ ?_; clear hK K)
      refine wpPlan_list rfl rfl rfl (fun K hK => ?_)
      refine wpList_step (fun K2 hK2 => ?_)
      go_simp
      refine (btext_any r _ k (encT u ++ (post nd (i + 1) ++ Z)) wr.drew (show Bit wr.drew r _ _ from HBT2.out) HTL.out.1 HTL.out.2).mono ?_
      rintro ea waa ⟨rfl, hcaa, hbaa⟩
      have hcaa : Chg (fun k => k = r) wr waa := Chg.drewN' (n := 1) hcaa
      have HBAa := hid hbaa
      have HNAa := hid (HNB.out.chg hcaa (by omega))
      have HOAa := hid (own_chg HOK1.out hcaa (fun g hg h => by have := (own_lt HOK1.out g hg).1; omega))
      have HOBa := hid (own_chg HOV1.out hcaa (fun g hg h => by have := (own_lt HOV1.out g hg).1; omega))
      have HCAa := hid (HC.out.trans hcaa (fun i hi h => .inl h))
      have hsaa := hcaa.size
      clear hcaa hbaa
      go_simp
      refine hK2 _ _ ?_
      clear hK2 K2
      simp only [wpList]
      refine hK _ _ (fun _ => HNAa.out.cell 1) ?_
      clear hK K
      refine wpPlan_list rfl rfl rfl (fun K hK => ?_)
      refine wpList_step (fun K2 hK2 => ?_)
      go_simp
      refine hK2 _ _ ?_
      clear hK2 K2
      simp only [wpList]
      have HNBa := hid (HNAa.out.chg (Chg.alloc NoFp _ (.cells #[.string (B k)] TSt)) (fun h => h))
      refine hK _ _ (fun _ => HNBa.out.cell 1) ?_
      clear hK K
      refine wpPlan_list rfl rfl rfl (fun K hK => ?_)
      have HOCa := hid (own_new HOAa.out ((Below.refl _ _).alloc (Nat.le_refl _) (.cells #[.string (B k)] TSt)))
      have HODa := hid (own_new HOBa.out ((Below.refl _ _).alloc (Nat.le_refl _) (.cells #[.string (B k)] TSt)))
      have HSZa : Hid (nb + 1 ≤ (waa.alloc (.cells #[.string (B k)] TSt)).heap.size) := hid (by simp; omega)
      refine wpList_append_rd rfl _ _ 33 rfl (nb + 1) TSt _ 1 16 Try.underlying33 infoSt rfl (by decide) _ _ _ rfl HOCa.out _ 1 [.string (B k)] rfl (Rd.fresh1 _ _ _) (by simp [Value.oneCell']) (by simp only [maxLen]; omega) (by omega) HSZa.out ?_
      intro ppa cca w7a hoa hga hva
      have HNCa := hid (HNBa.out.chg (Chg.grown hga) (own_blk_ne HOCa.out HNBa.out (by decide)))
      have HOEa := hid (own_chg HODa.out (Chg.grown hga) (fun g h1 h2 => (HNE.out.symm) g h1 h2))
      have HBCa := hid ((HBAa.out.new ((Below.refl _ _).alloc (Nat.le_refl _) (.cells #[.string (B k)] TSt))).chg (Chg.grown hga) (fun h => by have := (own_lt HOCa.out r h).1; omega) (fun g h1 h2 h3 => by have := (own_lt HOCa.out g h3).1; have := (HG3.out g h1).2; omega))
      have HCCa := hid ((HCAa.out.trans (Chg.alloc NoFp _ (.cells #[.string (B k)] TSt)) (fun _ _ h => h.elim)).trans (Chg.grown hga) (fun i hi h => .inr (.inr (own_lt HOCa.out i h).1)))
      have HNEa := hid (neB_next (v := .slice pk i ck) (v' := .slice ppa (i + 1) cca) (HNE.out.symm) (fun g h1 => (own_lt HODa.out g h1).2) hva)
      have HOWa := hid hoa
      have hs7a : nb + 1 ≤ w7a.heap.size := Nat.le_trans HSZa.out hga.size
      clear hoa hga hva HOCa HODa HOAa HOBa HNBa HNAa HBAa HCAa
      simp only [wpList]
      refine hK _ _ (fun _ => HNCa.out.cell 1) ?_
      clear hK K
      apply wpPlan_val
      case ho => rfl
      case hst => rfl
      case hw => rfl
      case hv => intro w' hS; go_simp; first | done | rfl
      intro K hK
      go_simp
      refine hK _ ?_
      clear hK K
      obtain ⟨k0a, k1a, k2a, k3a, f0a, f1a, f2a, f3a⟩ := four_cells HNCa.out
      refine wpPlan_list rfl rfl rfl (fun K hK => ?_)
      refine wpList_step (fun K2 hK2 => ?_)
      go_simp
      refine hK2 _ _ ?_
      clear hK2 K2
      simp only [wpList]
      refine hK _ _ (fun h => by cases h) ?_
      clear hK K
      refine wpPlan_nil ?_
      simp only [Qn]
      obtain ⟨w8, hw9a⟩ : ∃ x, w7a.setCell ⟨nb, 1, none⟩ (.slice ppa (i + 1) cca) = x := ⟨_, rfl⟩
      rw [hw9a]
      have HNFa : Hid (Blk w8 nb [.bool true, .slice ppa (i + 1) cca, .slice pv i cv, .slice none 0 0] TN) := hid (by rw [← hw9a]; exact HNCa.out.set 1 _)
      have hc9a : Chg (fun k => k = nb) w7a w8 := by rw [← hw9a]; exact Chg.setCell (fp := fun k => k = nb) _ rfl _
      have HBFa := hid (HBCa.out.chg hc9a (by omega) (fun g h1 h2 h3 => by have := (HG3.out g h1).2; omega))
      have HOWFa := hid (own_chg HOWa.out hc9a (fun g hg h => by have := (own_lt HOWa.out g hg).1; omega))
      have HOEFa := hid (own_chg HOEa.out hc9a (fun g hg h => by have := (own_lt HOEa.out g hg).1; omega))
      have HCFa := hid (HCCa.out.trans hc9a (fun i hi h => .inr (.inl h)))
      have hs9a : nb + 1 ≤ w8.heap.size := Nat.le_trans hs7a hc9a.size
      clear hw9a hc9a HNCa HBCa HOWa HOEa HCCa k0a k1a k2a k3a f0a f1a f2a f3a HBXa
      obtain ⟨q0, q1, q2, q3, qf0, qf1, qf2, qf3⟩ := four_cells HNFa.out
      go_wp2_with fail
      have HBXb := hid (four_cells HNFa.out)
      refine wp_region_plan (fun w' => w'.cell? ⟨nb, 2, none⟩ = some (.slice pv i cv)) (fun j => !([3, 4, 5, 7].contains j)) (fun j => [7].contains j)
        (.of [0, 1, 2, 3, 4, 5, 6, 7]) (by kernel_rfl) (by kernel_rfl) rfl (by kernel_rfl) (by kernel_rfl) HBXb.out.2.2.1 ?_
      iterate 3 (apply wpPlan_val; (case ho => rfl); (case hst => rfl); (case hw => rfl); (case hv => intro w' hS; go_simp; first | done | rfl); intro K hK; go_simp; refine hK _ ?_; clear hK K)
      refine wpPlan_list rfl rfl rfl (fun K hK => ?_)
      refine wpList_step (fun K2 hK2 => ?_)
      go_simp
      refine (btext_any r _ u (post nd (i + 1) ++ Z) w8.drew (show Bit w8.drew r _ _ from HBFa.out) HUL.out.1 HUL.out.2).mono ?_
      rintro eb wab ⟨rfl, hcab, hbab⟩
      have hcab : Chg (fun k => k = r) w8 wab := Chg.drewN' (n := 1) hcab
      have HBAb := hid hbab
      have HNAb := hid (HNFa.out.chg hcab (by omega))
      have HOAb := hid (own_chg HOEFa.out hcab (fun g hg h => by have := (own_lt HOEFa.out g hg).1; omega))
      have HOBb := hid (own_chg HOWFa.out hcab (fun g hg h => by have := (own_lt HOWFa.out g hg).1; omega))
      have HCAb := hid (HCFa.out.trans hcab (fun i hi h => .inl h))
      have hsab := hcab.size
      clear hcab hbab
      go_simp
      refine hK2 _ _ ?_
      clear hK2 K2
      simp only [wpList]
      refine hK _ _ (fun _ => HNAb.out.cell 2) ?_
      clear hK K
      refine wpPlan_list rfl rfl rfl (fun K hK => ?_)
      refine wpList_step (fun K2 hK2 => ?_)
      go_simp
      refine hK2 _ _ ?_
      clear hK2 K2
      simp only [wpList]
      have HNBb := hid (HNAb.out.chg (Chg.alloc NoFp _ (.cells #[.string (B u)] TSt)) (fun h => h))
      refine hK _ _ (fun _ => HNBb.out.cell 2) ?_
      clear hK K
      refine wpPlan_list rfl rfl rfl (fun K hK => ?_)
      have HOCb := hid (own_new HOAb.out ((Below.refl _ _).alloc (Nat.le_refl _) (.cells #[.string (B u)] TSt)))
      have HODb := hid (own_new HOBb.out ((Below.refl _ _).alloc (Nat.le_refl _) (.cells #[.string (B u)] TSt)))
      have HSZb : Hid (nb + 1 ≤ (wab.alloc (.cells #[.string (B u)] TSt)).heap.size) := hid (by simp; omega)
      refine wpList_append_rd rfl _ _ 33 rfl (nb + 1) TSt _ 1 16 Try.underlying33 infoSt rfl (by decide) _ _ _ rfl HOCb.out _ 1 [.string (B u)] rfl (Rd.fresh1 _ _ _) (by simp [Value.oneCell']) (by simp only [maxLen]; omega) (by omega) HSZb.out ?_
      intro ppb ccb w7b hob hgb hvb
      have HNCb := hid (HNBb.out.chg (Chg.grown hgb) (own_blk_ne HOCb.out HNBb.out (by decide)))
      have HOEb := hid (own_chg HODb.out (Chg.grown hgb) (fun g h1 h2 => (HNEa.out.symm) g h1 h2))
      have HBCb := hid ((HBAb.out.new ((Below.refl _ _).alloc (Nat.le_refl _) (.cells #[.string (B u)] TSt))).chg (Chg.grown hgb) (fun h => by have := (own_lt HOCb.out r h).1; omega) (fun g h1 h2 h3 => by have := (own_lt HOCb.out g h3).1; have := (HG3.out g h1).2; omega))
      have HCCb := hid ((HCAb.out.trans (Chg.alloc NoFp _ (.cells #[.string (B u)] TSt)) (fun _ _ h => h.elim)).trans (Chg.grown hgb) (fun i hi h => .inr (.inr (own_lt HOCb.out i h).1)))
      have HNEb := hid (neB_next (v := .slice pv i cv) (v' := .slice ppb (i + 1) ccb) (HNEa.out.symm) (fun g h1 => (own_lt HODb.out g h1).2) hvb)
      have HOWb := hid hob
      have hs7b : nb + 1 ≤ w7b.heap.size := Nat.le_trans HSZb.out hgb.size
      clear hob hgb hvb HOCb HODb HOAb HOBb HNBb HNAb HBAb HCAb
      simp only [wpList]
      refine hK _ _ (fun _ => HNCb.out.cell 2) ?_
      clear hK K
      apply wpPlan_val
      case ho => rfl
      case hst => rfl
      case hw => rfl
      case hv => intro w' hS; go_simp; first | done | rfl
      intro K hK
      go_simp
      refine hK _ ?_
      clear hK K
      obtain ⟨k0b, k1b, k2b, k3b, f0b, f1b, f2b, f3b⟩ := four_cells HNCb.out
      refine wpPlan_list rfl rfl rfl (fun K hK => ?_)
      refine wpList_step (fun K2 hK2 => ?_)
      go_simp
      refine hK2 _ _ ?_
      clear hK2 K2
      simp only [wpList]
      refine hK _ _ (fun h => by cases h) ?_
      clear hK K
      refine wpPlan_nil ?_
      simp only [Qn]
      obtain ⟨w9, hw9b⟩ : ∃ x, w7b.setCell ⟨nb, 2, none⟩ (.slice ppb (i + 1) ccb) = x := ⟨_, rfl⟩
      rw [hw9b]
      have HNFb : Hid (Blk w9 nb [.bool true, .slice ppa (i + 1) cca, .slice ppb (i + 1) ccb, .slice none 0 0] TN) := hid (by rw [← hw9b]; exact HNCb.out.set 2 _)
      have hc9b : Chg (fun k => k = nb) w7b w9 := by rw [← hw9b]; exact Chg.setCell (fp := fun k => k = nb) _ rfl _
      have HBFb := hid (HBCb.out.chg hc9b (by omega) (fun g h1 h2 h3 => by have := (HG3.out g h1).2; omega))
      have HOWFb := hid (own_chg HOWb.out hc9b (fun g hg h => by have := (own_lt HOWb.out g hg).1; omega))
      have HOEFb := hid (own_chg HOEb.out hc9b (fun g hg h => by have := (own_lt HOEb.out g hg).1; omega))
      have HCFb := hid (HCCb.out.trans hc9b (fun i hi h => .inr (.inl h)))
      have hs9b : nb + 1 ≤ w9.heap.size := Nat.le_trans hs7b hc9b.size
      clear hw9b hc9b HNCb HBCb HOWb HOEb HCCb k0b k1b k2b k3b f0b f1b f2b f3b HBXb
      clear q0 q1 q2 q3 qf0 qf1 qf2 qf3
      have hok9 := HOEFb.out
      have hov9 := HOWFb.out
      rw [show tv (nd.keys.take i) ++ [.string (B k)] = tv (nd.keys.take (i + 1)) by rw [HKT.out, tv_app]; rfl] at hok9
      rw [show tv (nd.vals.take i) ++ [.string (B u)] = tv (nd.vals.take (i + 1)) by rw [HUT.out, tv_app]; rfl] at hov9
      have HOK9 := hid hok9
      have HOV9 := hid hov9
      clear hok9 hov9
      go_wp2_with fail
      go_roundw
      case rel => exact ⟨i + 1, ppa, cca, ppb, ccb, by first | rfl | (congr 1; omega) | (congr 1), hlt, hs9b, HPL2, HNFb, HBFb, HOK9, HOV9, HNEb, HCFb⟩
      case measure => simp [intOf]; omega
    · have hlt2 : ¬ (i : Int) < (nk : Int) := by omega
      have HNn := hid (show i = nk by omega)
      rw [HNn.out] at HPL HBT HOK1 HOV1 HNE HNB
      rw [List.take_of_length_le (by rw [HNK.out]; exact Nat.le_refl _)] at HOK1
      rw [List.take_of_length_le (by rw [(okn_leaf HOK.out HLF.out).1, HNK.out]; exact Nat.le_refl _)] at HOV1
      rw [post_all (by rw [HNK.out]; exact Nat.le_refl _)] at HPL HBT
      clear hi hlt HNn
      go_wp2_with fail
      go_loopw [11] (fun vj wr2 => vj = .int .i64 0 ∧ wr2 = wr) (fun vj _ => 0)
      case atStart => exact ⟨rfl, rfl⟩
      case round =>
        obtain ⟨rfl, rfl⟩ := hrel
        obtain ⟨q0, q1, q2, q3, qf0, qf1, qf2, qf3⟩ := four_cells HNB.out
        have hnk0 : (0 : Int) ≤ (nk : Int) := by omega
        obtain ⟨vb, hvb, _⟩ := HBT.out
        obtain ⟨z0, z1, _, _⟩ := two_cells hvb
        have c0r : wr.cell? ⟨bh, oh, none⟩ = some (.int .u8 1) := (World.cell?_of_block (w := w5) (a := ⟨bh, oh, none⟩) (HC.out.block bh (by omega) (by omega))).trans c0
        have HRSr := hid (HRS5.out.chg HC.out (by omega))
        obtain ⟨s0, s1, s2, s3, sf0, sf1, sf2, sf3⟩ := four_cells HRSr.out
        clear hvb
        go_wp2_with fail
        have hfin := nset4 HRSr.out (.bool true) (.slice pk nk ck) (.slice pv nk cv) (.slice none 0 0)
        refine bodyPost_ret (results_row_tmp rfl _ _ w.heap.size TN _ (0, 0) _ rfl hfin Try.underlying59 rfl (by kernel_rfl)) rfl ?_
        have hcf := nchg4 (w := wr) (g := w.heap.size) (.bool true) (.slice pk nk ck) (.slice pv nk cv) (.slice none 0 0)
        have hbf := (HB5.out.trans (HC.out.below (B := w.heap.size) (by omega) (by omega))).trans (hcf.below (B := w.heap.size) (by omega) (by omega))
        have ho1 := own_base (B0 := w.heap.size) (own_chg HOK1.out hcf (fun g hg h => by have := (own_lt HOK1.out g hg).1; omega)) (by omega)
        have ho2 := own_base (B0 := w.heap.size) (own_chg HOV1.out hcf (fun g hg h => by have := (own_lt HOV1.out g hg).1; omega)) (by omega)
        have h1 := HNK.out
        obtain ⟨h2, h3, _, _⟩ := okn_leaf HOK.out HLF.out
        have hne := HNE.out
        rw [h1] at h2
        refine ⟨pk, ck, pv, cv, none, 0, by rw [h1, h2, h3]; rfl, ⟨by rw [h1]; exact ho1, by rw [h2]; exact ho2, by rw [h3]; exact World.ownsRow_nil _ _ _ _, by rw [h1, h2]; exact hne⟩, hbf⟩

set_option maxRecDepth 100000 in
set_option maxHeartbeats 8000000 in
theorem read_inner (w : World) (p d : Nat) (F : Nat → Prop) (n : Nat) (s : DS) (S T : AS) (op : Bool) (N : Nat) (at_ : Int) (nd : Nd) (h : PgV w p d F n s S T op N) (hp : T.B at_ = some (pad504 (enc nd))) (hok : OkN nd) (hsz : sizeP nd ≤ 504) (hl : nd.leaf = false) :
    Calls Try.prog 48 #[.pointer (some ⟨p, 0, none⟩), .int .i64 at_] w fun e w' => ∃ pk ck pv cv pd cd, e = .returned (.tuple #[ndV false pk nd.keys.length ck pv nd.vals.length cv pd nd.kids.length cd, .int .i64 0]) ∧ NdOwn w.heap.size w' pk ck pv cv pd cd nd ∧ Below w.heap.size w w' := by
  have HV := hid h
  have HP := hid hp
  have HOK := hid hok
  have HSZ := hid hsz
  have HLF := hid hl
  clear h hp hok hsz hl
  go_enter Try.func48, Try.ntmps48
  go_wp2_with fail
  obtain ⟨w1, hw1⟩ : ∃ x, w.alloc (.cells #[.bool false, .slice none 0 0, .slice none 0 0, .slice none 0 0] 59) = x := ⟨_, rfl⟩
  rw [hw1]
  have HRS1 : Hid (Blk w1 w.heap.size [.bool false, .slice none 0 0, .slice none 0 0, .slice none 0 0] TN) := hid (by rw [← hw1]; exact heap_alloc_new _ _)
  have HB1 : Hid (Below w.heap.size w w1) := hid (by rw [← hw1]; exact (Below.refl _ _).alloc (Nat.le_refl _) _)
  have hs1 : w1.heap.size = w.heap.size + 1 := by rw [← hw1]; simp
  clear hw1
  refine ((HV.out.new' HB1.out).get at_).mono ?_
  rintro e2 w2 ⟨q, m, c, rfl, hm, hbs, hb2, hg2⟩
  have hget : getA T at_ = (pad504 (enc nd), 0) := by unfold getA; rw [HP.out]
  rw [hget] at hm hbs ⊢
  have HBS := hid hbs
  have hlen : (pad504 (enc nd)).length = 504 := pad504_length (by rw [enc_length]; exact HSZ.out)
  rw [hlen] at hm
  subst hm
  have hs2 := hb2.size
  have HRS2 := hid (HRS1.out.chg (Chg.new hb2 NoFp) (fun h => h))
  have HB2 := hid (HB1.out.trans (hb2.mono (by omega)))
  have HG2 : Hid (∀ g, Value.ownBlock (.slice q 504 c) = some g → w1.heap.size ≤ g ∧ g < w2.heap.size) := hid (fun g hg => ⟨hg2 g hg, (Rd.lt HBS.out (by rw [hlen]; decide) (by decide) g hg)⟩)
  clear hget hbs hb2 hg2
  go_wp2_with fail
  obtain ⟨r, hr⟩ : ∃ r, w2.heap.size = r := ⟨_, rfl⟩
  obtain ⟨w3, hw3⟩ : ∃ x, w2.alloc (.cells #[.slice q 504 c, .bool false] 119) = x := ⟨_, rfl⟩
  rw [hw3]
  obtain ⟨Z, hZ⟩ : ∃ Z, List.replicate (504 - (enc nd).length) (0 : UInt8) = Z := ⟨_, rfl⟩
  have hsplit : pad504 (enc nd) = front nd ++ (post nd 0 ++ Z) := by unfold pad504; rw [hZ, post_zero, List.append_assoc]
  have HL504 := hid hlen
  rw [hsplit] at HBS HL504
  have HBT3 : Hid (Bit w3 r (Value.ownBlock (.slice q 504 c)) (front nd ++ (post nd 0 ++ Z))) := hid (by
    refine ⟨.slice q 504 c, by rw [← hw3, ← hr]; exact heap_alloc_new _ _, ?_, rfl, ?_⟩
    · have h1 := HBS.out
      unfold Bs at h1 ⊢
      rw [HL504.out] at h1 ⊢
      rw [← hw3]
      exact h1.new ((Below.refl _ _).alloc (Nat.le_refl _) _)
    · intro hh
      have := (HG2.out r hh).2
      omega)
  have hs3 : w3.heap.size = r + 1 := by rw [← hw3, ← hr]; simp
  have HRS3 : Hid (Blk w3 w.heap.size [.bool false, .slice none 0 0, .slice none 0 0, .slice none 0 0] TN) := hid (by rw [← hw3]; exact HRS2.out.chg (Chg.alloc NoFp _ _) (fun h => h))
  have HB3 : Hid (Below w.heap.size w w3) := hid (by rw [← hw3]; exact HB2.out.alloc (by omega) _)
  rw [hr]
  rw [hr] at hs2
  have HG3 : Hid (∀ g, Value.ownBlock (.slice q 504 c) = some g → w1.heap.size ≤ g ∧ g < r) := hid (by rw [← hr]; exact HG2.out)
  clear hw3 HBS HG2 HRS2 HB2 hlen hsplit hZ
  refine (btake_any r _ (front nd ++ (post nd 0 ++ Z)) 2 w3 HBT3.out (by rw [HL504.out]; omega) (by rw [HL504.out]; omega)).mono ?_
  rintro e4 w4 ⟨p4, c4, rfl, hc4, hb4, hr4, hob4⟩
  rw [List.take_left' (show (front nd).length = 2 from rfl)] at hr4
  rw [List.drop_left' (show (front nd).length = 2 from rfl)] at hb4

  obtain ⟨bh, oh, rfl, hcc⟩ := hr4.addr (by omega)
  have hbr : bh < r := (HG3.out bh hob4.symm).2
  have hk251 := keys_lt HOK.out HSZ.out
  have hcnt : ((UInt8.ofNat nd.keys.length).toNat : Int) = (nd.keys.length : Int) := by rw [UInt8.toNat_ofNat']; omega
  have hfr : bv (front nd) = [.int .u8 2, .int .u8 (nd.keys.length : Int)] := by
    unfold front
    rw [HLF.out, ← hcnt]
    rfl
  rw [hfr] at hcc
  have e0 : w4.cell? ⟨bh, oh, none⟩ = some (.int .u8 2) := hcc 0 _ rfl
  have e1 : w4.cell? ⟨bh, oh + 1, none⟩ = some (.int .u8 (nd.keys.length : Int)) := hcc 1 _ rfl
  obtain ⟨nk, hnk⟩ : ∃ m, nd.keys.length = m := ⟨_, rfl⟩
  rw [hnk] at e1
  have HNK := hid hnk
  have hs4 := hc4.size
  have HRS4 := hid (HRS3.out.chg hc4 (by omega))
  have HB4 := hid (HB3.out.trans (hc4.below (B := w.heap.size) (by omega) (by omega)))
  have HBT4 := hid hb4
  have hbh : bh < w4.heap.size := World.block_lt_of_cell? _ _ e0
  clear hc4 hb4 hr4 hob4 hcc hfr hcnt hnk
  rw [hs3] at hs4
  have hk251 : nk ≤ 251 := by rw [← HNK.out]; exact hk251.1
  go_wp2_with fail
  obtain ⟨nb, hnb⟩ : ∃ m, w4.heap.size = m := ⟨_, rfl⟩
  obtain ⟨w5, hw5⟩ : ∃ x, w4.alloc (.cells #[.bool false, .slice none 0 0, .slice none 0 0, .slice none 0 0] 59) = x := ⟨_, rfl⟩
  have HN5 : Hid (Blk w5 nb [.bool false, .slice none 0 0, .slice none 0 0, .slice none 0 0] TN) := hid (by rw [← hw5, ← hnb]; exact heap_alloc_new _ _)
  have hc5 : Chg NoFp w4 w5 := by rw [← hw5]; exact Chg.alloc _ _ _
  have HBT5 := hid (HBT4.out.chg hc5 (fun h => h) (fun _ _ _ h => h))
  have HRS5 := hid (HRS4.out.chg hc5 (fun h => h))
  have HB5 : Hid (Below w.heap.size w w5) := hid (by rw [← hw5]; exact HB4.out.alloc (by omega) _)
  have hs5 : w5.heap.size = nb + 1 := by rw [← hw5, ← hnb]; simp
  have c0 : w5.cell? ⟨bh, oh, none⟩ = some (.int .u8 2) := (World.cell?_of_block (w := w4) (a := ⟨bh, oh, none⟩) (hc5.block bh hbh (fun h => h))).trans e0
  have HPL0 := hid (show (post nd 0 ++ Z).length ≤ 504 by have := HL504.out; rw [List.length_append] at this; omega)
  rw [hw5, hnb]
  rw [hnb] at hs4 hbh
  clear hw5 hc5 hnb e0 e1 HBT4 HRS4 HB4 HRS3 HB3 HBT3
  go_loopw [37] (fun vi wr => ∃ (i : Nat) (pk : Option Addr) (ck : Nat) (pv : Option Addr) (cv : Nat), vi = .int .i64 i ∧ i ≤ nk ∧ nb + 1 ≤ wr.heap.size ∧ Hid ((post nd i ++ Z).length ≤ 504) ∧ Hid (Blk wr nb [.bool false, .slice pk i ck, .slice pv 0 cv, .slice none 0 0] TN) ∧ Hid (Bit wr r (Value.ownBlock (.slice q 504 c)) (post nd i ++ Z)) ∧
    Hid (wr.ownsRow (nb + 1) TSt 1 (.slice pk i ck) i (tv (nd.keys.take i))) ∧ Hid (wr.ownsRow (nb + 1) TSt 1 (.slice pv 0 cv) 0 (tv ([]))) ∧ Hid (NeB (.slice pk i ck) (.slice pv 0 cv)) ∧ Hid (Chg (fun k => k = r ∨ k = nb ∨ nb + 1 ≤ k) w5 wr)) (fun vi _ => nk - (intOf vi).toNat)
  case atStart => exact ⟨0, none, 0, none, 0, rfl, Nat.zero_le _, by omega, HPL0, HN5, HBT5, hid (World.ownsRow_nil _ _ _ _), hid (World.ownsRow_nil _ _ _ _), hid (fun g h => by cases h), hid (Chg.refl _ _)⟩
  case round =>
    obtain ⟨i, pk, ck, pv, cv, rfl, hi, hsr, HPL, HNB, HBT, HOK1, HOV1, HNE, HC⟩ := hrel
    by_cases hlt : i < nk
    · have hlt2 : (i : Int) < (nk : Int) := by omega
      obtain ⟨_, _, hk256, _⟩ := okn_inner HOK.out HLF.out
      have hi2 : i < nd.keys.length := by rw [HNK.out]; exact hlt
      have hpost := post_inner HLF.out hi2
      have hkl := hk256 _ (List.getElem_mem hi2)
      obtain ⟨k, hk⟩ : ∃ k, nd.keys[i] = k := ⟨_, rfl⟩
      have HKT := hid (show nd.keys.take (i + 1) = nd.keys.take i ++ [k] by rw [List.take_add_one, List.getElem?_eq_getElem hi2, hk]; rfl)
      rw [hk] at hpost hkl
      have hbt2 := HBT.out
      have hpl := HPL.out
      rw [hpost] at hbt2 hpl
      rw [List.append_assoc] at hbt2 hpl
      have HBT2 := hid hbt2
      have HTL := hid (show k.length < 256 ∧ (encT k ++ (post nd (i + 1) ++ Z)).length ≤ 100000 from ⟨hkl, by omega⟩)
      have HPL2 := hid (show (post nd (i + 1) ++ Z).length ≤ 504 by rw [List.length_append] at hpl; omega)
      clear hk256 hpost hkl hk hbt2 hpl
      go_wp2_with fail

      have HBXa := hid (four_cells HNB.out)
      refine wp_region_plan (fun w' => w'.cell? ⟨nb, 1, none⟩ = some (.slice pk i ck)) (fun j => !([3, 4, 5, 7].contains j)) (fun j => [7].contains j)
        (.of [0, 1, 2, 3, 4, 5, 6, 7]) (by kernel_rfl) (by kernel_rfl) rfl (by kernel_rfl) (by kernel_rfl) HBXa.out.2.1 ?_
      iterate 3 (apply wpPlan_val; (case ho => rfl); (case hst => rfl); (case hw => rfl); (case hv => intro w' hS; go_simp; first | done | rfl); intro K hK; go_simp; refine hK _ ?_; clear hK K)
      refine wpPlan_list rfl rfl rfl (fun K hK => ?_)
      refine wpList_step (fun K2 hK2 => ?_)
      go_simp
      refine (btext_any r _ k (post nd (i + 1) ++ Z) wr.drew (show Bit wr.drew r _ _ from HBT2.out) HTL.out.1 HTL.out.2).mono ?_
      rintro ea waa ⟨rfl, hcaa, hbaa⟩
      have hcaa : Chg (fun k => k = r) wr waa := Chg.drewN' (n := 1) hcaa
      have HBAa := hid hbaa
      have HNAa := hid (HNB.out.chg hcaa (by omega))
      have HOAa := hid (own_chg HOK1.out hcaa (fun g hg h => by have := (own_lt HOK1.out g hg).1; omega))
      have HOBa := hid (own_chg HOV1.out hcaa (fun g hg h => by have := (own_lt HOV1.out g hg).1; omega))
      have HCAa := hid (HC.out.trans hcaa (fun i hi h => .inl h))
      have hsaa := hcaa.size
      clear hcaa hbaa
      go_simp
      refine hK2 _ _ ?_
      clear hK2 K2
      simp only [wpList]
      refine hK _ _ (fun _ => HNAa.out.cell 1) ?_
      clear hK K
      refine wpPlan_list rfl rfl rfl (fun K hK => ?_)
      refine wpList_step (fun K2 hK2 => ?_)
      go_simp
      refine hK2 _ _ ?_
      clear hK2 K2
      simp only [wpList]
      have HNBa := hid (HNAa.out.chg (Chg.alloc NoFp _ (.cells #[.string (B k)] TSt)) (fun h => h))
      refine hK _ _ (fun _ => HNBa.out.cell 1) ?_
      clear hK K
      refine wpPlan_list rfl rfl rfl (fun K hK => ?_)
      have HOCa := hid (own_new HOAa.out ((Below.refl _ _).alloc (Nat.le_refl _) (.cells #[.string (B k)] TSt)))
      have HODa := hid (own_new HOBa.out ((Below.refl _ _).alloc (Nat.le_refl _) (.cells #[.string (B k)] TSt)))
      have HSZa : Hid (nb + 1 ≤ (waa.alloc (.cells #[.string (B k)] TSt)).heap.size) := hid (by simp; omega)
      refine wpList_append_rd rfl _ _ 33 rfl (nb + 1) TSt _ 1 16 Try.underlying33 infoSt rfl (by decide) _ _ _ rfl HOCa.out _ 1 [.string (B k)] rfl (Rd.fresh1 _ _ _) (by simp [Value.oneCell']) (by simp only [maxLen]; omega) (by omega) HSZa.out ?_
      intro ppa cca w7a hoa hga hva
      have HNCa := hid (HNBa.out.chg (Chg.grown hga) (own_blk_ne HOCa.out HNBa.out (by decide)))
      have HOEa := hid (own_chg HODa.out (Chg.grown hga) (fun g h1 h2 => (HNE.out.symm) g h1 h2))
      have HBCa := hid ((HBAa.out.new ((Below.refl _ _).alloc (Nat.le_refl _) (.cells #[.string (B k)] TSt))).chg (Chg.grown hga) (fun h => by have := (own_lt HOCa.out r h).1; omega) (fun g h1 h2 h3 => by have := (own_lt HOCa.out g h3).1; have := (HG3.out g h1).2; omega))
      have HCCa := hid ((HCAa.out.trans (Chg.alloc NoFp _ (.cells #[.string (B k)] TSt)) (fun _ _ h => h.elim)).trans (Chg.grown hga) (fun i hi h => .inr (.inr (own_lt HOCa.out i h).1)))
      have HNEa := hid (neB_next (v := .slice pk i ck) (v' := .slice ppa (i + 1) cca) (HNE.out.symm) (fun g h1 => (own_lt HODa.out g h1).2) hva)
      have HOWa := hid hoa
      have hs7a : nb + 1 ≤ w7a.heap.size := Nat.le_trans HSZa.out hga.size
      clear hoa hga hva HOCa HODa HOAa HOBa HNBa HNAa HBAa HCAa
      simp only [wpList]
      refine hK _ _ (fun _ => HNCa.out.cell 1) ?_
      clear hK K
      apply wpPlan_val
      case ho => rfl
      case hst => rfl
      case hw => rfl
      case hv => intro w' hS; go_simp; first | done | rfl
      intro K hK
      go_simp
      refine hK _ ?_
      clear hK K
      obtain ⟨k0a, k1a, k2a, k3a, f0a, f1a, f2a, f3a⟩ := four_cells HNCa.out
      refine wpPlan_list rfl rfl rfl (fun K hK => ?_)
      refine wpList_step (fun K2 hK2 => ?_)
      go_simp
      refine hK2 _ _ ?_
      clear hK2 K2
      simp only [wpList]
      refine hK _ _ (fun h => by cases h) ?_
      clear hK K
      refine wpPlan_nil ?_
      simp only [Qn]
      obtain ⟨w8, hw9a⟩ : ∃ x, w7a.setCell ⟨nb, 1, none⟩ (.slice ppa (i + 1) cca) = x := ⟨_, rfl⟩
      rw [hw9a]
      have HNFa : Hid (Blk w8 nb [.bool false, .slice ppa (i + 1) cca, .slice pv 0 cv, .slice none 0 0] TN) := hid (by rw [← hw9a]; exact HNCa.out.set 1 _)
      have hc9a : Chg (fun k => k = nb) w7a w8 := by rw [← hw9a]; exact Chg.setCell (fp := fun k => k = nb) _ rfl _
      have HBFa := hid (HBCa.out.chg hc9a (by omega) (fun g h1 h2 h3 => by have := (HG3.out g h1).2; omega))
      have HOWFa := hid (own_chg HOWa.out hc9a (fun g hg h => by have := (own_lt HOWa.out g hg).1; omega))
      have HOEFa := hid (own_chg HOEa.out hc9a (fun g hg h => by have := (own_lt HOEa.out g hg).1; omega))
      have HCFa := hid (HCCa.out.trans hc9a (fun i hi h => .inr (.inl h)))
      have hs9a : nb + 1 ≤ w8.heap.size := Nat.le_trans hs7a hc9a.size
      clear hw9a hc9a HNCa HBCa HOWa HOEa HCCa k0a k1a k2a k3a f0a f1a f2a f3a HBXa
      obtain ⟨q0, q1, q2, q3, qf0, qf1, qf2, qf3⟩ := four_cells HNFa.out
      have hok9 := HOWFa.out
      rw [show tv (nd.keys.take i) ++ [.string (B k)] = tv (nd.keys.take (i + 1)) by rw [HKT.out, tv_app]; rfl] at hok9
      have HOK9 := hid hok9
      clear hok9
      go_wp2_with fail
      clear q0 q1 q2 q3 qf0 qf1 qf2 qf3
      go_roundw
      case rel => exact ⟨i + 1, ppa, cca, pv, cv, by first | rfl | (congr 1; omega) | (congr 1), hlt, hs9a, HPL2, HNFa, HBFa, HOK9, HOEFa, hid HNEa.out.symm, HCFa⟩
      case measure => simp [intOf]; omega
    · have hlt2 : ¬ (i : Int) < (nk : Int) := by omega
      have HNn := hid (show i = nk by omega)
      rw [HNn.out] at HPL HBT HOK1 HNE HNB
      rw [List.take_of_length_le (by rw [HNK.out]; exact Nat.le_refl _)] at HOK1
      
      rw [post_all (by rw [HNK.out]; exact Nat.le_refl _)] at HPL HBT
      clear hi hlt HNn
      go_wp2_with fail
      obtain ⟨hv0, hkl, _, hk6⟩ := okn_inner HOK.out HLF.out
      rw [HNK.out] at hkl
      have HKL := hid hkl
      have HK6 := hid hk6
      clear hv0 hkl hk6
      go_loopw [11] (fun vj wr2 => ∃ (j : Nat) (pd : Option Addr) (cd : Nat), vj = .int .i64 j ∧ j ≤ nk + 1 ∧ nb + 1 ≤ wr2.heap.size ∧ Hid (((nd.kids.drop j).flatMap le2 ++ Z).length ≤ 504) ∧ Hid (Blk wr2 nb [.bool false, .slice pk nk ck, .slice pv 0 cv, .slice pd j cd] TN) ∧ Hid (Bit wr2 r (Value.ownBlock (.slice q 504 c)) ((nd.kids.drop j).flatMap le2 ++ Z)) ∧
        Hid (wr2.ownsRow (nb + 1) TSt 1 (.slice pk nk ck) nk (tv nd.keys)) ∧ Hid (wr2.ownsRow (nb + 1) TSt 1 (.slice pv 0 cv) 0 (tv [])) ∧ Hid (wr2.ownsRow (nb + 1) TI 1 (.slice pd j cd) j (kv (nd.kids.take j))) ∧ Hid (Chg (fun k => k = r ∨ k = nb ∨ nb + 1 ≤ k) w5 wr2)) (fun vj _ => nk + 2 - (intOf vj).toNat)
      case atStart => exact ⟨0, none, 0, rfl, Nat.zero_le _, hsr, HPL, HNB, HBT, HOK1, HOV1, hid (World.ownsRow_nil _ _ _ _), HC⟩
      case round =>
        obtain ⟨j, pd, cd, rfl, hj, hsr2, HPL2, HNB2, HBT2, HOK2, HOV2, HOD2, HC2⟩ := hrel
        obtain ⟨q0, q1, q2, q3, qf0, qf1, qf2, qf3⟩ := four_cells HNB2.out
        by_cases hle : j ≤ nk
        · have hle2 : (j : Int) ≤ (nk : Int) := by omega
          have hj2 : j < nd.kids.length := by rw [HKL.out]; omega
          obtain ⟨k, hk⟩ : ∃ k, nd.kids[j] = k := ⟨_, rfl⟩
          have HKT := hid (show nd.kids.take (j + 1) = nd.kids.take j ++ [k] by rw [List.take_add_one, List.getElem?_eq_getElem hj2, hk]; rfl)
          have hkd : (nd.kids.drop j).flatMap le2 ++ Z = le2 k ++ ((nd.kids.drop (j + 1)).flatMap le2 ++ Z) := by rw [List.drop_eq_getElem_cons hj2, hk, List.flatMap_cons, List.append_assoc]
          have HK66 := hid (HK6.out _ (List.getElem_mem hj2))
          rw [hk] at HK66
          rw [hkd] at HPL2 HBT2
          have HPL3 := hid (show ((nd.kids.drop (j + 1)).flatMap le2 ++ Z).length ≤ 504 by have := HPL2.out; rw [List.length_append] at this; omega)
          have HKV := hid (or_kid k HK66.out)
          clear hk hkd
          go_wp2_with fail
          refine (btake_any r _ (le2 k ++ ((nd.kids.drop (j + 1)).flatMap le2 ++ Z)) 2 wr HBT2.out (by have := HPL2.out; omega) (by simp [le2])).mono ?_
          rintro e6 w6 ⟨p6, c6, rfl, hc6, hb6, hr6, hob6⟩
          rw [List.take_left' (show (le2 k).length = 2 from rfl)] at hr6
          rw [List.drop_left' (show (le2 k).length = 2 from rfl)] at hb6
          obtain ⟨b6, o6, rfl, hcc6⟩ := hr6.addr (by omega)
          have hbr6 : b6 < r := (HG3.out b6 hob6.symm).2
          have x0 : w6.cell? ⟨b6, o6, none⟩ = some (.int .u8 ((UInt8.ofNat k).toNat : Int)) := hcc6 0 _ rfl
          have x1 : w6.cell? ⟨b6, o6 + 1, none⟩ = some (.int .u8 ((UInt8.ofNat (k / 256)).toNat : Int)) := hcc6 1 _ rfl
          have HN6 := hid (HNB2.out.chg hc6 (by omega))
          have HK66b := hid (own_chg HOK2.out hc6 (fun g hg h => by have := (own_lt HOK2.out g hg).1; omega))
          have HV66 := hid (own_chg HOV2.out hc6 (fun g hg h => by have := (own_lt HOV2.out g hg).1; omega))
          have HD66 := hid (own_chg HOD2.out hc6 (fun g hg h => by have := (own_lt HOD2.out g hg).1; omega))
          have HC6 := hid (HC2.out.trans hc6 (fun i hi h => .inl h))
          have HB6 := hid hb6
          have hs6 := hc6.size
          have HX := hid (And.intro x0 x1)
          clear hc6 hb6 hr6 hob6 hcc6 x0 x1 q0 q1 q2 q3 qf0 qf1 qf2 qf3 HBT2 HNB2 HOK2 HOV2 HOD2 HC2
          go_wp2_with fail
          refine wp_region_plan (fun w' => w'.cell? ⟨nb, 3, none⟩ = some (.slice pd j cd) ∧ w'.cell? ⟨b6, o6, none⟩ = some (.int .u8 ((UInt8.ofNat k).toNat : Int)) ∧ w'.cell? ⟨b6, o6 + 1, none⟩ = some (.int .u8 ((UInt8.ofNat (k / 256)).toNat : Int))) (fun j => !([12, 13, 15].contains j)) (fun j => [15].contains j)
            (.of [0, 1, 2, 3, 4, 5, 6, 7, 8, 9, 10, 11, 12, 13, 14, 15]) (by kernel_rfl) (by kernel_rfl) rfl (by kernel_rfl) (by kernel_rfl) ⟨HN6.out.cell 3, HX.out⟩ ?_
          iterate 12 (apply wpPlan_val; (case ho => rfl); (case hst => rfl); (case hw => rfl); (case hv => intro w' hS; obtain ⟨hS1, hS2, hS3⟩ := hS; go_simp; first | done | rfl); intro K hK; go_simp; refine hK _ ?_; clear hK K)
          refine wpPlan_list rfl rfl rfl (fun K hK => ?_)
          refine wpList_step (fun K2 hK2 => ?_)
          go_simp
          rw [HKV.out]
          refine hK2 _ _ ?_
          clear hK2 K2
          simp only [wpList]
          have hs6b : nb + 1 ≤ w6.heap.size := by omega
          have HNB6 := hid (HN6.out.chg (Chg.alloc NoFp _ (.cells #[.int .i64 (k : Int)] TI)) (fun h => h))
          have HX6 := hid (show (w6.alloc (.cells #[.int .i64 (k : Int)] TI)).cell? ⟨b6, o6, none⟩ = some (.int .u8 ((UInt8.ofNat k).toNat : Int)) ∧ (w6.alloc (.cells #[.int .i64 (k : Int)] TI)).cell? ⟨b6, o6 + 1, none⟩ = some (.int .u8 ((UInt8.ofNat (k / 256)).toNat : Int)) from
            ⟨(((Below.refl w6.heap.size w6).alloc (Nat.le_refl _) _).cell (p := ⟨b6, o6, none⟩) (World.block_lt_of_cell? _ _ HX.out.1)).trans HX.out.1, (((Below.refl w6.heap.size w6).alloc (Nat.le_refl _) _).cell (p := ⟨b6, o6 + 1, none⟩) (World.block_lt_of_cell? _ _ HX.out.2)).trans HX.out.2⟩)
          refine hK _ _ (fun _ => ⟨HNB6.out.cell 3, HX6.out⟩) ?_
          clear hK K
          refine wpPlan_list rfl rfl rfl (fun K hK => ?_)
          have HOC := hid (own_new HD66.out ((Below.refl _ _).alloc (Nat.le_refl _) (.cells #[.int .i64 (k : Int)] TI)))
          have HSZ6 : Hid (nb + 1 ≤ (w6.alloc (.cells #[.int .i64 (k : Int)] TI)).heap.size) := hid (by simp; omega)
          refine wpList_append_rd rfl _ _ 44 rfl (nb + 1) TI _ 1 8 Try.underlying44 infoTI rfl (by decide) _ _ _ rfl HOC.out _ 1 [.int .i64 (k : Int)] rfl (Rd.fresh1 _ _ _) (by simp [Value.oneCell']) (by simp only [maxLen]; omega) (by omega) HSZ6.out ?_
          intro pp7 cc7 w7 ho7 hg7 _
          have hg7 : (w6.alloc (.cells #[.int .i64 (k : Int)] TI)).grownBy w7 (Value.ownBlock (.slice pd j cd)) := ⟨hg7.os, hg7.tape, hg7.output, hg7.size, hg7.block⟩
          have HNC7 := hid (HNB6.out.chg (Chg.grown hg7) (own_blk_ne HOC.out HNB6.out (by decide)))
          have HOK7 := hid (own_new HK66b.out ((Below.refl _ _).alloc (Nat.le_refl _) (.cells #[.int .i64 (k : Int)] TI)))
          have HOV7 := hid (own_new HV66.out ((Below.refl _ _).alloc (Nat.le_refl _) (.cells #[.int .i64 (k : Int)] TI)))
          have HOK8 := hid (own_chg HOK7.out (Chg.grown hg7) (own_ne HOK7.out HOC.out (by decide)))
          have HOV8 := hid (own_chg HOV7.out (Chg.grown hg7) (own_ne HOV7.out HOC.out (by decide)))
          have HBC7 := hid ((HB6.out.new ((Below.refl _ _).alloc (Nat.le_refl _) (.cells #[.int .i64 (k : Int)] TI))).chg (Chg.grown hg7) (fun h => by have := (own_lt HOC.out r h).1; omega) (fun g h1 h2 h3 => by have := (own_lt HOC.out g h3).1; have := (HG3.out g h1).2; omega))
          have HCC7 := hid ((HC6.out.trans (Chg.alloc NoFp _ (.cells #[.int .i64 (k : Int)] TI)) (fun _ _ h => h.elim)).trans (Chg.grown hg7) (fun i hi h => .inr (.inr (own_lt HOC.out i h).1)))
          have HX7 := hid (show w7.cell? ⟨b6, o6, none⟩ = some (.int .u8 ((UInt8.ofNat k).toNat : Int)) ∧ w7.cell? ⟨b6, o6 + 1, none⟩ = some (.int .u8 ((UInt8.ofNat (k / 256)).toNat : Int)) from by
            have hb : ¬ (Value.ownBlock (.slice pd j cd) = some b6) := fun h => by have := (own_lt HOC.out b6 h).1; omega
            have hlt := World.block_lt_of_cell? _ _ HX6.out.1
            have hbk := (Chg.grown hg7).block b6 hlt hb
            exact ⟨(World.cell?_of_block (a := ⟨b6, o6, none⟩) hbk).trans HX6.out.1, (World.cell?_of_block (a := ⟨b6, o6 + 1, none⟩) hbk).trans HX6.out.2⟩)
          have hod7 : w7.ownsRow (nb + 1) TI 1 (.slice pp7 (j + 1) cc7) (j + 1) (kv (nd.kids.take (j + 1))) := by rw [HKT.out, kv_app]; exact ho7
          have HOD7 := hid hod7
          have hs7 : nb + 1 ≤ w7.heap.size := Nat.le_trans HSZ6.out hg7.size
          clear ho7 hg7 hod7 HOC HOK7 HOV7 HNB6 HX6 HN6 HK66b HV66 HD66 HC6 HB6
          simp only [wpList]
          refine hK _ _ (fun _ => ⟨HNC7.out.cell 3, HX7.out⟩) ?_
          clear hK K
          apply wpPlan_val
          case ho => rfl
          case hst => rfl
          case hw => rfl
          case hv => intro w' hS; go_simp; first | done | rfl
          intro K hK
          go_simp
          refine hK _ ?_
          clear hK K
          obtain ⟨k0, k1, k2, k3, f0, f1, f2, f3⟩ := four_cells HNC7.out
          refine wpPlan_list rfl rfl rfl (fun K hK => ?_)
          refine wpList_step (fun K2 hK2 => ?_)
          go_simp
          refine hK2 _ _ ?_
          clear hK2 K2
          simp only [wpList]
          refine hK _ _ (fun h => by cases h) ?_
          clear hK K
          refine wpPlan_nil ?_
          simp only [Qn]
          obtain ⟨w9, hw9⟩ : ∃ x, w7.setCell ⟨nb, 3, none⟩ (.slice pp7 (j + 1) cc7) = x := ⟨_, rfl⟩
          rw [hw9]
          have HNF : Hid (Blk w9 nb [.bool false, .slice pk nk ck, .slice pv 0 cv, .slice pp7 (j + 1) cc7] TN) := hid (by rw [← hw9]; exact HNC7.out.set 3 _)
          have hc9 : Chg (fun k => k = nb) w7 w9 := by rw [← hw9]; exact Chg.setCell (fp := fun k => k = nb) _ rfl _
          have HBF := hid (HBC7.out.chg hc9 (by omega) (fun g h1 h2 h3 => by have := (HG3.out g h1).2; omega))
          have HOKF := hid (own_chg HOK8.out hc9 (fun g hg h => by have := (own_lt HOK8.out g hg).1; omega))
          have HOVF := hid (own_chg HOV8.out hc9 (fun g hg h => by have := (own_lt HOV8.out g hg).1; omega))
          have HODF := hid (own_chg HOD7.out hc9 (fun g hg h => by have := (own_lt HOD7.out g hg).1; omega))
          have HCF := hid (HCC7.out.trans hc9 (fun i hi h => .inr (.inl h)))
          have hs9 : nb + 1 ≤ w9.heap.size := Nat.le_trans hs7 hc9.size
          clear hw9 hc9 HNC7 HBC7 HOK8 HOV8 HOD7 HCC7 k0 k1 k2 k3 f0 f1 f2 f3 HX7
          go_wp2_with fail
          go_roundw
          case rel => exact ⟨j + 1, pp7, cc7, by first | rfl | (congr 1; omega) | (congr 1), by omega, hs9, HPL3, HNF, HBF, HOKF, HOVF, HODF, HCF⟩
          case measure => simp [intOf]; omega
        · have hle2 : ¬ (j : Int) ≤ (nk : Int) := by omega
          have hjn : j = nk + 1 := by omega
          rw [hjn] at HOD2 q3 hj HBT2
          rw [List.take_of_length_le (by rw [HKL.out]; exact Nat.le_refl _)] at HOD2
          obtain ⟨vb, hvb, _⟩ := HBT2.out
          obtain ⟨z0, z1, _, _⟩ := two_cells hvb
          have c0r : wr.cell? ⟨bh, oh, none⟩ = some (.int .u8 2) := (World.cell?_of_block (w := w5) (a := ⟨bh, oh, none⟩) (HC2.out.block bh (by omega) (by omega))).trans c0
          have HRSr := hid (HRS5.out.chg HC2.out (by omega))
          obtain ⟨s0, s1, s2, s3, sf0, sf1, sf2, sf3⟩ := four_cells HRSr.out
          clear hvb
          go_wp2_with fail
          have hfin := nset4 HRSr.out (.bool false) (.slice pk nk ck) (.slice pv 0 cv) (.slice pd (nk + 1) cd)
          refine bodyPost_ret (results_row_tmp rfl _ _ w.heap.size TN _ (0, 0) _ rfl hfin Try.underlying59 rfl (by kernel_rfl)) rfl ?_
          have hcf := nchg4 (w := wr) (g := w.heap.size) (.bool false) (.slice pk nk ck) (.slice pv 0 cv) (.slice pd (nk + 1) cd)
          have hbf := (HB5.out.trans (HC2.out.below (B := w.heap.size) (by omega) (by omega))).trans (hcf.below (B := w.heap.size) (by omega) (by omega))
          have ho1 := own_base (B0 := w.heap.size) (own_chg HOK2.out hcf (fun g hg h => by have := (own_lt HOK2.out g hg).1; omega)) (by omega)
          have ho2 := own_base (B0 := w.heap.size) (own_chg HOV2.out hcf (fun g hg h => by have := (own_lt HOV2.out g hg).1; omega)) (by omega)
          have h1 := HNK.out
          obtain ⟨h2, h3, _, _⟩ := okn_inner HOK.out HLF.out
          have hne := HNE.out
          rw [h1] at h3
          have ho3 := own_base (B0 := w.heap.size) (own_chg HOD2.out hcf (fun g hg h => by have := (own_lt HOD2.out g hg).1; omega)) (by omega)
          refine ⟨pk, ck, pv, cv, pd, cd, by rw [h1, h2, h3]; rfl, ⟨by rw [h1]; exact ho1, by rw [h2]; exact ho2, by rw [h3]; exact ho3, by rw [h1, h2]; exact hne⟩, hbf⟩

theorem nread_any (w : World) (p d : Nat) (F : Nat → Prop) (n : Nat) (s : DS) (S T : AS) (op : Bool) (N : Nat) (at_ : Int) (nd : Nd) (h : PgV w p d F n s S T op N) (hp : T.B at_ = some (pad504 (enc nd))) (hok : OkN nd) (hsz : sizeP nd ≤ 504) :
    Calls Try.prog 48 #[.pointer (some ⟨p, 0, none⟩), .int .i64 at_] w fun e w' => ∃ pk ck pv cv pd cd, e = .returned (.tuple #[ndV nd.leaf pk nd.keys.length ck pv nd.vals.length cv pd nd.kids.length cd, .int .i64 0]) ∧ NdOwn w.heap.size w' pk ck pv cv pd cd nd ∧ Below w.heap.size w w' := by
  cases hl : nd.leaf
  · exact read_inner w p d F n s S T op N at_ nd h hp hok hsz hl
  · exact read_leaf w p d F n s S T op N at_ nd h hp hok hsz hl
end Go.Proofs.Ytdilkgcoecipjaa
