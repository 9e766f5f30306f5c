/- btree: a node's bytes. -/
import Derived.Test.YtdilkgcoecipjaaBtN
namespace Go.Proofs.Ytdilkgcoecipjaa
open Go.RowKit
set_option linter.unusedVariables false

theorem infoU8s : (Try.prog.info? TU).map (fun i => (i.zero, i.size, i.bytes)) = some (some (.int .u8 0), 1, 1) := by kernel_rfl
theorem u8_nat (k : Nat) : IntKind.u8.wrap (k : Int) = ((UInt8.ofNat k).toNat : Int) := by
  rw [UInt8.toNat_ofNat']
  simp [IntKind.wrap, IntKind.bits, IntKind.signed]

/-- two slices of different blocks -/
def NeB (v u : Value) : Prop := ∀ g, v.ownBlock = some g → u.ownBlock ≠ some g
theorem NeB.symm {v u : Value} (h : NeB v u) : NeB u v := fun g h1 h2 => h g h2 h1
theorem rd_grown {w w' : World} {size n : Nat} {v u : Value} {xs : List Value} (h : Rd w size v n xs) (hg : w.grownBy w' u.ownBlock) (hn : NeB v u) : Rd w' size v n xs :=
  h.chg (Chg.grown hg) (fun _ g h1 _ h2 => hn g h1 h2)
theorem own_below {B0 : Nat} {w w' : World} {e : TypeId} {size n : Nat} {v : Value} {xs : List Value} (h : w.ownsRow B0 e size v n xs) (hg : w.grownBy w' v.ownBlock) (hB : B0 ≤ w.heap.size) : Below B0 w w' :=
  (Below.refl B0 w).grown hg hB (by
    intro k hk
    rcases h.2 with ⟨rfl, _⟩ | ⟨g, cap, cur, rfl, hbg, hb, _⟩
    · cases hk
    · cases hk; exact hbg)
theorem own_new {B0 size n : Nat} {e : TypeId} {w w' : World} {v : Value} {xs : List Value} (h : w.ownsRow B0 e size v n xs) (hb : Below w.heap.size w w') : w'.ownsRow B0 e size v n xs := by
  refine ⟨h.1, ?_⟩
  rcases h.2 with h2 | ⟨g, cap, cur, h1, h2, h3, h4⟩
  · exact .inl h2
  · exact .inr ⟨g, cap, cur, h1, h2, (Chg.new hb NoFp).heap h3 (fun h => h), h4⟩
theorem own_lt {B0 size n : Nat} {e : TypeId} {w : World} {v : Value} {xs : List Value} (h : w.ownsRow B0 e size v n xs) : ∀ g, v.ownBlock = some g → B0 ≤ g ∧ g < w.heap.size := by
  intro g hg
  rcases h.2 with ⟨rfl, _⟩ | ⟨g1, cap, cur, rfl, hb, h3, _⟩
  · cases hg
  · cases hg; exact ⟨hb, (Array.getElem?_eq_some_iff.1 h3).1⟩
theorem neB_next {w : World} {v v' u : Value} (h : NeB u v) (hu : ∀ g, u.ownBlock = some g → g < w.heap.size) (hv : v'.ownBlock = v.ownBlock ∨ v'.ownBlock = some w.heap.size) : NeB u v' := by
  intro g h1 h2
  rcases hv with hv | hv
  · exact h g h1 (hv ▸ h2)
  · rw [hv] at h2; have := hu g h1; cases h2; omega
theorem own_ne {B0 B1 s1 s2 n m : Nat} {e1 e2 : TypeId} {w : World} {v u : Value} {xs ys : List Value} (h : w.ownsRow B0 e1 s1 v n xs) (k : w.ownsRow B1 e2 s2 u m ys) (he : e1 ≠ e2) : NeB v u := by
  intro g hg hu
  rcases h.2 with ⟨rfl, _⟩ | ⟨g1, cap, cur, rfl, _, h3, _⟩
  · cases hg
  · cases hg
    rcases k.2 with ⟨rfl, _⟩ | ⟨g2, cap2, cur2, rfl, _, h4, _⟩
    · cases hu
    · cases hu
      rw [h3] at h4
      have h5 := Option.some.inj h4
      injection h5 with h6 h7 h8
      exact he h7
theorem own_blk_ne {B0 size n g : Nat} {e e2 : TypeId} {w : World} {v : Value} {xs ys : List Value} (h : w.ownsRow B0 e size v n xs) (k : Blk w g ys e2) (he : e ≠ e2) : v.ownBlock ≠ some g := by
  intro hg
  rcases h.2 with ⟨rfl, _⟩ | ⟨g1, cap, cur, rfl, hb, h3, _⟩
  · cases hg
  · cases hg
    have h4 := k
    unfold Blk at h4
    rw [h3] at h4
    have h5 := Option.some.inj h4
    injection h5 with h6 h7 h8
    exact he h7

set_option maxRecDepth 100000 in
set_option maxHeartbeats 2000000 in
theorem lay_any (w : World) (B0 : Nat) (pb : Option Addr) (cb : Nat) (b : Tx) (l : List Tx) (g m0 m1 ll : Nat) (out : Tx) (hb : w.ownsRow B0 TU 1 (.slice pb m0 cb) m0 (bv b)) (hl : Blk w g (tv l) TSt) (hll : l.length = ll) (hB : B0 ≤ w.heap.size)
    (hm0 : b.length = m0) (hm1 : out.length = m1) (hout : b ++ l.flatMap encT = out) (hs : m1 ≤ 100000) (hll2 : ll ≤ 100000) :
    Calls Try.prog 43 #[.slice pb m0 cb, .slice (some ⟨g, 0, none⟩) ll ll] w fun e w' => ∃ p c, e = .returned (.slice p m1 c) ∧ w'.ownsRow B0 TU 1 (.slice p m1 c) m1 (bv out) ∧ Below B0 w w' := by
  have HL := hid hl
  have HO := hid hb
  have HLL := hid hll
  have HM0 := hid hm0
  have HM1 := hid hm1
  have HOUT := hid hout
  have hm01 : m0 ≤ 100000 := by
    have := congrArg List.length hout
    rw [List.length_append] at this
    omega
  clear hl hb hll hm0 hm1 hout
  go_enter Try.func43, Try.ntmps43
  go_wp2_with fail
  go_loopw [0, 9] (fun vb vi wr => ∃ (i m : Nat) (p : Option Addr) (c : Nat), vb = .slice p m c ∧ vi = .int .i64 i ∧ i ≤ ll ∧ m ≤ 100000 ∧ w.heap.size ≤ wr.heap.size ∧ Hid (m = (b ++ (l.take i).flatMap encT).length) ∧ Hid (wr.ownsRow B0 TU 1 (.slice p m c) m (bv (b ++ (l.take i).flatMap encT))) ∧ Hid (Below B0 w wr) ∧
    Hid (Blk wr g (tv l) TSt)) (fun vb vi _ => ll - (intOf vi).toNat)
  case atStart => exact ⟨0, m0, pb, cb, rfl, rfl, Nat.zero_le _, hm01, Nat.le_refl _, hid (by simp [HM0.out]), hid (by simpa using HO.out), Below.refl _ _, HL⟩
  case round =>
    obtain ⟨i, m, p, c, rfl, rfl, hi, hm, hB1, HM, HO1, HB, HBL⟩ := hrel
    by_cases hlt : i < ll
    · have hlt2 : (i : Int) < (ll : Int) := by omega
      obtain ⟨k, hk⟩ : ∃ k, l[i]'(by rw [HLL.out]; exact hlt) = k := ⟨_, rfl⟩
      have hck : wr.cell? ⟨g, i, none⟩ = some (.string (B k)) := by
        rw [HBL.out.cell]
        exact tv_get (by rw [← hk]; exact List.getElem?_eq_getElem _)
      have HKS := hid (show (b ++ (l.take (i + 1)).flatMap encT) = (b ++ (l.take i).flatMap encT) ++ [UInt8.ofNat k.length] ++ k by
        rw [List.take_add_one, List.getElem?_eq_getElem (by rw [HLL.out]; exact hlt), hk]
        simp [encT])
      have HKL := hid (show m + 1 + k.length ≤ 100000 by
        have h2 : ((l.take (i + 1)).flatMap encT).length ≤ (l.flatMap encT).length := by
          have h3 : l.flatMap encT = (l.take (i + 1)).flatMap encT ++ (l.drop (i + 1)).flatMap encT := by rw [← List.flatMap_append, List.take_append_drop]
          rw [h3, List.length_append]; omega
        have h4 := congrArg List.length HKS.out
        have h5 := HM.out
        have h6 := HM0.out
        have h7 := congrArg List.length HOUT.out
        have h8 := HM1.out
        simp only [List.length_append, List.length_cons, List.length_nil] at h4 h5 h7
        omega)
      have HUK := hid (show Value.int .u8 ((k.length : Int) % 256) = .int .u8 ((UInt8.ofNat k.length).toNat : Int) by rw [UInt8.toNat_ofNat']; rfl)
      clear hk
      go_wp2_with (at_builtin; refine wp_keep ?_)
      refine hid ?_
      refine wpList_append_rd rfl _ _ 30 rfl B0 TU _ 1 1 Try.underlying30 infoU8s rfl (by decide) _ _ _ rfl (own_new HO1.out ((Below.refl _ _).alloc (Nat.le_refl _) _)) _ 1 [.int .u8 ((k.length : Int) % 256)] rfl (Rd.fresh1 _ _ _) (by simp [Value.oneCell']) (by simp only [maxLen]; omega) (by omega) (by simp; omega) ?_
      intro p2 c2 w2 ho2 hg2 _
      have HO1a := hid (own_new HO1.out ((Below.refl _ _).alloc (Nat.le_refl _) (.cells #[.int .u8 ((k.length : Int) % 256)] TU)))
      have HB2 := hid ((HB.out.alloc (by omega) (.cells #[.int .u8 ((k.length : Int) % 256)] TU)).trans (own_below HO1a.out hg2 (by simp; omega)))
      have HBLa := hid (HBL.out.chg (Chg.alloc NoFp _ (.cells #[.int .u8 ((k.length : Int) % 256)] TU)) (fun h => h))
      have HBL2 := hid (HBLa.out.chg (Chg.grown hg2) (own_blk_ne HO1a.out HBLa.out (by decide)))
      rw [HUK.out] at ho2
      have ho2b : w2.ownsRow B0 TU 1 (.slice p2 (m + 1) c2) (m + 1) (bv ((b ++ (l.take i).flatMap encT) ++ [UInt8.ofNat k.length])) := by rw [bv_append]; exact ho2
      have hs2 : w.heap.size ≤ w2.heap.size := HB2.out.size
      have HO2 := hid ho2b
      clear ho2 hg2 ho2b HBLa HO1a
      go_wp2_with (at_builtin; refine wp_keep ?_)
      refine hid ?_
      refine wpList_append_str rfl _ _ 30 9 rfl B0 TU Try.underlying30 Try.underlying9 infoU8s _ _ _ rfl HO2.out _ rfl (by rw [B_size]; have := HKL.out; omega) (by omega) ?_
      intro p3 c3 w3 ho3 hg3
      rw [B_size, B_data, ← bv_append, ← HKS.out] at ho3
      rw [B_size]
      have HB3 := hid (HB2.out.trans (own_below HO2.out hg3 (by omega)))
      have HBL3 := hid (HBL2.out.chg (Chg.grown hg3) (own_blk_ne HO2.out HBL2.out (by decide)))
      have HO3 := hid ho3
      have hs3 : w.heap.size ≤ w3.heap.size := HB3.out.size
      obtain ⟨m3, hm3⟩ : ∃ m3, m + 1 + k.length = m3 := ⟨_, rfl⟩
      rw [hm3] at HO3 HKL ⊢
      have HM3 := hid hm3
      have hm3b : m3 ≤ 100000 := HKL.out
      clear ho3 hg3 hm3
      go_wp2_with fail
      go_roundw
      case rel => exact ⟨i + 1, m3, p3, c3, rfl, by first | rfl | (congr 1; omega) | (congr 1), hlt, hm3b, hs3, hid (by rw [← HM3.out, HKS.out]; simp only [List.length_append, List.length_cons, List.length_nil]; have := HM.out; simp only [List.length_append] at this; omega), HO3, HB3, HBL3⟩
      case measure => simp [intOf]; omega
    · have hlt2 : ¬ (i : Int) < (ll : Int) := by omega
      go_wp2_with fail
      go_ret
      have h1 := HO1.out
      have h2 := HM.out
      rw [List.take_of_length_le (by rw [HLL.out]; omega), HOUT.out] at h1 h2
      rw [HM1.out] at h2
      subst h2
      exact ⟨p, c, rfl, h1, HB.out⟩

/-- the texts of the first keys -/
def pre (n : Nd) (i : Nat) : Tx := if n.leaf then ((n.keys.zip n.vals).take i).flatMap (fun e => encT e.1 ++ encT e.2) else (n.keys.take i).flatMap encT
def front (n : Nd) : Tx := [if n.leaf then 1 else 2, UInt8.ofNat n.keys.length]
theorem pre_zero (n : Nd) : pre n 0 = [] := by unfold pre; split <;> simp
theorem pre_all {n : Nd} {i : Nat} (hi : n.keys.length ≤ i) : pre n i = bodyP n := by
  unfold pre bodyP
  split
  · rw [List.take_of_length_le (by rw [List.length_zip]; omega)]
  · rw [List.take_of_length_le hi]
theorem pre_le (n : Nd) (i : Nat) : (pre n i).length ≤ (bodyP n).length := by
  unfold pre bodyP
  split
  · generalize (n.keys.zip n.vals) = z
    have h3 : z.flatMap (fun e => encT e.1 ++ encT e.2) = (z.take i).flatMap (fun e => encT e.1 ++ encT e.2) ++ (z.drop i).flatMap (fun e => encT e.1 ++ encT e.2) := by rw [← List.flatMap_append, List.take_append_drop]
    rw [h3, List.length_append]; omega
  · generalize n.keys = z
    have h3 : z.flatMap encT = (z.take i).flatMap encT ++ (z.drop i).flatMap encT := by rw [← List.flatMap_append, List.take_append_drop]
    rw [h3, List.length_append]; omega
theorem pre_leaf {n : Nd} (hl : n.leaf = true) (hv : n.vals.length = n.keys.length) {i : Nat} (hi : i < n.keys.length) : pre n (i + 1) = pre n i ++ [n.keys[i], n.vals[i]'(by omega)].flatMap encT := by
  unfold pre
  have hz : (n.keys.zip n.vals)[i]? = some (n.keys[i], n.vals[i]'(by omega)) := List.getElem?_zip_eq_some.2 ⟨List.getElem?_eq_getElem hi, List.getElem?_eq_getElem (by omega)⟩
  rw [if_pos hl, if_pos hl, List.take_add_one, hz]
  simp
theorem pre_inner {n : Nd} (hl : n.leaf = false) {i : Nat} (hi : i < n.keys.length) : pre n (i + 1) = pre n i ++ [n.keys[i]].flatMap encT := by
  unfold pre
  rw [if_neg (by rw [hl]; simp), if_neg (by rw [hl]; simp), List.take_add_one, List.getElem?_eq_getElem hi, Option.toList_some, List.flatMap_append]
theorem enc_front (n : Nd) : enc n = front n ++ bodyP n ++ n.kids.flatMap le2 := by simp [enc, front]

theorem own_base {B0 B1 size n : Nat} {e : TypeId} {w : World} {v : Value} {xs : List Value} (h : w.ownsRow B1 e size v n xs) (hb : B0 ≤ B1) : w.ownsRow B0 e size v n xs := by
  refine ⟨h.1, ?_⟩
  rcases h.2 with h2 | ⟨g, cap, cur, h1, h2, h3⟩
  · exact .inl h2
  · exact .inr ⟨g, cap, cur, h1, by omega, h3⟩
set_option maxRecDepth 100000 in
set_option maxHeartbeats 4000000 in
theorem bytes_leaf (w : World) (n : Nd) (pk : Option Addr) (nk ck : Nat) (pv : Option Addr) (nv cv : Nat) (pd : Option Addr) (nd cd : Nat) (h : NdAt w true pk ck pv cv pd cd n) (hnk : n.keys.length = nk) (hnv : n.vals.length = nv) (hnd : n.kids.length = nd) (hv : n.leaf = true → n.vals.length = n.keys.length) (hs : sizeP n ≤ 100000) :
    Calls Try.prog 26 #[ndV true pk nk ck pv nv cv pd nd cd] w fun e w' => ∃ p c, e = .returned (.slice p (enc n).length c) ∧ w'.ownsRow w.heap.size TU 1 (.slice p (enc n).length c) (enc n).length (bv (enc n)) ∧ Below w.heap.size w w' := by
  have H := hid h
  have HVL := hid hv
  have hlf := h.lf
  have HNK := hid hnk
  have HNV := hid hnv
  have HND := hid hnd
  have hE := enc_length n
  obtain ⟨E, hEE⟩ : ∃ E, (enc n).length = E := ⟨_, rfl⟩
  rw [hEE] at hE ⊢
  rw [← hE] at hs
  have HE := hid hEE
  have HBD := hid (show 2 + (bodyP n).length + 2 * nd = E by
    have h1 := enc_front n
    have h2 := congrArg List.length h1
    rw [hEE, List.length_append, List.length_append, flatMap_le2, hnd] at h2
    simp only [front, List.length_cons, List.length_nil] at h2
    omega)
  have hKE : nk ≤ E := by
    have h1 := len_le_sum _ (costs_pos n)
    rw [costs_len2 hv, hnk, ← bodyP_length] at h1
    have := HBD.out
    omega
  have hDE : nd ≤ E := by have := HBD.out; omega
  have HFR := hid (show [Value.int .u8 1, .int .u8 ((nk : Int) % 256)] = bv (front n) by
    unfold front
    rw [hlf, hnk]
    simp [bv, UInt8.toNat_ofNat'])
  clear h hv hnk hnv hnd hE hEE
  unfold ndV
  go_enter Try.func26, Try.ntmps26
  go_wp2_with fail
  obtain ⟨w1, hw1⟩ : ∃ x, ((w.alloc (.cells #[.bool true, .slice pk nk ck, .slice pv nv cv, .slice pd nd cd] 59)).alloc (.cells #[.int .u8 1, .int .u8 ((nk : Int) % 256)] 5)) = x := ⟨_, rfl⟩
  rw [hw1]
  have a0 : w1.cell? ⟨w.heap.size, 0, none⟩ = some (.bool true) := by rw [← hw1]; simp
  have a1 : w1.cell? ⟨w.heap.size, 1, none⟩ = some (.slice pk nk ck) := by rw [← hw1]; simp
  have a2 : w1.cell? ⟨w.heap.size, 2, none⟩ = some (.slice pv nv cv) := by rw [← hw1]; simp
  have a3 : w1.cell? ⟨w.heap.size, 3, none⟩ = some (.slice pd nd cd) := by rw [← hw1]; simp
  have hs1 : w1.heap.size = w.heap.size + 2 := by rw [← hw1]; simp
  have HB1 : Hid (Below w.heap.size w w1) := hid (by rw [← hw1]; exact ((Below.refl _ _).alloc (Nat.le_refl _) _).alloc (by simp) _)
  have HO1 : Hid (w1.ownsRow (w.heap.size + 1) TU 1 (.slice (some ⟨w.heap.size + 1, 0, none⟩) 2 2) 2 (bv (front n))) := hid (by
    rw [← hw1, ← HFR.out]
    have := own_fresh (w.alloc (.cells #[.bool true, .slice pk nk ck, .slice pv nv cv, .slice pd nd cd] 59)) [.int .u8 1, .int .u8 ((nk : Int) % 256)] TU 2 rfl (by simp [maxLen]) (w.heap.size + 1) (by simp)
    simpa using this)
  clear hw1
  go_loopw [3, 20] (fun vb vi wr => ∃ (i m : Nat) (p : Option Addr) (c : Nat), vb = .slice p m c ∧ vi = .int .i64 i ∧ i ≤ nk ∧ m ≤ 100000 ∧ w.heap.size + 2 ≤ wr.heap.size ∧ wr.cell? ⟨w.heap.size, 0, none⟩ = some (.bool true) ∧ wr.cell? ⟨w.heap.size, 1, none⟩ = some (.slice pk nk ck) ∧ wr.cell? ⟨w.heap.size, 2, none⟩ = some (.slice pv nv cv) ∧ wr.cell? ⟨w.heap.size, 3, none⟩ = some (.slice pd nd cd) ∧
    Hid (m = (front n ++ pre n i).length) ∧ Hid (wr.ownsRow (w.heap.size + 1) TU 1 (.slice p m c) m (bv (front n ++ pre n i))) ∧ Hid (Below w.heap.size w wr)) (fun vb vi _ => nk - (intOf vi).toNat)
  case atStart => exact ⟨0, 2, _, _, rfl, rfl, Nat.zero_le _, by omega, by omega, a0, a1, a2, a3, hid (by simp [front, pre_zero]), hid (by rw [pre_zero, List.append_nil]; exact HO1.out), HB1⟩
  case round =>
    obtain ⟨i, m, p, c, rfl, rfl, hi, hm, hsr, c0, c1, c2, c3, HM, HO, HB⟩ := hrel
    by_cases hlt : i < nk
    · have hlt2 : (i : Int) < (nk : Int) := by omega
      obtain ⟨bk, ok, hpk, hck0⟩ := rd_text H.out.keys (i := i) (by rw [HNK.out]; exact hlt)
      obtain ⟨k, hk⟩ : ∃ k, n.keys[i]'(by rw [HNK.out]; exact hlt) = k := ⟨_, rfl⟩
      obtain ⟨bv', ov, hpv, hcv0⟩ := rd_text H.out.vals (i := i) (by rw [HVL.out hlf, HNK.out]; exact hlt)
      obtain ⟨u, hu⟩ : ∃ u, n.vals[i]'(by rw [HVL.out hlf, HNK.out]; exact hlt) = u := ⟨_, rfl⟩
      have HP := hid (pre_leaf hlf (HVL.out hlf) (i := i) (by rw [HNK.out]; exact hlt))
      rw [hk] at hck0
      rw [hu] at hcv0
      rw [hk, hu] at HP
      have hvi : (i : Int) < (nv : Int) := by have := HVL.out hlf; rw [HNK.out, HNV.out] at this; omega
      obtain rfl := hpk
      obtain rfl := hpv
      have hlk := World.block_lt_of_cell? w _ hck0
      have hlv := World.block_lt_of_cell? w _ hcv0
      have hck : wr.cell? ⟨bk, ok + i, none⟩ = some (.string (B k)) := (HB.out.cell (p := ⟨bk, ok + i, none⟩) hlk).trans hck0
      have hcv : wr.cell? ⟨bv', ov + i, none⟩ = some (.string (B u)) := (HB.out.cell (p := ⟨bv', ov + i, none⟩) hlv).trans hcv0
      clear hk hu hck0 hcv0
      have HKL := hid (show (front n ++ pre n (i + 1)).length ≤ E by
        have h1 := pre_le n (i + 1)
        have h2 := HBD.out
        rw [List.length_append]
        simp only [front, List.length_cons, List.length_nil]
        omega)
      go_wp2_with fail
      obtain ⟨w2, hw2⟩ : ∃ x, wr.alloc (.cells #[.string (B k), .string (B u)] 9) = x := ⟨_, rfl⟩
      have ha2 : Below wr.heap.size wr w2 := by rw [← hw2]; exact (Below.refl _ _).alloc (Nat.le_refl _) _
      have hbl2 : Blk w2 wr.heap.size (tv [k, u]) TSt := by rw [← hw2]; exact heap_alloc_new _ _
      have hso2 : w2.heap.size = wr.heap.size + 1 := by rw [← hw2]; simp
      rw [hw2]
      clear hw2
      obtain ⟨out, hout⟩ : ∃ out, front n ++ pre n (i + 1) = out := ⟨_, rfl⟩
      obtain ⟨m3, hm3⟩ : ∃ m3, out.length = m3 := ⟨_, rfl⟩
      have hm3b : m3 ≤ 100000 := by have := HKL.out; rw [hout, hm3] at this; omega
      refine (lay_any w2 (w.heap.size + 1) p c (front n ++ pre n i) [k, u] wr.heap.size m m3 2 out (own_new HO.out ha2) hbl2 rfl (by omega) HM.out.symm hm3 (by rw [← hout, HP.out, List.append_assoc]) hm3b (by omega)).mono ?_
      rintro e3 w3 ⟨p3, c3', rfl, ho3, hb3⟩
      have hb3' : Below (w.heap.size + 1) wr w3 := (ha2.mono (by omega)).trans hb3
      have HB3 := hid (HB.out.trans (hb3'.mono (by omega)))
      have hs3 : w.heap.size + 2 ≤ w3.heap.size := by have := hb3'.size; omega
      have d0 := (hb3'.cell (p := ⟨w.heap.size, 0, none⟩) (Nat.lt_succ_self _)).trans c0
      have d1 := (hb3'.cell (p := ⟨w.heap.size, 1, none⟩) (Nat.lt_succ_self _)).trans c1
      have d2 := (hb3'.cell (p := ⟨w.heap.size, 2, none⟩) (Nat.lt_succ_self _)).trans c2
      have d3 := (hb3'.cell (p := ⟨w.heap.size, 3, none⟩) (Nat.lt_succ_self _)).trans c3
      have HO3 := hid ho3
      have HM3 := hid hm3
      rw [← hout] at HO3 HM3
      clear hout hm3 ho3 hb3 hb3' c0 c1 c2 c3 ha2 hbl2 hso2
      go_wp2_with fail
      go_roundw
      case rel => exact ⟨i + 1, m3, p3, c3', rfl, by first | rfl | (congr 1; omega) | (congr 1), hlt, hm3b, hs3, d0, d1, d2, d3, hid HM3.out.symm, HO3, HB3⟩
      case measure => simp [intOf]; omega
    · have hlt2 : ¬ (i : Int) < (nk : Int) := by omega
      have HO4 := hid HO.out
      have HM4 := hid HM.out
      rw [pre_all (by rw [HNK.out]; omega)] at HO4 HM4
      clear HO HM hi
      go_wp2_with fail
      go_loopw [3, 44] (fun vb vi wr2 => ∃ (j m : Nat) (p : Option Addr) (c : Nat), vb = .slice p m c ∧ vi = .int .i64 j ∧ j ≤ nd ∧ m ≤ 100000 ∧ w.heap.size + 2 ≤ wr2.heap.size ∧
        Hid (m = (front n ++ bodyP n ++ (n.kids.take j).flatMap le2).length) ∧ Hid (wr2.ownsRow (w.heap.size + 1) TU 1 (.slice p m c) m (bv (front n ++ bodyP n ++ (n.kids.take j).flatMap le2))) ∧ Hid (Below w.heap.size w wr2)) (fun vb vi _ => nd - (intOf vi).toNat)
      case atStart => exact ⟨0, m, p, c, rfl, rfl, Nat.zero_le _, hm, hsr, hid (by simpa using HM4.out), hid (by simpa using HO4.out), HB⟩
      case round =>
        obtain ⟨j, m5, p5, c5, rfl, rfl, hj, hm5, hs5, HM5, HO5, HB5⟩ := hrel
        by_cases hlt : j < nd
        · have hlt2 : (j : Int) < (nd : Int) := by omega
          obtain ⟨bd, od, hpd, hcd0⟩ := rd_num H.out.kids (i := j) (by rw [HND.out]; exact hlt)
          obtain ⟨k, hk⟩ : ∃ k, n.kids[j]'(by rw [HND.out]; exact hlt) = k := ⟨_, rfl⟩
          rw [hk] at hcd0
          have HKD := hid (show (n.kids.take (j + 1)).flatMap le2 = (n.kids.take j).flatMap le2 ++ le2 k by
            rw [List.take_add_one, List.getElem?_eq_getElem (by rw [HND.out]; exact hlt), hk]; simp)
          obtain rfl := hpd
          have hld := World.block_lt_of_cell? w _ hcd0
          have hcd : wr.cell? ⟨bd, od + j, none⟩ = some (.int .i64 (k : Int)) := (HB5.out.cell (p := ⟨bd, od + j, none⟩) hld).trans hcd0
          have HKL := hid (show m5 + 2 ≤ E by
            have h1 := HM5.out
            have h2 := HBD.out
            rw [List.length_append, List.length_append, flatMap_le2, List.length_take, HND.out] at h1
            simp only [front, List.length_cons, List.length_nil] at h1
            omega)
          have HUK := hid (show [Value.int .u8 ((k : Int) % 256), .int .u8 ((k : Int) / 256 % 256)] = bv (le2 k) by
            simp [bv, le2, UInt8.toNat_ofNat'])
          clear hk hcd0
          go_wp2_with (at_builtin; refine wp_keep ?_)
          refine hid ?_
          refine wpList_append_rd rfl _ _ 30 rfl (w.heap.size + 1) TU _ 1 1 Try.underlying30 infoU8s rfl (by decide) _ _ _ rfl (own_new HO5.out ((Below.refl _ _).alloc (Nat.le_refl _) _)) _ 2 [.int .u8 ((k : Int) % 256), .int .u8 ((k : Int) / 256 % 256)] rfl (Rd.fresh2 _ _ _ _) (by simp [Value.oneCell']) (by simp only [maxLen]; omega) (by omega) (by simp; omega) ?_
          intro p6 c6 w6 ho6 hg6 _
          have HO5a := hid (own_new HO5.out ((Below.refl _ _).alloc (Nat.le_refl _) (.cells #[.int .u8 ((k : Int) % 256), .int .u8 ((k : Int) / 256 % 256)] TU)))
          have HB6 := hid ((HB5.out.alloc (by omega) (.cells #[.int .u8 ((k : Int) % 256), .int .u8 ((k : Int) / 256 % 256)] TU)).trans ((own_below HO5a.out hg6 (by simp; omega)).mono (by omega)))
          have hs6 : w.heap.size + 2 ≤ w6.heap.size := by have := hg6.size; simp at this; omega
          rw [HUK.out, ← bv_append, List.append_assoc, ← HKD.out] at ho6
          have HO6 := hid ho6
          have hm6 : m5 + 2 ≤ 100000 := by have := HKL.out; omega
          have HM6 := hid (show m5 + 2 = (front n ++ bodyP n ++ (n.kids.take (j + 1)).flatMap le2).length by
            rw [HKD.out, HM5.out]
            simp only [List.length_append, le2, List.length_cons, List.length_nil]
            omega)
          clear ho6 hg6 HO5a HO5 HM5 HB5
          go_wp2_with fail
          go_roundw
          case rel => exact ⟨j + 1, m5 + 2, p6, c6, rfl, by first | rfl | (congr 1; omega) | (congr 1), hlt, hm6, hs6, HM6, HO6, HB6⟩
          case measure => simp [intOf]; omega
        · have hlt2 : ¬ (j : Int) < (nd : Int) := by omega
          go_wp2_with fail
          go_ret
          have h1 := HO5.out
          have h2 := HM5.out
          rw [List.take_of_length_le (by rw [HND.out]; omega), ← enc_front] at h1 h2
          rw [HE.out] at h2
          subst h2
          exact ⟨p5, c5, rfl, own_base h1 (by omega), HB5.out⟩

set_option maxRecDepth 100000 in
set_option maxHeartbeats 4000000 in
theorem bytes_inner (w : World) (n : Nd) (pk : Option Addr) (nk ck : Nat) (pv : Option Addr) (nv cv : Nat) (pd : Option Addr) (nd cd : Nat) (h : NdAt w false pk ck pv cv pd cd n) (hnk : n.keys.length = nk) (hnv : n.vals.length = nv) (hnd : n.kids.length = nd) (hv : n.leaf = true → n.vals.length = n.keys.length) (hs : sizeP n ≤ 100000) :
    Calls Try.prog 26 #[ndV false pk nk ck pv nv cv pd nd cd] w fun e w' => ∃ p c, e = .returned (.slice p (enc n).length c) ∧ w'.ownsRow w.heap.size TU 1 (.slice p (enc n).length c) (enc n).length (bv (enc n)) ∧ Below w.heap.size w w' := by
  have H := hid h
  have HVL := hid hv
  have hlf := h.lf
  have HNK := hid hnk
  have HNV := hid hnv
  have HND := hid hnd
  have hE := enc_length n
  obtain ⟨E, hEE⟩ : ∃ E, (enc n).length = E := ⟨_, rfl⟩
  rw [hEE] at hE ⊢
  rw [← hE] at hs
  have HE := hid hEE
  have HBD := hid (show 2 + (bodyP n).length + 2 * nd = E by
    have h1 := enc_front n
    have h2 := congrArg List.length h1
    rw [hEE, List.length_append, List.length_append, flatMap_le2, hnd] at h2
    simp only [front, List.length_cons, List.length_nil] at h2
    omega)
  have hKE : nk ≤ E := by
    have h1 := len_le_sum _ (costs_pos n)
    rw [costs_len2 hv, hnk, ← bodyP_length] at h1
    have := HBD.out
    omega
  have hDE : nd ≤ E := by have := HBD.out; omega
  have HFR := hid (show [Value.int .u8 2, .int .u8 ((nk : Int) % 256)] = bv (front n) by
    unfold front
    rw [hlf, hnk]
    simp [bv, UInt8.toNat_ofNat'])
  clear h hv hnk hnv hnd hE hEE
  unfold ndV
  go_enter Try.func26, Try.ntmps26
  go_wp2_with fail
  obtain ⟨w1, hw1⟩ : ∃ x, ((w.alloc (.cells #[.bool false, .slice pk nk ck, .slice pv nv cv, .slice pd nd cd] 59)).alloc (.cells #[.int .u8 2, .int .u8 ((nk : Int) % 256)] 5)) = x := ⟨_, rfl⟩
  rw [hw1]
  have a0 : w1.cell? ⟨w.heap.size, 0, none⟩ = some (.bool false) := by rw [← hw1]; simp
  have a1 : w1.cell? ⟨w.heap.size, 1, none⟩ = some (.slice pk nk ck) := by rw [← hw1]; simp
  have a2 : w1.cell? ⟨w.heap.size, 2, none⟩ = some (.slice pv nv cv) := by rw [← hw1]; simp
  have a3 : w1.cell? ⟨w.heap.size, 3, none⟩ = some (.slice pd nd cd) := by rw [← hw1]; simp
  have hs1 : w1.heap.size = w.heap.size + 2 := by rw [← hw1]; simp
  have HB1 : Hid (Below w.heap.size w w1) := hid (by rw [← hw1]; exact ((Below.refl _ _).alloc (Nat.le_refl _) _).alloc (by simp) _)
  have HO1 : Hid (w1.ownsRow (w.heap.size + 1) TU 1 (.slice (some ⟨w.heap.size + 1, 0, none⟩) 2 2) 2 (bv (front n))) := hid (by
    rw [← hw1, ← HFR.out]
    have := own_fresh (w.alloc (.cells #[.bool false, .slice pk nk ck, .slice pv nv cv, .slice pd nd cd] 59)) [.int .u8 2, .int .u8 ((nk : Int) % 256)] TU 2 rfl (by simp [maxLen]) (w.heap.size + 1) (by simp)
    simpa using this)
  clear hw1
  go_loopw [3, 20] (fun vb vi wr => ∃ (i m : Nat) (p : Option Addr) (c : Nat), vb = .slice p m c ∧ vi = .int .i64 i ∧ i ≤ nk ∧ m ≤ 100000 ∧ w.heap.size + 2 ≤ wr.heap.size ∧ wr.cell? ⟨w.heap.size, 0, none⟩ = some (.bool false) ∧ wr.cell? ⟨w.heap.size, 1, none⟩ = some (.slice pk nk ck) ∧ wr.cell? ⟨w.heap.size, 2, none⟩ = some (.slice pv nv cv) ∧ wr.cell? ⟨w.heap.size, 3, none⟩ = some (.slice pd nd cd) ∧
    Hid (m = (front n ++ pre n i).length) ∧ Hid (wr.ownsRow (w.heap.size + 1) TU 1 (.slice p m c) m (bv (front n ++ pre n i))) ∧ Hid (Below w.heap.size w wr)) (fun vb vi _ => nk - (intOf vi).toNat)
  case atStart => exact ⟨0, 2, _, _, rfl, rfl, Nat.zero_le _, by omega, by omega, a0, a1, a2, a3, hid (by simp [front, pre_zero]), hid (by rw [pre_zero, List.append_nil]; exact HO1.out), HB1⟩
  case round =>
    obtain ⟨i, m, p, c, rfl, rfl, hi, hm, hsr, c0, c1, c2, c3, HM, HO, HB⟩ := hrel
    by_cases hlt : i < nk
    · have hlt2 : (i : Int) < (nk : Int) := by omega
      obtain ⟨bk, ok, hpk, hck0⟩ := rd_text H.out.keys (i := i) (by rw [HNK.out]; exact hlt)
      obtain ⟨k, hk⟩ : ∃ k, n.keys[i]'(by rw [HNK.out]; exact hlt) = k := ⟨_, rfl⟩
      have HP := hid (pre_inner hlf (i := i) (by rw [HNK.out]; exact hlt))
      rw [hk] at hck0
      rw [hk] at HP
      obtain rfl := hpk
      have hlk := World.block_lt_of_cell? w _ hck0
      have hck : wr.cell? ⟨bk, ok + i, none⟩ = some (.string (B k)) := (HB.out.cell (p := ⟨bk, ok + i, none⟩) hlk).trans hck0
      clear hk hck0
      have HKL := hid (show (front n ++ pre n (i + 1)).length ≤ E by
        have h1 := pre_le n (i + 1)
        have h2 := HBD.out
        rw [List.length_append]
        simp only [front, List.length_cons, List.length_nil]
        omega)
      go_wp2_with fail
      obtain ⟨w2, hw2⟩ : ∃ x, wr.alloc (.cells #[.string (B k)] 9) = x := ⟨_, rfl⟩
      have ha2 : Below wr.heap.size wr w2 := by rw [← hw2]; exact (Below.refl _ _).alloc (Nat.le_refl _) _
      have hbl2 : Blk w2 wr.heap.size (tv [k]) TSt := by rw [← hw2]; exact heap_alloc_new _ _
      have hso2 : w2.heap.size = wr.heap.size + 1 := by rw [← hw2]; simp
      rw [hw2]
      clear hw2
      obtain ⟨out, hout⟩ : ∃ out, front n ++ pre n (i + 1) = out := ⟨_, rfl⟩
      obtain ⟨m3, hm3⟩ : ∃ m3, out.length = m3 := ⟨_, rfl⟩
      have hm3b : m3 ≤ 100000 := by have := HKL.out; rw [hout, hm3] at this; omega
      refine (lay_any w2 (w.heap.size + 1) p c (front n ++ pre n i) [k] wr.heap.size m m3 1 out (own_new HO.out ha2) hbl2 rfl (by omega) HM.out.symm hm3 (by rw [← hout, HP.out, List.append_assoc]) hm3b (by omega)).mono ?_
      rintro e3 w3 ⟨p3, c3', rfl, ho3, hb3⟩
      have hb3' : Below (w.heap.size + 1) wr w3 := (ha2.mono (by omega)).trans hb3
      have HB3 := hid (HB.out.trans (hb3'.mono (by omega)))
      have hs3 : w.heap.size + 2 ≤ w3.heap.size := by have := hb3'.size; omega
      have d0 := (hb3'.cell (p := ⟨w.heap.size, 0, none⟩) (Nat.lt_succ_self _)).trans c0
      have d1 := (hb3'.cell (p := ⟨w.heap.size, 1, none⟩) (Nat.lt_succ_self _)).trans c1
      have d2 := (hb3'.cell (p := ⟨w.heap.size, 2, none⟩) (Nat.lt_succ_self _)).trans c2
      have d3 := (hb3'.cell (p := ⟨w.heap.size, 3, none⟩) (Nat.lt_succ_self _)).trans c3
      have HO3 := hid ho3
      have HM3 := hid hm3
      rw [← hout] at HO3 HM3
      clear hout hm3 ho3 hb3 hb3' c0 c1 c2 c3 ha2 hbl2 hso2
      go_wp2_with fail
      go_roundw
      case rel => exact ⟨i + 1, m3, p3, c3', rfl, by first | rfl | (congr 1; omega) | (congr 1), hlt, hm3b, hs3, d0, d1, d2, d3, hid HM3.out.symm, HO3, HB3⟩
      case measure => simp [intOf]; omega
    · have hlt2 : ¬ (i : Int) < (nk : Int) := by omega
      have HO4 := hid HO.out
      have HM4 := hid HM.out
      rw [pre_all (by rw [HNK.out]; omega)] at HO4 HM4
      clear HO HM hi
      go_wp2_with fail
      go_loopw [3, 44] (fun vb vi wr2 => ∃ (j m : Nat) (p : Option Addr) (c : Nat), vb = .slice p m c ∧ vi = .int .i64 j ∧ j ≤ nd ∧ m ≤ 100000 ∧ w.heap.size + 2 ≤ wr2.heap.size ∧
        Hid (m = (front n ++ bodyP n ++ (n.kids.take j).flatMap le2).length) ∧ Hid (wr2.ownsRow (w.heap.size + 1) TU 1 (.slice p m c) m (bv (front n ++ bodyP n ++ (n.kids.take j).flatMap le2))) ∧ Hid (Below w.heap.size w wr2)) (fun vb vi _ => nd - (intOf vi).toNat)
      case atStart => exact ⟨0, m, p, c, rfl, rfl, Nat.zero_le _, hm, hsr, hid (by simpa using HM4.out), hid (by simpa using HO4.out), HB⟩
      case round =>
        obtain ⟨j, m5, p5, c5, rfl, rfl, hj, hm5, hs5, HM5, HO5, HB5⟩ := hrel
        by_cases hlt : j < nd
        · have hlt2 : (j : Int) < (nd : Int) := by omega
          obtain ⟨bd, od, hpd, hcd0⟩ := rd_num H.out.kids (i := j) (by rw [HND.out]; exact hlt)
          obtain ⟨k, hk⟩ : ∃ k, n.kids[j]'(by rw [HND.out]; exact hlt) = k := ⟨_, rfl⟩
          rw [hk] at hcd0
          have HKD := hid (show (n.kids.take (j + 1)).flatMap le2 = (n.kids.take j).flatMap le2 ++ le2 k by
            rw [List.take_add_one, List.getElem?_eq_getElem (by rw [HND.out]; exact hlt), hk]; simp)
          obtain rfl := hpd
          have hld := World.block_lt_of_cell? w _ hcd0
          have hcd : wr.cell? ⟨bd, od + j, none⟩ = some (.int .i64 (k : Int)) := (HB5.out.cell (p := ⟨bd, od + j, none⟩) hld).trans hcd0
          have HKL := hid (show m5 + 2 ≤ E by
            have h1 := HM5.out
            have h2 := HBD.out
            rw [List.length_append, List.length_append, flatMap_le2, List.length_take, HND.out] at h1
            simp only [front, List.length_cons, List.length_nil] at h1
            omega)
          have HUK := hid (show [Value.int .u8 ((k : Int) % 256), .int .u8 ((k : Int) / 256 % 256)] = bv (le2 k) by
            simp [bv, le2, UInt8.toNat_ofNat'])
          clear hk hcd0
          go_wp2_with (at_builtin; refine wp_keep ?_)
          refine hid ?_
          refine wpList_append_rd rfl _ _ 30 rfl (w.heap.size + 1) TU _ 1 1 Try.underlying30 infoU8s rfl (by decide) _ _ _ rfl (own_new HO5.out ((Below.refl _ _).alloc (Nat.le_refl _) _)) _ 2 [.int .u8 ((k : Int) % 256), .int .u8 ((k : Int) / 256 % 256)] rfl (Rd.fresh2 _ _ _ _) (by simp [Value.oneCell']) (by simp only [maxLen]; omega) (by omega) (by simp; omega) ?_
          intro p6 c6 w6 ho6 hg6 _
          have HO5a := hid (own_new HO5.out ((Below.refl _ _).alloc (Nat.le_refl _) (.cells #[.int .u8 ((k : Int) % 256), .int .u8 ((k : Int) / 256 % 256)] TU)))
          have HB6 := hid ((HB5.out.alloc (by omega) (.cells #[.int .u8 ((k : Int) % 256), .int .u8 ((k : Int) / 256 % 256)] TU)).trans ((own_below HO5a.out hg6 (by simp; omega)).mono (by omega)))
          have hs6 : w.heap.size + 2 ≤ w6.heap.size := by have := hg6.size; simp at this; omega
          rw [HUK.out, ← bv_append, List.append_assoc, ← HKD.out] at ho6
          have HO6 := hid ho6
          have hm6 : m5 + 2 ≤ 100000 := by have := HKL.out; omega
          have HM6 := hid (show m5 + 2 = (front n ++ bodyP n ++ (n.kids.take (j + 1)).flatMap le2).length by
            rw [HKD.out, HM5.out]
            simp only [List.length_append, le2, List.length_cons, List.length_nil]
            omega)
          clear ho6 hg6 HO5a HO5 HM5 HB5
          go_wp2_with fail
          go_roundw
          case rel => exact ⟨j + 1, m5 + 2, p6, c6, rfl, by first | rfl | (congr 1; omega) | (congr 1), hlt, hm6, hs6, HM6, HO6, HB6⟩
          case measure => simp [intOf]; omega
        · have hlt2 : ¬ (j : Int) < (nd : Int) := by omega
          go_wp2_with fail
          go_ret
          have h1 := HO5.out
          have h2 := HM5.out
          rw [List.take_of_length_le (by rw [HND.out]; omega), ← enc_front] at h1 h2
          rw [HE.out] at h2
          subst h2
          exact ⟨p5, c5, rfl, own_base h1 (by omega), HB5.out⟩

theorem bytes_any (w : World) (n : Nd) (lf : Bool) (pk : Option Addr) (nk ck : Nat) (pv : Option Addr) (nv cv : Nat) (pd : Option Addr) (nd cd : Nat) (h : NdAt w lf pk ck pv cv pd cd n) (hnk : n.keys.length = nk) (hnv : n.vals.length = nv) (hnd : n.kids.length = nd) (hv : n.leaf = true → n.vals.length = n.keys.length) (hs : sizeP n ≤ 100000) :
    Calls Try.prog 26 #[ndV lf pk nk ck pv nv cv pd nd cd] w fun e w' => ∃ p c, e = .returned (.slice p (enc n).length c) ∧ w'.ownsRow w.heap.size TU 1 (.slice p (enc n).length c) (enc n).length (bv (enc n)) ∧ Below w.heap.size w w' := by
  cases lf
  · exact bytes_inner w n pk nk ck pv nv cv pd nd cd h hnk hnv hnd hv hs
  · exact bytes_leaf w n pk nk ck pv nv cv pd nd cd h hnk hnv hnd hv hs
end Go.Proofs.Ytdilkgcoecipjaa
