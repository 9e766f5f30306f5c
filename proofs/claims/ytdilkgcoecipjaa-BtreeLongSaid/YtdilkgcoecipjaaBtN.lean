/- Nodes in memory; how many bytes a node has. -/
import Derived.Test.YtdilkgcoecipjaaBtQ
import Derived.Test.YtdilkgcoecipjaaPagV
namespace Go.Proofs.Ytdilkgcoecipjaa
open Go.RowKit
set_option linter.unusedVariables false

def tv (l : List Tx) : List Value := l.map fun t => .string (B t)
def kv (l : List Nat) : List Value := l.map fun k : Nat => Value.int .i64 (k : Int)
theorem tv_len (l : List Tx) : (tv l).length = l.length := by simp [tv]
theorem kv_len (l : List Nat) : (kv l).length = l.length := by simp [kv]
theorem tv_app (a b : List Tx) : tv (a ++ b) = tv a ++ tv b := List.map_append
theorem kv_app (a b : List Nat) : kv (a ++ b) = kv a ++ kv b := List.map_append
theorem tv_one (l : List Tx) : ∀ u ∈ tv l, u.oneCell' = true := by
  intro u hu; obtain ⟨t, _, rfl⟩ := List.mem_map.1 hu; rfl
theorem kv_one (l : List Nat) : ∀ u ∈ kv l, u.oneCell' = true := by
  intro u hu; obtain ⟨t, _, rfl⟩ := List.mem_map.1 hu; rfl
theorem tv_get {l : List Tx} {i : Nat} {t : Tx} (h : l[i]? = some t) : (tv l)[i]? = some (.string (B t)) := by simp [tv, h]
theorem kv_get {l : List Nat} {i : Nat} {t : Nat} (h : l[i]? = some t) : (kv l)[i]? = some (.int .i64 (t : Int)) := by simp [kv, h]

abbrev TN : TypeId := 59
abbrev TSt : TypeId := 9
abbrev TSs : TypeId := 33
abbrev TIs : TypeId := 44
abbrev TI : TypeId := 3
abbrev TU : TypeId := 5

/-- a node's value: what its slices lead to -/
structure NdAt (w : World) (lf : Bool) (pk : Option Addr) (ck : Nat) (pv : Option Addr) (cv : Nat) (pd : Option Addr) (cd : Nat) (n : Nd) : Prop where
  lf : n.leaf = lf
  keys : Rd w 1 (.slice pk n.keys.length ck) n.keys.length (tv n.keys)
  vals : Rd w 1 (.slice pv n.vals.length cv) n.vals.length (tv n.vals)
  kids : Rd w 1 (.slice pd n.kids.length cd) n.kids.length (kv n.kids)
def ndV (lf : Bool) (pk : Option Addr) (nk ck : Nat) (pv : Option Addr) (nv cv : Nat) (pd : Option Addr) (nd cd : Nat) : Value := .agg #[.bool lf, .slice pk nk ck, .slice pv nv cv, .slice pd nd cd]
theorem NdAt.new {w w' : World} {lf : Bool} {pk pv pd : Option Addr} {ck cv cd : Nat} {n : Nd} (h : NdAt w lf pk ck pv cv pd cd n) (hb : Below w.heap.size w w') : NdAt w' lf pk ck pv cv pd cd n :=
  ⟨h.lf, h.keys.new hb, h.vals.new hb, h.kids.new hb⟩

/-- a text among those that are read -/
theorem rd_text {w : World} {p : Option Addr} {c : Nat} {l : List Tx} (h : Rd w 1 (.slice p l.length c) l.length (tv l)) {i : Nat} (hi : i < l.length) :
    ∃ b o, p = some ⟨b, o, none⟩ ∧ w.cell? ⟨b, o + i, none⟩ = some (.string (B l[i])) := by
  obtain ⟨b, o, rfl, hc⟩ := h.addr (by omega)
  exact ⟨b, o, rfl, hc i _ (tv_get (List.getElem?_eq_getElem hi))⟩
theorem rd_num {w : World} {p : Option Addr} {c : Nat} {l : List Nat} (h : Rd w 1 (.slice p l.length c) l.length (kv l)) {i : Nat} (hi : i < l.length) :
    ∃ b o, p = some ⟨b, o, none⟩ ∧ w.cell? ⟨b, o + i, none⟩ = some (.int .i64 (l[i] : Int)) := by
  obtain ⟨b, o, rfl, hc⟩ := h.addr (by omega)
  exact ⟨b, o, rfl, hc i _ (kv_get (List.getElem?_eq_getElem hi))⟩

theorem sum_take {l : List Nat} {i x : Nat} (h : l[i]? = some x) : (l.take (i + 1)).sum = (l.take i).sum + x := by
  rw [List.take_add_one, h]; simp
theorem sum_take_le (l : List Nat) (i : Nat) : (l.take i).sum ≤ l.sum := by
  have h : (l.take i).sum + (l.drop i).sum = l.sum := by rw [← List.sum_append, List.take_append_drop]
  omega
theorem cost_leaf {n : Nd} (hl : n.leaf = true) (hv : n.vals.length = n.keys.length) {i : Nat} (hi : i < n.keys.length) : (costs n)[i]? = some (2 + n.keys[i].length + (n.vals[i]'(by omega)).length) := by
  unfold costs
  have hz : (n.keys.zip n.vals)[i]? = some (n.keys[i], n.vals[i]'(by omega)) := List.getElem?_zip_eq_some.2 ⟨List.getElem?_eq_getElem hi, List.getElem?_eq_getElem (by omega)⟩
  rw [if_pos hl, List.getElem?_map, hz]
  rfl
theorem cost_inner {n : Nd} (hl : n.leaf = false) {i : Nat} (hi : i < n.keys.length) : (costs n)[i]? = some (1 + n.keys[i].length) := by
  unfold costs
  rw [if_neg (by rw [hl]; simp), List.getElem?_map, List.getElem?_eq_getElem hi]
  rfl

theorem costs_len2 {n : Nd} (hv : n.leaf = true → n.vals.length = n.keys.length) : (costs n).length = n.keys.length := by
  unfold costs
  split
  · rename_i hl
    rw [List.length_map, List.length_zip, hv hl, Nat.min_self]
  · rw [List.length_map]

set_option maxRecDepth 100000 in
set_option maxHeartbeats 2000000 in
theorem size_any (w : World) (n : Nd) (lf : Bool) (pk : Option Addr) (ck : Nat) (pv : Option Addr) (cv : Nat) (pd : Option Addr) (cd : Nat) (h : NdAt w lf pk ck pv cv pd cd n) (hv : n.leaf = true → n.vals.length = n.keys.length) (hs : sizeP n ≤ 100000) :
    Calls Try.prog 88 #[ndV lf pk n.keys.length ck pv n.vals.length cv pd n.kids.length cd] w fun e w' => e = .returned (.int .i64 (sizeP n : Int)) ∧ Below w.heap.size w w' := by
  have H := hid h
  have HV := hid hv
  have hlf := h.lf
  clear h hv
  have hsz : 2 + 2 * n.kids.length + (costs n).sum ≤ 100000 := hs
  have hcl : n.keys.length ≤ (costs n).sum + 2 := by
    have h1 := len_le_sum _ (costs_pos n)
    rw [costs_len2 HV.out] at h1
    omega
  obtain ⟨S, hS⟩ : ∃ S, (costs n).sum = S := ⟨_, rfl⟩
  have HSs := hid hS
  obtain ⟨nk, hnk⟩ : ∃ m, n.keys.length = m := ⟨_, rfl⟩
  obtain ⟨nv, hnv⟩ : ∃ m, n.vals.length = m := ⟨_, rfl⟩
  obtain ⟨nd, hnd⟩ : ∃ m, n.kids.length = m := ⟨_, rfl⟩
  have hgoal : sizeP n = 2 + 2 * nd + S := by unfold sizeP; rw [hnd, hS]
  rw [hgoal, hnk, hnv, hnd]
  rw [hS] at hcl
  rw [hnk] at hcl
  rw [hnd, hS] at hsz
  have HNK := hid hnk
  have HNV := hid hnv
  have HND := hid hnd
  clear hS hgoal hnk hnv hnd hs
  unfold ndV
  go_enter Try.func88, Try.ntmps88
  go_wp2_with fail
  go_loopw [3, 14] (fun vo vi wr => ∃ (i o : Nat), vo = .int .i64 o ∧ vi = .int .i64 i ∧ i ≤ nk ∧ o ≤ 100000 ∧ Hid (o = 2 + 2 * nd + ((costs n).take i).sum) ∧ Hid (Below w.heap.size w wr) ∧ wr.cell? ⟨w.heap.size, 0, none⟩ = some (.bool lf) ∧ wr.cell? ⟨w.heap.size, 2, none⟩ = some (.slice pv nv cv)) (fun vo vi _ => nk - (intOf vi).toNat)
  case atStart => exact ⟨0, 2 + 2 * nd, by first | rfl | (congr 1; omega), rfl, Nat.zero_le _, by omega, hid (by simp), hid ((Below.refl _ _).alloc (Nat.le_refl _) _), by first | assumption | simp, by first | assumption | simp⟩
  case round =>
    obtain ⟨i, o, rfl, rfl, hi, ho, HO, HB, c0, c2⟩ := hrel
    by_cases hlt : i < nk
    · have hlt2 : (i : Int) < (nk : Int) := by omega
      obtain ⟨bk, ok, rfl, hck0⟩ := rd_text H.out.keys (i := i) (by rw [HNK.out]; exact hlt)
      obtain ⟨k, hk⟩ : ∃ k, n.keys[i]'(by rw [HNK.out]; exact hlt) = k := ⟨_, rfl⟩
      rw [hk] at hck0
      have hlk := World.block_lt_of_cell? w _ hck0
      have hck : wr.cell? ⟨bk, ok + i, none⟩ = some (.string (B k)) := (HB.out.cell (p := ⟨bk, ok + i, none⟩) hlk).trans hck0
      have HK := hid hk
      clear hk hck0
      cases lf
      case' true =>
        have hcs := sum_take (cost_leaf hlf (HV.out hlf) (i := i) (by rw [HNK.out]; exact hlt))
        rw [HK.out] at hcs
        obtain ⟨bv, ov, rfl, hcv0⟩ := rd_text H.out.vals (i := i) (by rw [HV.out hlf, HNK.out]; exact hlt)
        obtain ⟨u, hu⟩ : ∃ u, n.vals[i]'(by rw [HV.out hlf, HNK.out]; exact hlt) = u := ⟨_, rfl⟩
        rw [hu] at hcv0 hcs
        have hlv := World.block_lt_of_cell? w _ hcv0
        have hcv : wr.cell? ⟨bv, ov + i, none⟩ = some (.string (B u)) := (HB.out.cell (p := ⟨bv, ov + i, none⟩) hlv).trans hcv0
        have hle := sum_take_le (costs n) (i + 1)
        rw [HSs.out] at hle
        have hvi : (i : Int) < (nv : Int) := by have := HV.out hlf; rw [HNK.out, HNV.out] at this; omega
        obtain ⟨o2, ho2⟩ : ∃ o2 : Nat, o + (1 + k.length) + (1 + u.length) = o2 := ⟨_, rfl⟩
        have HO2 := hid (show o2 = 2 + 2 * nd + ((costs n).take (i + 1)).sum by have := HO.out; omega)
        have ho3 : o2 ≤ 100000 := by have := HO2.out; omega
        clear hcs hcv0 hu hle
      case' false =>
        have hcs := sum_take (cost_inner hlf (i := i) (by rw [HNK.out]; exact hlt))
        rw [HK.out] at hcs
        have hle := sum_take_le (costs n) (i + 1)
        rw [HSs.out] at hle
        obtain ⟨o2, ho2⟩ : ∃ o2 : Nat, o + (1 + k.length) = o2 := ⟨_, rfl⟩
        have HO2 := hid (show o2 = 2 + 2 * nd + ((costs n).take (i + 1)).sum by have := HO.out; omega)
        have ho3 : o2 ≤ 100000 := by have := HO2.out; omega
        clear hcs hle
      all_goals
        go_wp2_with fail
        go_roundw
        case rel => exact ⟨i + 1, o2, by congr 1; omega, rfl, hlt, ho3, HO2, HB, c0, c2⟩
        case measure => simp [intOf]; omega
    · have hlt2 : ¬ (i : Int) < (nk : Int) := by omega
      go_wp2_with fail
      go_ret
      refine ⟨?_, HB.out⟩
      have h1 := HO.out
      rw [show i = nk by omega, List.take_of_length_le (by rw [costs_len2 HV.out, HNK.out]; exact Nat.le_refl _), HSs.out] at h1
      rw [h1]
      exact congrArg (fun x => Ending.returned (Value.int .i64 x)) (show ((2 + 2 * nd + S : Nat) : Int) = 2 + 2 * (nd : Int) + (S : Int) by omega)
end Go.Proofs.Ytdilkgcoecipjaa
