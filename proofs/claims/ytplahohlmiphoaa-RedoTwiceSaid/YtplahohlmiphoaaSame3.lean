/- triadlaw3.same: two rows of texts. -/
import Derived.Test.YtplahohlmiphoaaHomeS
namespace Go.Proofs.Ytplahohlmiphoaa
open Go.RowKit
set_option linter.unusedVariables false

theorem sv_at {w : World} {a : Option Addr} {n c : Nat} {A : List (List UInt8)} (h : Rd w 1 (.slice a n c) n (A.map sv)) {j : Nat} {x : List UInt8} (hj : A[j]? = some x) :
    ∃ b off, a = some ⟨b, off, none⟩ ∧ w.cell? ⟨b, off + j, none⟩ = some (.string ⟨x.toArray⟩) := by
  have hl : A.length = n := by have := h.1; simpa using this
  have hjn := (List.getElem?_eq_some_iff.1 hj).1
  obtain ⟨b, off, he, hc⟩ := Rd.addr h (by omega)
  exact ⟨b, off, he, hc j _ (by rw [List.getElem?_map, hj]; rfl)⟩

theorem take_eq_step {A B : List (List UInt8)} {j : Nat} {x y : List UInt8} (hx : A[j]? = some x) (hy : B[j]? = some y) (h : A.take j = B.take j) (he : x = y) : A.take (j + 1) = B.take (j + 1) := by
  rw [List.take_add_one, List.take_add_one, hx, hy, h, he]

set_option maxRecDepth 100000 in
set_option maxHeartbeats 2000000 in
theorem same3_any (w : World) (a b : Option Addr) (n m ca cb : Nat) (A B : List (List UInt8)) (hA : Rd w 1 (.slice a n ca) n (A.map sv)) (hB : Rd w 1 (.slice b m cb) m (B.map sv)) (hn : n ≤ 10000) (hm : m ≤ 10000) :
    Calls Try.prog 29 #[.slice a n ca, .slice b m cb] w fun e w' => e = .returned (.bool (A == B)) ∧ Below w.heap.size w w' := by
  have HA := hid hA
  have HB := hid hB
  have hla : A.length = n := by have := hA.1; simpa using this
  have hlb : B.length = m := by have := hB.1; simpa using this
  clear hA hB
  by_cases hnm : n = m
  · have hnm' : ((n : Int) == (m : Int)) = true := by simp [hnm]
    have LA := hid hla
    have LB := hid hlb
    clear hla hlb
    go_enter Try.func29, Try.ntmps29
    go_wp2_with fail
    go_loopw [5] (fun i wr => ∃ j : Nat, j ≤ n ∧ i = .int .i64 j ∧ Below w.heap.size w wr ∧ A.take j = B.take j) (fun i _ => n + 1 - (intOf i).toNat)
    case atStart => exact ⟨0, Nat.zero_le _, rfl, Below.refl _ _, rfl⟩
    case round =>
      obtain ⟨j, hj, rfl, hb, ht⟩ := hrel
      have BW := hid hb
      have HT := hid ht
      clear hb ht
      by_cases hlt : j < n
      · obtain ⟨x, hx⟩ : ∃ x, A[j]? = some x := ⟨_, List.getElem?_eq_getElem (by rw [LA.out]; exact hlt)⟩
        obtain ⟨y, hy⟩ : ∃ y, B[j]? = some y := ⟨_, List.getElem?_eq_getElem (by rw [LB.out]; omega)⟩
        obtain ⟨ab, ao, rfl, k0⟩ := sv_at (HA.out.new BW.out) hx
        obtain ⟨bb, bo, rfl, k1⟩ := sv_at (HB.out.new BW.out) hy
        have HX := hid hx
        have HY := hid hy
        clear hx hy
        have hjm : j < m := by omega
        generalize hxy : (x == y) = q
        have HXY := hid hxy
        cases q with
        | true =>
          go_wp2_with fail
          go_quiet (fail)
          go_wp2_with fail
          go_roundw
          case rel => exact ⟨j + 1, by omega, by go_num, below_drewN BW.out _, take_eq_step HX.out HY.out HT.out (by simpa using HXY.out)⟩
          case measure => simp [intOf]; omega
        | false =>
          have HN : Hid ((A == B) = false) := hid (by
            rw [beq_eq_false_iff_ne]
            intro he
            have h1 := HX.out
            rw [he, HY.out] at h1
            injection h1 with h1
            have h2 := HXY.out
            rw [h1] at h2
            simp at h2)
          go_wp2_with fail
          go_quiet (fail)
          go_wp2_with fail
          go_ret
          rw [HN.out]
          exact ⟨rfl, below_drewN BW.out _⟩
      · obtain rfl : j = n := by omega
        have HN : Hid ((A == B) = true) := hid (by
          have h1 := HT.out
          rw [List.take_of_length_le (by rw [LA.out]; exact Nat.le_refl _), List.take_of_length_le (by rw [LB.out]; omega)] at h1
          rw [h1]; simp)
        go_wp2_with fail
        go_ret
        rw [HN.out]
        exact ⟨rfl, BW.out⟩
  · have hnm' : ((n : Int) == (m : Int)) = false := by simp; omega
    have HN : Hid ((A == B) = false) := hid (by
      rw [beq_eq_false_iff_ne]
      intro he
      rw [he] at hla
      omega)
    clear hla hlb
    go_enter Try.func29, Try.ntmps29
    go_wp2_with fail
    go_ret
    rw [HN.out]
    exact ⟨rfl, Below.refl _ _⟩
end Go.Proofs.Ytplahohlmiphoaa
