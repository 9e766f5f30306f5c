/- package disk: calls in one word. -/
import Derived.Test.YtdilkgcoecipjaaDisk4
namespace Go.Proofs.Ytdilkgcoecipjaa
open Go.RowKit
set_option linter.unusedVariables false

theorem row_set_same {F r : List UInt8} {n k : Nat} (hF : F.length = n * 512) (hk : k < n) (hr : r.length = 512) : row (setRowAt F k r) k = r := by
  have : (k + 1) * 512 ≤ n * 512 := Nat.mul_le_mul_right _ hk
  unfold row setRowAt splice
  have h1 : (F.take (k * 512)).length = k * 512 := by rw [List.length_take]; omega
  rw [List.drop_left' h1, List.take_left' hr]
theorem row_set_other {F r : List UInt8} {n k j : Nat} (hF : F.length = n * 512) (hk : k < n) (hr : r.length = 512) (hj : j ≠ k) : row (setRowAt F k r) j = row F j := by
  have : (k + 1) * 512 ≤ n * 512 := Nat.mul_le_mul_right _ hk
  unfold row setRowAt splice
  have h1 : (F.take (k * 512)).length = k * 512 := by rw [List.length_take]; omega
  apply List.ext_getElem?
  intro i
  rw [List.getElem?_take, List.getElem?_take]
  split
  · rw [List.getElem?_drop, List.getElem?_drop]
    rcases Nat.lt_or_ge j k with h | h
    · have h2 : j * 512 + i < k * 512 := by
        have : (j + 1) * 512 ≤ k * 512 := Nat.mul_le_mul_right _ h
        omega
      rw [List.getElem?_append_left (by omega), List.getElem?_take, if_pos h2]
    · have h3 : (k + 1) * 512 ≤ j * 512 := Nat.mul_le_mul_right _ (by omega)
      rw [List.getElem?_append_right (by omega), List.getElem?_append_right (by omega), h1, List.getElem?_drop]
      exact congrArg (fun q => F[q]?) (by omega)
  · rfl
theorem row_zero {n k : Nat} (hk : k < n) : row (List.replicate (n * 512) 0) k = z512 := by
  have : (k + 1) * 512 ≤ n * 512 := Nat.mul_le_mul_right _ hk
  unfold row z512
  rw [List.drop_replicate, List.take_replicate]
  exact congrArg (fun q => List.replicate q 0) (by omega)

theorem dStep_calm {s : DS} (h : s.stop < 1) : dStep s = { s with ops := s.ops + 1 } := if_pos h
theorem dStepGone_calm {s : DS} (h : s.stop < 1) : dStepGone s = false := if_pos h

theorem dWrite_any (w : World) (d : Nat) (fp : Nat → Prop) (n : Nat) (s : DS) (at_ : Int) (v : Value) (l : List UInt8) (h : Dsk w d fp n s) (hv : Bs w v l) (hl : l.length ≤ 1000000) (ho : s.ops ≤ 1000000) :
    Calls Try.prog 83 #[.pointer (some ⟨d, 0, none⟩), .int .i64 at_, v] w fun e w' => e = .returned (.int .i64 (dWrite n s at_ l).2) ∧ DskTo w d fp n (dWrite n s at_ l).1 w' := by
  by_cases hbad : s.dead = true ∨ ¬ (0 ≤ at_ ∧ at_ < n) ∨ 512 < l.length
  · refine (dWrite_err w d fp n s at_ v l h hv hl hbad).mono ?_
    rintro e w' ⟨rfl, rfl⟩
    have hw : dWrite n s at_ l = (s, if s.dead then 13 else 1) := by
      unfold dWrite
      by_cases hd : s.dead = true
      · rw [if_pos hd, if_pos hd]
      · rw [if_neg hd, if_neg hd, if_pos (hbad.resolve_left hd)]
    rw [hw]
    exact ⟨rfl, h.to⟩
  · have hd : s.dead = false := by cases hx : s.dead with | true => exact absurd (.inl hx) hbad | false => rfl
    have hr : ¬ (¬ (0 ≤ at_ ∧ at_ < n) ∨ 512 < l.length) := fun hx => hbad (.inr hx)
    obtain ⟨k, rfl⟩ := Int.eq_ofNat_of_zero_le (show 0 ≤ at_ by omega)
    refine (dWrite_ok w d fp n s k v l h hv hd (by omega) (by omega) ho).mono ?_
    have hw : dWrite n s k l = (dStep (dWritten s k l), if dStepGone s then 13 else 0) := by
      unfold dWrite
      rw [if_neg (by rw [hd]; simp), if_neg hr]
      rfl
    rw [hw]
    intro e w' he
    exact he

/-- a disk that lies behind a block -/
def DskIn (B : Nat) (w : World) (d n : Nat) (s : DS) : Prop := ∃ fp, Dsk w d fp n s ∧ ∀ k, fp k → B ≤ k
theorem DskTo.in {w w' : World} {d : Nat} {fp : Nat → Prop} {n : Nat} {s : DS} {B : Nat} (h : DskTo w d fp n s w') (hB : ∀ k, fp k → B ≤ k) (hs : B ≤ w.heap.size) : DskIn B w' d n s ∧ Below B w w' := by
  obtain ⟨fp', h1, h2, h3⟩ := h
  refine ⟨⟨fp', h1, fun k hk => ?_⟩, h2.below hB hs⟩
  rcases h3 k hk with h | h
  · exact hB k h
  · omega

theorem dWrite_calm {n : Nat} {s : DS} {k : Nat} {l : List UInt8} (hd : s.dead = false) (hs : s.stop < 1) (hk : k < n) (hl : l.length ≤ 512) : dWrite n s k l = (dStep (dWritten s k l), 0) := by
  unfold dWrite
  rw [if_neg (by rw [hd]; simp), if_neg (by omega), dStepGone_calm hs]
  rfl
end Go.Proofs.Ytdilkgcoecipjaa
