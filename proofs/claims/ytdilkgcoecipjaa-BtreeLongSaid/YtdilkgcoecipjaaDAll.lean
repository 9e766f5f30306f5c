/- DAll -/
import Derived.Test.YtdilkgcoecipjaaLaw2a
namespace Go.Proofs.Ytdilkgcoecipjaa
open Go.RowKit
set_option linter.unusedVariables false

/-- all writes done -/
def dAll (ps : List (Nat × List UInt8)) (F : List UInt8) : List UInt8 := ps.foldl (fun F p => setRowAt F p.1 p.2) F
theorem dAll_snoc (ps : List (Nat × List UInt8)) (p : Nat × List UInt8) (F : List UInt8) : dAll (ps ++ [p]) F = setRowAt (dAll ps F) p.1 p.2 := by simp [dAll]
theorem dAll_length {n : Nat} : ∀ (ps : List (Nat × List UInt8)) (F : List UInt8), (∀ p ∈ ps, p.1 < n ∧ p.2.length = 512) → F.length = n * 512 → (dAll ps F).length = n * 512
  | [], F, _, h => h
  | p :: ps, F, hp, h => by
    have h1 := hp p (by simp)
    have h2 : (p.1 + 1) * 512 ≤ n * 512 := Nat.mul_le_mul_right _ h1.1
    refine dAll_length ps _ (fun q hq => hp q (by simp [hq])) ?_
    unfold setRowAt; rw [splice_length _ _ _ (by rw [h1.2, h]; omega)]; exact h

theorem row_set {F r : List UInt8} {n k j : Nat} (hF : F.length = n * 512) (hk : k < n) (hr : r.length = 512) : row (setRowAt F k r) j = if k = j then r else row F j := by
  split
  · rename_i h; subst h; exact row_set_same hF hk hr
  · rename_i h; exact row_set_other hF hk hr (fun e => h e.symm)
end Go.Proofs.Ytdilkgcoecipjaa
