/- Recs2 -/
import Derived.Test.YtdilkgcoecipjaaRecs
namespace Go.Proofs.Ytdilkgcoecipjaa
open Go.RowKit
set_option linter.unusedVariables false

theorem cntOf_zero (n : Nat) (b : List UInt8) (h : b.take 8 = List.replicate 8 0) : cntOf n b = 0 := by
  unfold cntOf
  rw [h, if_neg]
  rintro ⟨h1, _⟩
  exact absurd h1 (by decide)
theorem recov_none {n : Nat} {s : DS} (h : s.dead = false) (hc : cntOf n (row s.now 0) = 0) : recov n s = (s, 0, 0) := by
  unfold recov
  rw [if_neg (by rw [h]; decide), if_pos hc]
theorem z512_take : z512.take 8 = List.replicate 8 0 := by unfold z512; rw [List.take_replicate]; rfl
theorem recov_new {n : Nat} (h1 : 1 ≤ n) : recov n (dNew n) = (dNew n, 0, 0) :=
  recov_none rfl (cntOf_zero n _ (by
    have e : row (dNew n).now 0 = z512 := row_zero (by omega)
    rw [e, z512_take]))
theorem cmt_nil (n : Nat) (s : DS) : cmt n s [] = (s, 1) := rfl
end Go.Proofs.Ytdilkgcoecipjaa
