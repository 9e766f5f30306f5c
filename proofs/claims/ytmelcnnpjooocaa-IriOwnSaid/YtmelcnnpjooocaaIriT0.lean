/- triadref10.upTo from nought. -/
import Derived.Test.YtmelcnnpjooocaaIriS
namespace Go.Proofs.Ytmelcnnpjooocaa
open Go.RowKit
set_option linter.unusedVariables false

theorem upTo0_any (l st : List UInt8) (w : World) (hl : l.length ≤ 1000000) (hs : st.length ≤ 1000000) :
    Calls Try.prog 16 #[.string (B l), .int .i64 0, .string (B st)] w fun e w' => e = .returned (.int .i64 ((up st l : Nat) : Int)) ∧ w = w' := by
  have h := upTo_any l st 0 w (Nat.zero_le _) hl hs
  rw [Nat.zero_add, List.drop_zero] at h
  exact h

end Go.Proofs.Ytmelcnnpjooocaa
