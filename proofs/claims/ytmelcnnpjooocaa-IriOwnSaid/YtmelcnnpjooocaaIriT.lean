/- triadref10.Split. -/
import Derived.Test.YtmelcnnpjooocaaIriT1
import Derived.Test.YtmelcnnpjooocaaIriT2
import Derived.Test.YtmelcnnpjooocaaIriT3
import Derived.Test.YtmelcnnpjooocaaIriT4
namespace Go.Proofs.Ytmelcnnpjooocaa
open Go.RowKit
set_option linter.unusedVariables false

theorem xSplit_any (l : List UInt8) (w : World) (hl : l.length ≤ 1000000) :
    Calls Try.prog 10 #[.string (B l)] w fun e w' => e = .returned (split l).val ∧ Below w.heap.size w w' := by
  by_cases hyes : up [58, 47, 63, 35] l ≠ 0 ∧ hp [58] (l.drop (up [58, 47, 63, 35] l)) = true
  · exact xSplit_pos l w hl hyes
  · by_cases h0 : up [58, 47, 63, 35] l = 0
    · exact xSplit_nought l w hl hyes h0
    · by_cases hlt : up [58, 47, 63, 35] l < l.length
      · exact xSplit_lt l w hl hyes h0 hlt
      · exact xSplit_ge l w hl hyes h0 hlt
end Go.Proofs.Ytmelcnnpjooocaa
