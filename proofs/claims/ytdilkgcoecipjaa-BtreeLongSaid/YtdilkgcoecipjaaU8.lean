/- the type of a byte. -/
import Derived.Test.YtdilkgcoecipjaaRows
import Derived.Test.YtdilkgcoecipjaaHeap
namespace Go.Proofs.Ytdilkgcoecipjaa
open Go.RowKit

theorem infoU8 : (Try.prog.info? 5).map (fun i => (i.zero, i.size, i.bytes)) = some (some (.int .u8 0), 1, 1) := by kernel_rfl
theorem infoU8' : (Try.prog.info? 5).map (·.size) = some 1 := by kernel_rfl
end Go.Proofs.Ytdilkgcoecipjaa
