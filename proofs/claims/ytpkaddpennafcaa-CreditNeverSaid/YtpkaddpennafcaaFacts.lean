/- Closed facts on the program's types. -/
import Derived.Test.YtpkaddpennafcaaRows
import Derived.Test.YtpkaddpennafcaaBase
namespace Go.Proofs.Ytpkaddpennafcaa
set_option linter.unusedVariables false
set_option linter.unusedSimpArgs false
open Go.RowKit

theorem infoU8 : (Try.prog.info? 5).map (fun i => (i.zero, i.size, i.bytes)) = some (some (.int .u8 0), 1, 1) := by kernel_rfl
theorem sizeU8 : (Try.prog.info? 5).map (·.size) = some 1 := by kernel_rfl



end Go.Proofs.Ytpkaddpennafcaa
