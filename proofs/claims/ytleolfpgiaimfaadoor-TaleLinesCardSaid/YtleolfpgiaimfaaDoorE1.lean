/- Bytes as elements of a slice. -/
import Derived.Test.YtleolfpgiaimfaaDoorAp
import Derived.Test.YtleolfpgiaimfaaDoorChecked
namespace Go.Proofs.YtleolfpgiaimfaaDoor
set_option linter.unusedVariables false
set_option linter.unusedSimpArgs false
open Go.RowKit

theorem infoU8 : (Tryd.prog.info? 5).map (fun i => (i.zero, i.size, i.bytes)) = some (some (.int .u8 0), 1, 1) := by kernel_rfl
theorem TU8 : ElT Tryd.prog 22 5 1 1 := ElT.mk' (z := .int .u8 0) Tryd.underlying22 (by omega) (by omega) rfl infoU8
end Go.Proofs.YtleolfpgiaimfaaDoor
