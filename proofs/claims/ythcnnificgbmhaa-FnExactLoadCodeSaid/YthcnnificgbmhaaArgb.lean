/- Bytes as an argument. No condition. -/
import Derived.Test.YthcnnificgbmhaaArg
namespace Go.Proofs.Ythcnnificgbmhaa
open Go.ChangeShapes Go.WideShapes Go.ChangeAt Go.RowKit Go.Am
set_option maxRecDepth 100000
theorem cellsByte : Try.prog.cellsOf 5 = 1 := by kernel_rfl
end Go.Proofs.Ythcnnificgbmhaa
