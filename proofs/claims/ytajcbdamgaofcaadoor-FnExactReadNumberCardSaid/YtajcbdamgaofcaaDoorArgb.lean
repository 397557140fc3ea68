/- Bytes as an argument. No condition. -/
import Derived.Test.YtajcbdamgaofcaaDoorArg
namespace Go.Proofs.YtajcbdamgaofcaaDoor
open Go.ChangeShapes Go.WideShapes Go.ChangeAt Go.RowKit Go.Am
set_option maxRecDepth 100000
theorem cellsByte : Tryd.prog.cellsOf 5 = 1 := by kernel_rfl
end Go.Proofs.YtajcbdamgaofcaaDoor
