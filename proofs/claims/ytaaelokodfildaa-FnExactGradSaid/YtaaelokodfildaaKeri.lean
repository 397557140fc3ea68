/- Kernels, the program's side: helpers over two and three lists, and the functions that it picks. Conditions: lists of one length, at most 2^20. -/
import Derived.Test.YtaaelokodfildaaKer
set_option linter.unusedVariables false
set_option linter.unusedSimpArgs false
namespace Go.Proofs.Ytaaelokodfildaa
open Go.Am

end Go.Proofs.Ytaaelokodfildaa
