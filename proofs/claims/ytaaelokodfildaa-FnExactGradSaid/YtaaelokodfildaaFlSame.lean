/- SameFloat, both sides. Condition: the words are below 2^64. -/
import Derived.Test.YtaaelokodfildaaFlWalk
set_option linter.unusedVariables false
set_option linter.unusedSimpArgs false
namespace Go.Proofs.Ytaaelokodfildaa
open Go.RowKit
open FlCore

end Go.Proofs.Ytaaelokodfildaa
