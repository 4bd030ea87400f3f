/- DERIVED HERE. What is live after an operation, or an End: the program's after. -/
import Derived.Test.YtoophlkbngagcaaGreatDoorNM
import Derived.Test.YtoophlkbngagcaaGreatDoorRB
set_option linter.unusedSimpArgs false
set_option linter.unusedVariables false
namespace Go.Cl
open Go.Proofs
variable {W : World} {G : Nat → CV}
set_option maxRecDepth 8000
end Go.Cl
