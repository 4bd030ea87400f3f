/- DERIVED HERE. The reference's List, In, At. -/
import Derived.Test.YtoophlkbngagcaaGreatDoorRB
import Derived.Test.YtoophlkbngagcaaGreatDoorLLa
set_option linter.unusedSimpArgs false
set_option linter.unusedVariables false
namespace Go.Cl
open Go.Proofs
variable {W : World} {G : Nat → CV}
set_option maxRecDepth 8000
end Go.Cl
