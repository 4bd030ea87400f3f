/- DERIVED HERE. When two registers may share a place. -/
import Derived.Test.YtoophlkbngagcaaGreatDoorRB
set_option linter.unusedSimpArgs false
set_option linter.unusedVariables false
namespace Go.Cl
section
variable {u : UUnit} {p : Nat → Bool} {I : Nat → Nat → Bool} {k : UBlk} {a b : Int} {o : UOp} {t : Nat}
variable {S : Nat → Bool}
end
end Go.Cl
