/- DERIVED HERE. The reference's List, In, At. -/
import Derived.Test.YtiohgpapgkjfiaaGreatDoorRB
import Derived.Test.YtiohgpapgkjfiaaGreatDoorLLa
set_option linter.unusedSimpArgs false
set_option linter.unusedVariables false
namespace Go.Cl
open Go.Proofs
variable {W : World} {G : Nat → CV}
set_option maxRecDepth 8000
structure rlI (H : Hp) (r n c : Nat) (f : Nat → Bool) (d : Nat) (m : Nat) (s' : CA) (H' : Hp) : Prop where
  ex : ∃ i i4 v, m = n - i ∧ i ≤ n ∧ s'.env 0 = .ref r 0 n c ∧ s'.env 3 = v ∧ s'.env 4 = .int .i64 i4 ∧ i4 + d = i ∧ s'.ds = [] ∧ Own H H' v 1 (ints (upto f i))
end Go.Cl
