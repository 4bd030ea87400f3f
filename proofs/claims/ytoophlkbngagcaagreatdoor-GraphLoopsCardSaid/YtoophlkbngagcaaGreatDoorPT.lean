/- DERIVED HERE. The program's Points. -/
import Derived.Test.YtoophlkbngagcaaGreatDoorNM
import Derived.Test.YtoophlkbngagcaaGreatDoorLenK
set_option linter.unusedSimpArgs false
set_option linter.unusedVariables false
namespace Go.Cl
open Go.Proofs
variable {W : World} {G : Nat → CV}
set_option maxRecDepth 8000
set_option maxHeartbeats 4000000
def ptC (u : UUnit) (p : Nat → Bool) (I : Nat → Nat → Bool) (k : UBlk) (j : Nat) : List CV := setC (mOf u) (beforeP u p I k (k.ops.drop (k.ops.length - j)))
theorem hset_none_iff {H : Hp} {r q : Nat} {o : Ob} : H.set q o r = none ↔ (r ≠ q ∧ H r = none) := by
  simp only [Hp.set]
  split
  · rename_i h; simp [h]
  · rename_i h; simp [h]
end Go.Cl
