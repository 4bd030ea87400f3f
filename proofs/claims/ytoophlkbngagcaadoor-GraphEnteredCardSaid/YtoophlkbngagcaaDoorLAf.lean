/- DERIVED HERE. What is live after an operation, or an End: the program's after. -/
import Derived.Test.YtoophlkbngagcaaDoorNM
import Derived.Test.YtoophlkbngagcaaDoorRB
set_option linter.unusedSimpArgs false
set_option linter.unusedVariables false
namespace Go.Cl
open Go.Proofs
variable {W : World} {G : Nat → CV}
set_option maxRecDepth 8000
/-- What is live after an operation, or an End, wherever it goes. -/
def afterP (u : UUnit) (p : Nat → Bool) (I : Nat → Nat → Bool) (k : UBlk) (i : Nat) : Nat → Bool := match k.ops[i]? with
  | some o => fun x => beforeP u p I k (k.ops.drop (i + 1)) x || asideP u p I k o x
  | none => behP u p I k
structure afM (L : CV) (b i r q m : Nat) (bl : List CV) (B : Hp) (f : Nat → Bool) (s' : CA) (H' : Hp) : Prop where
  e0 : s'.env 0 = L
  e1 : s'.env 1 = .int .i64 b
  e2 : s'.env 2 = .int .i64 i
  e7 : s'.env 7 = .ptr q 0
  e8 : s'.env 8 = .ref r 0 m m
  d : s'.ds = []
  hr : H' r = some (.cells (setC m f))
  hq : H' q = some (.cells bl)
  le : Le (B.set r (.cells (setC m f))) H'
structure afE (L : CV) (b i r q m q9 : Nat) (bl en : List CV) (B : Hp) (f : Nat → Bool) (s' : CA) (H' : Hp) : Prop where
  m : afM L b i r q m bl B f s' H'
  e9 : s'.env 9 = .ptr q9 0
  n : H' q9 = some (.cells en)
structure afO (L : CV) (b i r q m q10 : Nat) (bl op : List CV) (B : Hp) (f : Nat → Bool) (s' : CA) (H' : Hp) : Prop where
  m : afM L b i r q m bl B f s' H'
  e10 : s'.env 10 = .ptr q10 0
  n : H' q10 = some (.cells op)
end Go.Cl
