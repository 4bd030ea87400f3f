/- DERIVED HERE. Sets of numbers as rows of words: the plain side. DERIVED HERE. What the functions of live.Set do. DERIVED HERE. The iterators: slices.Backward, code.Ops. -/
import Derived.Test.YtiohgpapgkjfiaaGreatDoorS0
import Derived.Test.YtiohgpapgkjfiaaGreatDoorClE
set_option linter.unusedSimpArgs false
set_option linter.unusedVariables false
namespace Go.Cl
/-- The first n bits of a row of bits, as a number. -/
def bitsN (f : Nat → Bool) : Nat → Nat
  | 0 => 0
  | n + 1 => (if f n then 2 ^ n else 0) + bitsN f n
/-- The i-th word of a set. -/
def word (f : Nat → Bool) (i : Nat) : Nat := bitsN (fun k => f (64 * i + k)) 64
/-- The cells of a set of m words. -/
def setC (m : Nat) (f : Nat → Bool) : List CV := (List.range m).map fun i => .int .u64 (word f i)
theorem setC_len (m : Nat) (f : Nat → Bool) : (setC m f).length = m := by simp [setC]
theorem setC_get {m : Nat} {f : Nat → Bool} {i : Nat} (h : i < m) : (setC m f)[i]? = some (.int .u64 (word f i)) := by simp [setC, h]
/-! what the machine's operations on words come to -/
theorem take_drop_set {α : Type} {l : List α} {i : Nat} {v : α} (h : i < l.length) : l.take i ++ v :: l.drop (i + 1) = l.set i v := by
  rw [List.set_eq_take_append_cons_drop, if_pos h]
end Go.Cl
set_option linter.unusedSimpArgs false
namespace Go.Cl
open Go.Proofs
variable {W : World} {G : Nat → CV}
end Go.Cl
set_option linter.unusedSimpArgs false
set_option linter.unusedVariables false
namespace Go.Cl
open Go.Proofs
variable {W : World} {G : Nat → CV}
def boxed (q : Nat) (cs : List CV) : Hp → Prop := fun H => H q = some (.cells cs)
theorem boxed_up {q : Nat} {cs : List CV} : ∀ (H : Hp) r o, H r = none → boxed q cs H → boxed q cs (H.set r o) := fun H r o h hb => Le.set_new h q _ hb
end Go.Cl
