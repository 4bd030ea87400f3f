/- DERIVED HERE. Sets read in what nobody writes; Clone, Equal. DERIVED HERE. What is live: caught, end, before. DERIVED HERE. What is live: before an operation. DERIVED HERE. What is live before an operation of a block: the walk backward through it. DERIVED HERE. The list of a set. -/
import Derived.Test.YtiohgpapgkjfiaaGreatDoorUM
import Derived.Test.YtiohgpapgkjfiaaGreatDoorS2
set_option linter.unusedSimpArgs false
set_option linter.unusedVariables false
namespace Go.Cl
open Go.Proofs
variable {W : World} {G : Nat → CV}
set_option maxRecDepth 8000
end Go.Cl
set_option linter.unusedSimpArgs false
set_option linter.unusedVariables false
namespace Go.Cl
open Go.Proofs
variable {W : World} {G : Nat → CV}
set_option maxRecDepth 8000
def liveS (n m : Nat) (I : Nat → Nat → Bool) : List (List CV) := (List.range n).map fun b => [.sl 1 (setS m (I b))]
theorem liveS_ex {n m : Nat} {I : Nat → Nat → Bool} {i : Nat} {P : List CV → Prop} : (∃ e, (liveS n m I)[i]? = some e ∧ P e) = (i < n ∧ P [.sl 1 (setS m (I i))]) := by
  simp only [liveS, List.getElem?_map, eq_iff_iff]
  rcases Nat.lt_or_ge i n with h | h
  · rw [List.getElem?_range h]; simp [h]
  · rw [List.getElem?_eq_none (by simpa using h)]; simp [show ¬ i < n by omega]
attribute [simp ↓] liveS_ex
def mayC (pn : Nat) (p : Nat → Bool) (cn : Nat) (c : Nat → Bool) : List CV := [.sl 1 (boolS pn p), .sl 1 (boolS cn c)]
def liveC (u : UUnit) (pn : Nat) (p : Nat → Bool) (cn : Nat) (c : Nat → Bool) (I : Nat → Nat → Bool) : List CV := unitC u ++ (mayC pn p cn c ++ [.sl 1 (liveS u.blocks.length (mOf u) I)])
theorem hset_self {H : Hp} {r : Nat} {o : Ob} (h : H r = some o) : H.set r o = H := by
  funext i
  simp only [Hp.set]
  split
  · rename_i e; rw [e, h]
  · rfl
theorem Eq.le_hp {A B : Hp} (h : A = B) : Le A B := h ▸ Le.refl A
theorem ints_flat (l : List Int) : (ints l).flatten = l.map ci := by
  induction l with
  | nil => rfl
  | cons x l ih => simp only [ints, List.map_cons, List.flatten_cons] at ih ⊢; rw [ih]; rfl
theorem set_le {A B : Hp} {r : Nat} {o o' : Ob} (h : Le (A.set r o) B) : Le (A.set r o') (B.set r o') := by
  have := Le.set (r := r) (o := o') h
  rwa [set_set] at this
end Go.Cl
set_option linter.unusedSimpArgs false
set_option linter.unusedVariables false
namespace Go.Cl
open Go.Proofs
variable {W : World} {G : Nat → CV}
set_option maxRecDepth 8000
end Go.Cl
set_option linter.unusedSimpArgs false
set_option linter.unusedVariables false
namespace Go.Cl
open Go.Proofs
variable {W : World} {G : Nat → CV}
set_option maxRecDepth 8000
end Go.Cl
set_option linter.unusedSimpArgs false
set_option linter.unusedVariables false
namespace Go.Cl
open Go.Proofs
variable {W : World} {G : Nat → CV}
set_option maxRecDepth 8000
def upto (f : Nat → Bool) (n : Nat) : List Int := ((List.range n).filter f).map Int.ofNat
end Go.Cl
