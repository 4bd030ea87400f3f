/- DERIVED HERE. right, of, At, In, All on frozen units. -/
import Derived.Test.YtiohgpapgkjfiaaGreatDoorTB
set_option linter.unusedSimpArgs false
set_option linter.unusedVariables false
namespace Go.Cl
open Go.Proofs
variable {W : World} {G : Nat → CV}
set_option maxRecDepth 8000
theorem fz1 {H : Hp} {x y : CV} (h : Fz H x y) : ∀ (i : Nat) a b, [x][i]? = some a → [y][i]? = some b → Fz H a b := by
  intro i a b ha hb
  cases i with
  | zero => simp at ha hb; subst ha; subst hb; exact h
  | succ i => simp at ha
theorem fz2 {H : Hp} {x y x' y' : CV} (h : Fz H x y) (h' : Fz H x' y') : ∀ (i : Nat) a b, [x, x'][i]? = some a → [y, y'][i]? = some b → Fz H a b := by
  intro i a b ha hb
  rcases i with _|_|i
  · simp at ha hb; subst ha; subst hb; exact h
  · simp at ha hb; subst ha; subst hb; exact h'
  · simp at ha
theorem check_ef (hX : CxOk (cx W G)) (hG : G 0 = .iptr formsC) {u : UUnit} (hu : UOk u) {H : Hp} {cs : List CV} (hf : Fz H (.agg cs) (.agg (unitC u))) : CC Tryz.prog W 46 [.agg cs] H fun x H' => x = .ret (ci (errU u)) ∧ H' = H := by
  refine (CC.freeze (args' := [.agg (unitC u)]) (R := fun v => v = ci (errU u)) (by rfl) (fz1 hf) (by rintro v rfl; simp [plainV]) fun w hw => ?_).mono ?_
  · exact (check_e (W := w) (CxOk.later hX hw) hG u hu _).mono fun x H' ⟨h1, _⟩ => ⟨_, h1, rfl⟩
  · rintro x H' ⟨v, rfl, rfl, rfl⟩
    exact ⟨rfl, rfl⟩
end Go.Cl
