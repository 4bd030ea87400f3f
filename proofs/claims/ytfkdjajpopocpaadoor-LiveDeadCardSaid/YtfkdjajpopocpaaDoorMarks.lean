/- DERIVED HERE. The clean layer: a frame's marks of loops over functions, and what is held besides. -/
import Derived.Test.YtfkdjajpopocpaaDoorS2
set_option linter.unusedSimpArgs false
set_option linter.unusedVariables false
namespace Go.Cl
open Go.Proofs
def cutH (H : Hp) (r : Nat) : Hp := fun i => if i = r then none else H i
/-- The marks lie in H, each at a place of its own; B is held besides. -/
def MarksOk : List CD → Hp → Hp → Prop
  | [], H, B => Le B H
  | .mark r :: ds, H, B => H r = some .dfr ∧ MarksOk ds (cutH H r) B
  | .call _ _ _ :: _, _, _ => False
theorem MarksOk.le : ∀ {ds : List CD} {H B : Hp}, MarksOk ds H B → Le B H
  | [], H, B, h => h
  | .mark r :: ds, H, B, h => fun i o hi => by
    have := MarksOk.le h.2 i o hi
    simp only [cutH] at this
    split at this
    · cases this
    · exact this
  | .call _ _ _ :: _, _, _, h => h.elim
theorem MarksOk.mono : ∀ {ds : List CD} {H H' B : Hp}, MarksOk ds H B → Le H H' → MarksOk ds H' B
  | [], H, H', B, h, hl => Le.trans h hl
  | .mark r :: ds, H, H', B, h, hl => ⟨hl _ _ h.1, MarksOk.mono h.2 fun i o hi => by
      simp only [cutH] at hi ⊢
      split at hi
      · cases hi
      · rename_i e; rw [if_neg e]; exact hl i o hi⟩
  | .call _ _ _ :: _, _, _, _, h, _ => h.elim
theorem MarksOk.less : ∀ {ds : List CD} {H B B' : Hp}, MarksOk ds H B → Le B' B → MarksOk ds H B'
  | [], H, B, B', h, hl => Le.trans hl h
  | .mark r :: ds, H, B, B', h, hl => ⟨h.1, MarksOk.less h.2 hl⟩
  | .call _ _ _ :: _, _, _, _, h, _ => h.elim
theorem MarksOk.set : ∀ {ds : List CD} {H B : Hp} {q : Nat} {o : Ob}, MarksOk ds H B → (H q = none ∨ B q ≠ none) → MarksOk ds (H.set q o) (B.set q o)
  | [], H, B, q, o, h, _ => Le.set h
  | .mark r :: ds, H, B, q, o, h, hq => by
    have hne : r ≠ q := fun e => by
      subst e
      rcases hq with hq | hq
      · rw [h.1] at hq; cases hq
      · cases hb : B r with
        | none => exact hq hb
        | some x =>
          have := h.2.le r x hb
          simp [cutH] at this
    have hc : cutH (H.set q o) r = (cutH H r).set q o := by
      funext i
      simp only [cutH, Hp.set]
      by_cases e : i = r
      · subst e; simp [hne]
      · simp [e]
    refine ⟨by simp only [Hp.set]; rw [if_neg hne]; exact h.1, ?_⟩
    rw [hc]
    refine MarksOk.set h.2 ?_
    rcases hq with hq | hq
    · left; simp only [cutH]; split <;> first | rfl | exact hq
    · exact .inr hq
  | .call _ _ _ :: _, _, _, _, _, h, _ => h.elim
theorem MarksOk.push {ds : List CD} {H B : Hp} {d : Nat} (h : MarksOk ds H B) (hd : H d = none) : MarksOk (.mark d :: ds) (H.set d .dfr) B := by
  refine ⟨by simp [Hp.set], ?_⟩
  have : cutH (H.set d .dfr) d = H := by
    funext i
    simp only [cutH, Hp.set]
    by_cases e : i = d
    · subst e; simp [hd]
    · simp [e]
  rw [this]
  exact h
theorem leave_marks {X : Cx} {N : Nat} {rs : List ResultVar} {R : CE → Hp → Prop} {s : CA} {B : Hp} (hR : ∀ H', Le B H' → vcRes X N rs s.env H' [] fun vs => R (.ret (oneC vs)) H') : ∀ {ds : List CD} {H : Hp}, MarksOk ds H B → leaveQ X N rs R ds s H
  | [], H, h => hR H h
  | .mark r :: ds, H, h => ⟨h.1, leave_marks hR h.2⟩
  | .call _ _ _ :: _, _, h => h.elim
theorem MarksOk.get {ds : List CD} {H B : Hp} (h : MarksOk ds H B) {q : Nat} {o : Ob} (hq : B q = some o) : H q = some o := h.le q o hq
end Go.Cl
