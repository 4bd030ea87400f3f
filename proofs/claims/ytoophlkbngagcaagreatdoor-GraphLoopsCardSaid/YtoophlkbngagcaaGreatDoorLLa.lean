/- DERIVED HERE. live.Last. -/
import Derived.Test.YtoophlkbngagcaaGreatDoorLLs
set_option linter.unusedSimpArgs false
set_option linter.unusedVariables false
namespace Go.Cl
open Go.Proofs
variable {W : World} {G : Nat → CV}
set_option maxRecDepth 8000
structure ltD (B : Hp) (l : List Int) (s' : CA) (H' : Hp) : Prop where
  ex : ∃ v, s'.env 11 = v ∧ s'.ds = [] ∧ Le B H' ∧ ((v = .nilsl ∧ l = []) ∨ ∃ r c ex, v = .ref r 0 l.length c ∧ l.length ≤ c ∧ B r = none ∧ H' r = some (.cells (nums l ex)))
theorem ltD.to {B : Hp} {l : List Int} {e : Env} {v : CV} {H' : Hp} (h1 : e 11 = v) (h2 : Le B H') (h3 : (v = .nilsl ∧ l = []) ∨ ∃ r c ex, v = .ref r 0 l.length c ∧ l.length ≤ c ∧ B r = none ∧ H' r = some (.cells (nums l ex))) : ltD B l ⟨e, []⟩ H' := ⟨v, h1, rfl, h2, h3⟩
theorem nums_slF {H : Hp} {r c : Nat} {l : List Int} {ex : List CV} (hc : l.length ≤ c) (h : H r = some (.cells (nums l ex))) : SlF H (.ref r 0 l.length c) l :=
  .inr ⟨r, c - l.length, _, by rw [show l.length + (c - l.length) = c by omega], h, fun k x hk => by
    have := (List.getElem?_eq_some_iff.1 hk).1
    rw [nums, List.getElem?_append_left (by simpa using this), List.getElem?_map, hk]
    rfl⟩
theorem Own.cases {B H : Hp} {v : CV} {l : List Int} (h : Own B H v 1 (ints l)) : (v = .nilsl ∧ l = []) ∨ ∃ r c ex, v = .ref r 0 l.length c ∧ l.length ≤ c ∧ B r = none ∧ H r = some (.cells (nums l ex)) := by
  obtain ⟨_, _, ⟨rfl, hx⟩ | ⟨r, c, ex, rfl, h1, h2, _, h4⟩⟩ := h
  · exact .inl ⟨rfl, by simpa [ints] using hx⟩
  · refine .inr ⟨r, c, ex, by simp [ints], by simpa [ints] using h4, h1, ?_⟩
    rw [ints_flat] at h2
    exact h2
theorem fz3' {H : Hp} {x y : CV} (h : Fz H x y) (a b : CV) : ∀ (i : Nat) p q, [x, a, b][i]? = some p → [y, a, b][i]? = some q → Fz H p q := by
  intro i p q hp hq
  rcases i with _|_|_|i
  · simp at hp hq; subst hp; subst hq; exact h
  · simp at hp hq; subst hp; subst hq; exact .same _
  · simp at hp hq; subst hp; subst hq; exact .same _
  · simp at hp
theorem fz2' {H : Hp} {x y : CV} (h : Fz H x y) (a : CV) : ∀ (i : Nat) p q, [x, a][i]? = some p → [y, a][i]? = some q → Fz H p q := by
  intro i p q hp hq
  rcases i with _|_|i
  · simp at hp hq; subst hp; subst hq; exact h
  · simp at hp hq; subst hp; subst hq; exact .same _
  · simp at hp
end Go.Cl
