/- DERIVED HERE. live.At, In and Last of any place. -/
import Derived.Test.YtoophlkbngagcaaGreatDoorTAq
import Derived.Test.YtoophlkbngagcaaGreatDoorLQ
import Derived.Test.YtoophlkbngagcaaGreatDoorLAf
set_option linter.unusedSimpArgs false
set_option linter.unusedVariables false
namespace Go.Cl
open Go.Proofs
variable {W : World} {G : Nat → CV}
set_option maxRecDepth 8000
/-- No such place. -/
def noPl (u : UUnit) (b i : Int) : Prop := b < 0 ∨ (u.blocks.length : Int) ≤ b ∨ i < 0 ∨ ∃ k, u.blocks[b.toNat]? = some k ∧ (k.ops.length : Int) < i
theorem notBad {u : UUnit} {b i : Int} (h : ¬ noPl u b i) : ∃ (bn n : Nat) (k : UBlk), b = bn ∧ i = n ∧ u.blocks[bn]? = some k ∧ n ≤ k.ops.length := by
  simp only [noPl, not_or, not_exists, not_and] at h
  obtain ⟨h1, h2, h3, h4⟩ := h
  have hb : b.toNat < u.blocks.length := by omega
  have h5 := h4 _ (List.getElem?_eq_getElem hb)
  exact ⟨b.toNat, i.toNat, _, by omega, by omega, List.getElem?_eq_getElem hb, by omega⟩
/-- What is said of a place: an error, or a list of numbers. -/
structure AtR (u : UUnit) (b i : Int) (L : (Nat → Bool) → (Nat → Nat → Bool) → UBlk → Nat → List Int) (x : CE) (H' : Hp) : Prop where
  er : errU u ≠ 0 → x = .ret (.tuple [.nilsl, ci (errU u)])
  no : errU u = 0 → noPl u b i → x = .ret (.tuple [.nilsl, ci 2])
  ok : errU u = 0 → ∀ (bn n : Nat) k, b = bn → i = n → u.blocks[bn]? = some k → n ≤ k.ops.length → ∃ p c I v, PLeast (opsOf u) p c ∧ LLeast u p I ∧ Bnd u I ∧ x = .ret (.tuple [v, ci 0]) ∧ SlF H' v (L p I k n)
section
variable {u : UUnit} {b i : Int} {L : (Nat → Bool) → (Nat → Nat → Bool) → UBlk → Nat → List Int} {x : CE} {H' : Hp}
theorem tup2_free {v : CV} {n : Int} (h : Free v) : FreeEnd (.ret (.tuple [v, ci n])) := by
  simp only [FreeEnd]
  refine .tuple _ fun i x hx => ?_
  rcases i with _|_|i
  · simp at hx; subst hx; exact h
  · simp at hx; subst hx; constructor
  · simp at hx
theorem AtR.free (h : AtR u b i L x H') : FreeEnd x := by
  by_cases he : errU u = 0
  · by_cases hb : noPl u b i
    · rw [h.no he hb]; exact tup2_free .nilsl
    · obtain ⟨bn, n, k, rfl, rfl, hk, hn⟩ := notBad hb
      obtain ⟨p, c, I, v, _, _, _, rfl, h5⟩ := h.ok he bn n k rfl rfl hk hn
      exact tup2_free h5.free
  · rw [h.er he]; exact tup2_free .nilsl
theorem AtR.wkm {H2 : Hp} (h : AtR u b i L x H') (hl : Le (wkH H') H2) : AtR u b i L x H2 :=
  ⟨h.er, h.no, fun he bn n k h1 h2 hk hn => by
    obtain ⟨p, c, I, v, a1, a2, a3, a4, a5⟩ := h.ok he bn n k h1 h2 hk hn
    exact ⟨p, c, I, v, a1, a2, a3, a4, a5.wk.mono hl⟩⟩
end
end Go.Cl
