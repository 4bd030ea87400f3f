/- DERIVED HERE. The reference's List, In, At. -/
import Derived.Test.YtoophlkbngagcaaDoorRB
import Derived.Test.YtoophlkbngagcaaDoorLLa
set_option linter.unusedSimpArgs false
set_option linter.unusedVariables false
namespace Go.Cl
open Go.Proofs
variable {W : World} {G : Nat → CV}
set_option maxRecDepth 8000
theorem before_bndN {u : UUnit} (hu : wfU u = true) {p : Nat → Bool} {I : Nat → Nat → Bool} (hI : BndN u I) {b : Nat} {k : UBlk} (hk : u.blocks[b]? = some k) : ∀ l, (∀ o ∈ l, o ∈ k.ops) → ∀ y, beforeP u p I k l y = true → y < u.regs.toNat := by
  obtain ⟨f1, f2, f3, f4, f5, f6, f7, f8, f9, f10, f11⟩ := wfU_facts hu
  obtain ⟨g1, g2, g3, g4⟩ := wfB_facts hu hk
  obtain ⟨w1, w2, w3, w4, w5⟩ := wfE_facts g4
  have hc : ∀ y, catchP u I k y = true → y < u.regs.toNat := fun y hy => by
    simp only [catchP, Bool.and_eq_true] at hy
    exact hI _ _ hy.2.2
  have he : ∀ y, endP u p I k y = true → y < u.regs.toNat := fun y hy => by
    simp only [endP, Bool.or_eq_true, Bool.and_eq_true, decide_eq_true_eq, beq_iff_eq] at hy
    rcases hy with ((hy | hy) | hy) | hy
    · exact hI _ _ hy.2
    · exact hI _ _ hy.2
    · exact hc _ hy.2
    · have := w3 hy.1; omega
  intro l
  induction l with
  | nil => exact fun _ => he
  | cons o l ih =>
    intro hl y hy
    obtain ⟨o1, o2, o3, o4, o5, o6, o7, o8, o9⟩ := wfO_facts (g3 o (hl o (List.mem_cons_self ..))) f3
    have hy : stepP u p I k o (beforeP u p I k l) y = true := hy
    simp only [stepP, Bool.or_eq_true, Bool.and_eq_true, List.any_eq_true, beq_iff_eq] at hy
    rcases hy with ((hy | hy) | hy) | ⟨z, hz, rfl⟩
    · exact ih (fun o ho => hl o (List.mem_cons_of_mem _ ho)) y hy.1
    · exact hI _ _ hy.2
    · exact hc _ hy.2
    · have := o3 z hz; omega
theorem upto_bnd {f : Nat → Bool} {n m : Nat} (h : ∀ x, f x = true → x < n) (hn : n ≤ m) : upto f m = upto f n := by
  have := upto_same f n (m - n) fun j _ => by
    cases hf : f (n + j) with
    | false => rfl
    | true => have := h _ hf; omega
  rwa [show n + (m - n) = m by omega] at this
structure rlI (H : Hp) (r n c : Nat) (f : Nat → Bool) (d : Nat) (m : Nat) (s' : CA) (H' : Hp) : Prop where
  ex : ∃ i i4 v, m = n - i ∧ i ≤ n ∧ s'.env 0 = .ref r 0 n c ∧ s'.env 3 = v ∧ s'.env 4 = .int .i64 i4 ∧ i4 + d = i ∧ s'.ds = [] ∧ Own H H' v 1 (ints (upto f i))
/-- What the reference says of a place. -/
structure RfR (u : UUnit) (L : (Nat → Bool) → (Nat → Nat → Bool) → List Int) (x : CE) (H' : Hp) : Prop where
  ex : ∃ p c I v, PLeast (opsOf u) p c ∧ LLeast u p I ∧ BndN u I ∧ x = .ret v ∧ SlF H' v (L p I)
end Go.Cl
