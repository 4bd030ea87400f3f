/- DERIVED HERE. The reference's small functions on kinds; Math; Do. DERIVED HERE. The reference's Operands. -/
import Derived.Test.YtoophlkbngagcaaDoorTAq
import Derived.Test.YtoophlkbngagcaaDoorDead
set_option linter.unusedSimpArgs false
set_option linter.unusedVariables false
namespace Go.Cl
open Go.Proofs Dd
variable {W : World} {G : Nat → CV}
def hA (k : Int) : Bool := decide (k ≠ 1) && decide (k ≠ 18)
def hB (k : Int) : Bool := (decide (3 ≤ k) && decide (k ≤ 15)) || decide (k = 17) || decide (k = 23) || decide (k = 24)
def hC (k : Int) : Bool := decide (k = 12)
theorem has_bits {k : Int} (h : isKind k = true) : hA k = uBit k 1 ∧ hB k = uBit k 2 ∧ hC k = uBit k 3 := by
  simp only [isKind, Bool.and_eq_true, decide_eq_true_eq] at h
  have kinds : k = 1 ∨ k = 2 ∨ k = 3 ∨ k = 4 ∨ k = 5 ∨ k = 6 ∨ k = 7 ∨ k = 8 ∨ k = 9 ∨ k = 10 ∨ k = 11 ∨ k = 12 ∨ k = 13 ∨ k = 14 ∨ k = 15 ∨ k = 16 ∨ k = 17 ∨ k = 18 ∨ k = 19 ∨ k = 20 ∨ k = 21 ∨ k = 22 ∨ k = 23 ∨ k = 24 ∨ k = 25 := by omega
  rcases kinds with k | k | k | k | k | k | k | k | k | k | k | k | k | k | k | k | k | k | k | k | k | k | k | k | k <;> subst k <;> exact ⟨rfl, rfl, rfl⟩
def sh63 (b : Int) : Int := IntKind.u64.wrap (zAnd .i64 b 63)
def mathM : MathF := fun k a b =>
  if k = 3 then (IntKind.i64.wrap (a + b), 0) else if k = 4 then (IntKind.i64.wrap (a - b), 0) else if k = 5 then (zAnd .i64 a b, 0) else if k = 6 then (zOr .i64 a b, 0) else if k = 7 then (zXor .i64 a b, 0)
  else if k = 8 then (zShl .i64 a (sh63 b), 0) else if k = 9 then (zShr .i64 a (sh63 b), 0) else if k = 10 then (if a < b then 1 else 0, 0) else if k = 11 then (if a = b then 1 else 0, 0) else if k = 13 then (IntKind.i64.wrap (a * b), 0)
  else if k = 14 then (if b = 0 then (0, -2) else (IntKind.i64.wrap (a.tdiv b), 0)) else if k = 15 then (if b = 0 then (0, -2) else (a.tmod b, 0)) else (0, 0)
theorem mathM_trap (k a b : Int) (h : (mathM k a b).2 ≠ 0) : k = 14 ∨ k = 15 := by
  by_cases h14 : k = 14
  · exact .inl h14
  by_cases h15 : k = 15
  · exact .inr h15
  refine absurd ?_ h
  simp only [mathM, if_neg h14, if_neg h15]
  repeat' split
  all_goals rfl
theorem u64_nonneg (x : Int) : 0 ≤ IntKind.u64.wrap x := by
  have h : IntKind.u64.wrap x = x % 18446744073709551616 := by simp [IntKind.wrap, IntKind.signed, IntKind.bits]
  rw [h]
  omega
/-! ### Do -/
def valC (v : Val) : List CV := [ci v.num, ci v.bad]
structure doM (r0 r1 r2 r4 : Nat) (H1 : Hp) (B : Int) (x11 x12 x13 : Option CV) (s' : CA) (H' : Hp) : Prop where
  e4 : s'.env 4 = .ptr r0 0
  e5 : s'.env 5 = .ptr r1 0
  e6 : s'.env 6 = .ptr r2 0
  e8 : s'.env 8 = .ptr r4 0
  e10 : s'.env 10 = ci B
  e11 : ∀ v, x11 = some v → s'.env 11 = v
  e12 : ∀ v, x12 = some v → s'.env 12 = v
  e13 : ∀ v, x13 = some v → s'.env 13 = v
  ds : s'.ds = []
  H : H' = H1
end Go.Cl
set_option linter.unusedSimpArgs false
set_option linter.unusedVariables false
namespace Go.Cl
open Go.Proofs Dd
variable {W : World} {G : Nat → CV}
set_option maxRecDepth 8000
theorem Own.slN {H0 H : Hp} {v : CV} {l : List Int} (h : Own H0 H v 1 (ints l)) : SlN H0 H v l := by
  obtain ⟨_, _, ⟨rfl, hx⟩ | ⟨q, c, ex, rfl, hq, hq2, _, hqc⟩⟩ := h
  · exact .inl ⟨rfl, by simpa [ints] using hx⟩
  · refine .inr ⟨q, c - l.length, _, by simp [ints] at hqc ⊢; omega, hq, hq2, fun k x hk => ?_⟩
    have := (List.getElem?_eq_some_iff.1 hk).1
    rw [ints_flat, List.getElem?_append_left (by simpa using this), List.getElem?_map, hk]
    rfl
structure oM (H1 : Hp) (r0 : Nat) (L : List Int) (s' : CA) (H' : Hp) : Prop where
  ex : ∃ v, s'.env 1 = .ptr r0 0 ∧ s'.env 3 = v ∧ s'.ds = [] ∧ Own H1 H' v 1 (ints L)
end Go.Cl
