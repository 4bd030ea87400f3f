/- DERIVED HERE. The law's small functions. DERIVED HERE. What the law calls, on units that lie in blocks. DERIVED HERE. The law's example. -/
import Derived.Test.YtiohgpapgkjfiaaGreatDoorTC
set_option linter.unusedSimpArgs false
set_option linter.unusedVariables false
namespace Go.Cl
open Go.Proofs
variable {W : World} {G : Nat → CV}
set_option maxRecDepth 8000
theorem endTo_c (hX : CxOk (cx W G)) (k : Int) (H : Hp) : CC Tryz.prog W 78 [ci k] H fun x H' => x = .ret (.bool (decide (k = 1) || decide (k = 2))) ∧ H' = H := by
  refine CC.at0 ?_ H
  refine CC.of_ev hX mixed d78 Tryz.func78 rfl rfl (Nat.le_of_ble_eq_true rfl) d78_ok ?_
  simp [Tryz.f78, d78]
  exact ⟨fun h => by simp [h], fun h => by simp [h, decide_beq]⟩
theorem endElse_c (hX : CxOk (cx W G)) (k : Int) (H : Hp) : CC Tryz.prog W 79 [ci k] H fun x H' => x = .ret (.bool (decide (k = 2))) ∧ H' = H := by
  refine CC.at0 ?_ H
  refine CC.of_ev hX mixed d79 Tryz.func79 rfl rfl (Nat.le_of_ble_eq_true rfl) d79_ok ?_
  simp [Tryz.f79, d79, decide_beq]
theorem ints_get {l : List Int} {k : Nat} {x : Int} (h : l[k]? = some x) : (ints l)[k]? = some [ci x] := by simp [ints, h]
theorem ints_at {l : List Int} {k : Nat} {x : Int} (h : l[k]? = some x) (hk : k < (ints l).length) : (ints l)[k] = [ci x] := by
  have := ints_get h
  rw [List.getElem?_eq_getElem hk] at this
  injection this
end Go.Cl
set_option linter.unusedSimpArgs false
set_option linter.unusedVariables false
namespace Go.Cl
open Go.Proofs
variable {W : World} {G : Nat → CV}
set_option maxRecDepth 8000
theorem LLeast.fix {u : UUnit} {p : Nat → Bool} {I : Nat → Nat → Bool} (h : LLeast u p I) {b : Nat} (hb : b < u.blocks.length) : FP u p I b = I b := by
  refine (h.1 b hb).antisymm ?_
  have h2 := h.2 (fun i => if i < u.blocks.length then FP u p I i else fun _ => false) (fun i hi => by
    simp only [hi, if_true]
    refine FP_mono (fun j x hx => ?_) i
    split at hx
    · rename_i hj; exact h.1 j hj x hx
    · cases hx) b
  simpa [hb] using h2
end Go.Cl
set_option linter.unusedSimpArgs false
set_option linter.unusedVariables false
namespace Go.Cl
open Go.Proofs
variable {W : World} {G : Nat → CV}
set_option maxRecDepth 8000
def exO1 : UOp := ⟨1, 1, 0, 0, 0, 2, -1⟩
def exO2 : UOp := ⟨13, 2, 0, 1, 0, 0, -1⟩
def exB : UBlk := ⟨[exO1, exO2], ⟨3, 2, 0, 0⟩, -1⟩
def exU : UUnit := ⟨[], 1, 3, 0, 0, [exB]⟩
theorem ex0 (p : Nat → Bool) (I : Nat → Nat → Bool) : beforeP exU p I exB [] = fun r => r == 2 := by
  funext r
  simp [beforeP, endP, exB, goes, branches, catchP]
theorem ex1 (p : Nat → Bool) (I : Nat → Nat → Bool) : beforeP exU p I exB [exO2] = fun r => r == 0 || r == 1 := by
  have h : beforeP exU p I exB [exO2] = stepP exU p I exB exO2 (beforeP exU p I exB []) := rfl
  rw [h, ex0]
  funext r
  have e1 : writeOf exO2 = 2 := by decide
  have e2 : allReads exO2 = [0, 1] := by decide
  simp [stepP, exB, catchP, e1, e2]
  simp [exO2]
theorem ex2 (p : Nat → Bool) (I : Nat → Nat → Bool) : beforeP exU p I exB [exO1, exO2] = fun r => r == 0 := by
  have h : beforeP exU p I exB [exO1, exO2] = stepP exU p I exB exO1 (beforeP exU p I exB [exO2]) := rfl
  rw [h, ex1]
  funext r
  have e1 : writeOf exO1 = 1 := by decide
  have e2 : allReads exO1 = [] := by decide
  simp [stepP, exB, catchP, e1, e2]
  simp [exO1]
  cases h0 : r == 0 <;> cases h1 : r == 1 <;> simp_all
end Go.Cl
