/- DERIVED HERE. The clean layer: operations that may panic where a region draws its order: they stand behind all others. -/
import Derived.Test.YtoophlkbngagcaaGreatDoorClC
namespace Go.Cl
/-- The functions that may panic. -/
def pset (f : Nat) : Bool := f == 123 || f == 144
def isPanic : Op → Bool
  | .panic _ => true
  | .call c => (match c.callee with | .value (.func f) => pset f | _ => false)
  | _ => false
def isCallV (o : Op) : Bool := match o with
  | .call c => (match c.callee with | .value _ => !isPanic o | _ => false)
  | _ => false
theorem isPanic_ne {o : Op} (h : isPanic o = false) : ∀ x, o ≠ .panic x := by intro x hx; rw [hx] at h; cases h
theorem isPanic_eff {o : Op} (h : isPanic o = true) : clsO o = .eff := by
  cases o <;> simp only [isPanic, Bool.false_eq_true] at h
  · rename_i c
    simp only [clsO, smallB]
    cases hc : c.callee <;> simp [hc] at h ⊢
  · rfl
theorem isPanic_of {o : Op} (hc : clsO o ≠ .eff) : isPanic o = false := by
  cases h : isPanic o
  · rfl
  · exact absurd (isPanic_eff h) hc
theorem isCallV_np {o : Op} (h : isCallV o = true) : isPanic o = false := by
  cases o <;> simp only [isCallV, Bool.false_eq_true] at h
  rename_i c
  cases hc : c.callee <;> simp only [hc, Bool.false_eq_true] at h
  simpa using h
end Go.Cl
