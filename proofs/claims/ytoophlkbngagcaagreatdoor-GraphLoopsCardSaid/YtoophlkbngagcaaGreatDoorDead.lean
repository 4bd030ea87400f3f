/- DERIVED HERE. Runs of a unit; a register that is not live may be changed. No program in sight. -/
import Derived.Test.YtoophlkbngagcaaGreatDoorPlain
set_option linter.unusedSimpArgs false
set_option linter.unusedVariables false
namespace Go.Cl.Dd
structure Val where
  num : Int
  bad : Int
  deriving DecidableEq
structure Outc where
  prints : List Int
  kind : Int
  value : Int
  deriving DecidableEq
structure Eng where
  regs : Nat → Val
  cells : Nat → List Int
  kept : Nat → Val
  block : Nat
  pc : Nat
  steps : Int
  out : Outc
  done : Bool
def fset {α : Type} (f : Nat → α) (i : Nat) (v : α) : Nat → α := fun j => if j = i then v else f j
def v0 : Val := ⟨0, 0⟩
/-- What an operation of two numbers makes, and the trap's number. -/
abbrev MathF := Int → Int → Int → Int × Int
def isArr (k : Int) : Bool := decide (k = 16) || decide (k = 17) || decide (k = 25)
/-- What is live where a run stands. -/
def liveAt (u : UUnit) (p : Nat → Bool) (I : Nat → Nat → Bool) (b pc : Nat) : Nat → Bool := beforeP u p I (blkAt u b) ((blkAt u b).ops.drop pc)
structure SInv (u : UUnit) (p c : Nat → Bool) (e : Eng) : Prop where
  b : e.block < u.blocks.length
  pc : e.pc ≤ (blkAt u e.block).ops.length
  r : ∀ i, (e.regs i).bad ≠ 0 → p i = true
  k : ∀ i, (e.kept i).bad ≠ 0 → c i = true
structure Sim (u : UUnit) (p : Nat → Bool) (I : Nat → Nat → Bool) (e f : Eng) : Prop where
  cells : e.cells = f.cells
  kept : e.kept = f.kept
  block : e.block = f.block
  pc : e.pc = f.pc
  steps : e.steps = f.steps
  out : e.out = f.out
  done : e.done = f.done
  regs : e.done = false → ∀ i, liveAt u p I e.block e.pc i = true → e.regs i = f.regs i
section
variable {M : MathF} {u : UUnit} {p c : Nat → Bool} {I : Nat → Nat → Bool}
/-- Two runs that agree, in the registers of a set. -/
structure Agr (S : Nat → Bool) (e f : Eng) : Prop where
  cells : e.cells = f.cells
  kept : e.kept = f.kept
  block : e.block = f.block
  pc : e.pc = f.pc
  steps : e.steps = f.steps
  out : e.out = f.out
  done : e.done = f.done
  regs : ∀ i, S i = true → e.regs i = f.regs i
theorem Agr.sub {S T : Nat → Bool} {e f : Eng} (h : Agr S e f) (hs : Sub T S) : Agr T e f := { h with regs := fun i hi => h.regs i (hs i hi) }
structure PInv (p c : Nat → Bool) (e : Eng) : Prop where
  r : ∀ i, (e.regs i).bad ≠ 0 → p i = true
  k : ∀ i, (e.kept i).bad ≠ 0 → c i = true
theorem PInv.set {e : Eng} (h : PInv p c e) {i : Nat} {v : Val} (hv : v.bad ≠ 0 → p i = true) : PInv p c { e with regs := fset e.regs i v } :=
  ⟨fun j => by
    simp only [fset]
    split
    · rename_i k; subst k; exact hv
    · exact h.r j, h.k⟩
/-- Both: the same, and where they stand is in the unit. -/
structure Good (u : UUnit) (p c : Nat → Bool) (I : Nat → Nat → Bool) (e f : Eng) : Prop where
  sim : Sim u p I e f
  e1 : SInv u p c e
  f1 : SInv u p c f
theorem stepT {b : UBlk} {o : UOp} {S : Nat → Bool} (ht : mayTrap p o = true) : Sub (catchP u I b) (stepP u p I b o S) := fun i hi => by
  simp only [stepP, ht, hi, Bool.and_self, Bool.or_true, Bool.true_or]
theorem reads_all {o : UOp} {x : Int} (h : x ∈ reads o) : x ∈ allReads o := by
  simp only [allReads]
  split
  · exact h
  · exact List.mem_cons_of_mem _ h
end
end Go.Cl.Dd
