/- DERIVED HERE. Runs of a unit; a register that is not live may be changed. No program in sight. -/
import Derived.Test.YtiohgpapgkjfiaaGreatDoorPlain
set_option linter.unusedSimpArgs false
set_option linter.unusedVariables false
namespace Go.Cl.Dd
structure Val where
  num : Int
  bad : Int
  deriving DecidableEq
structure Outc where
  prints : List Int
  kind : Int
  value : Int
  deriving DecidableEq
structure Eng where
  regs : Nat → Val
  cells : Nat → List Int
  kept : Nat → Val
  block : Nat
  pc : Nat
  steps : Int
  out : Outc
  done : Bool
def fset {α : Type} (f : Nat → α) (i : Nat) (v : α) : Nat → α := fun j => if j = i then v else f j
def v0 : Val := ⟨0, 0⟩
/-- What an operation of two numbers makes, and the trap's number. -/
abbrev MathF := Int → Int → Int → Int × Int
def isDo (k : Int) : Bool := (decide (1 ≤ k) && decide (k ≤ 15)) || decide (k = 23) || decide (k = 24)
def bad2 (x y : Val) : Int := if x.bad = 0 then y.bad else x.bad
def early (k : Int) : Bool := decide (k = 23) || decide (k = 24)
def baseK (k : Int) : Int := if early k then k - 9 else k
def finV (k bad : Int) : Val × Int := if (baseK k = 14 ∨ baseK k = 15) ∧ early k = false then (v0, bad) else (⟨0, bad⟩, 0)
def arithV (M : MathF) (k : Int) (a b : Val) : Val × Int :=
  if bad2 a b = 0 then (if (M (baseK k) a.num b.num).2 = 0 then (⟨(M (baseK k) a.num b.num).1, 0⟩, 0) else finV k (M (baseK k) a.num b.num).2) else finV k (bad2 a b)
def doV (M : MathF) (o : UOp) (a b c : Val) : Val × Int :=
  if o.kind = 1 then (⟨o.n, 0⟩, 0)
  else if o.kind = 2 then (a, 0)
  else if o.kind = 12 then (if a.bad ≠ 0 then (⟨0, a.bad⟩, 0) else if a.num ≠ 0 then (b, 0) else (c, 0))
  else arithV M o.kind a b
def enterE (b : Nat) (e : Eng) : Eng := { e with block := b, pc := 0 }
def endE (k v : Int) (e : Eng) : Eng := { e with out := { e.out with kind := k, value := v }, done := true }
def trapE (u : UUnit) (n : Int) (e : Eng) : Eng :=
  if (blkAt u e.block).catch_ < 0 then endE 2 n e else enterE (blkAt u e.block).catch_.toNat { e with regs := fset e.regs u.code.toNat ⟨n, 0⟩ }
def opnd (e : Eng) (o : UOp) (i : Nat) : Val := match (reads o)[i]? with | some r => e.regs r.toNat | none => v0
def isArr (k : Int) : Bool := decide (k = 16) || decide (k = 17) || decide (k = 25)
def badE (o : UOp) (e : Eng) (x y : Val) : Int :=
  let bad := if x.bad = 0 then y.bad else x.bad
  if isArr o.kind && decide (bad = 0) && (decide (x.num < 0) || decide (((e.cells o.n.toNat).length : Int) ≤ x.num)) then -1 else bad
def memE (u : UUnit) (o : UOp) (e : Eng) : Eng :=
  if o.kind = 18 then { e with regs := fset e.regs o.dst.toNat (e.kept o.n.toNat) }
  else if o.kind = 19 then { e with kept := fset e.kept o.n.toNat (opnd e o 0) }
  else
    let bad := badE o e (opnd e o 0) (opnd e o 1)
    if o.kind = 25 ∧ bad ≠ 0 then { e with regs := fset e.regs o.dst.toNat ⟨0, bad⟩ }
    else if bad ≠ 0 then trapE u bad e
    else if o.kind = 16 ∨ o.kind = 25 then { e with regs := fset e.regs o.dst.toNat ⟨(e.cells o.n.toNat).getD (opnd e o 0).num.toNat 0, 0⟩ }
    else if o.kind = 17 then { e with cells := fset e.cells o.n.toNat ((e.cells o.n.toNat).set (opnd e o 0).num.toNat (opnd e o 1).num) }
    else if o.kind = 20 then { e with out := { e.out with prints := e.out.prints ++ [(opnd e o 0).num] } }
    else if o.kind = 21 ∧ (opnd e o 0).num ≠ 0 then enterE o.n.toNat e
    else e
def bodyE (M : MathF) (u : UUnit) (o : UOp) (e : Eng) : Eng :=
  if isDo o.kind then
    let r := doV M o (opnd e o 0) (opnd e o 1) (opnd e o 2)
    if r.2 ≠ 0 then trapE u r.2 e else { e with regs := fset e.regs o.dst.toNat r.1 }
  else memE u o e
def opE (M : MathF) (u : UUnit) (o : UOp) (e : Eng) : Eng :=
  if 0 ≤ o.guard ∧ (e.regs o.guard.toNat).bad ≠ 0 then trapE u (e.regs o.guard.toNat).bad e
  else if 0 ≤ o.guard ∧ (e.regs o.guard.toNat).num = 0 then e
  else bodyE M u o e
/-- What is live where a run stands. -/
def liveAt (u : UUnit) (p : Nat → Bool) (I : Nat → Nat → Bool) (b pc : Nat) : Nat → Bool := beforeP u p I (blkAt u b) ((blkAt u b).ops.drop pc)
structure SInv (u : UUnit) (p c : Nat → Bool) (e : Eng) : Prop where
  b : e.block < u.blocks.length
  pc : e.pc ≤ (blkAt u e.block).ops.length
  r : ∀ i, (e.regs i).bad ≠ 0 → p i = true
  k : ∀ i, (e.kept i).bad ≠ 0 → c i = true
structure Sim (u : UUnit) (p : Nat → Bool) (I : Nat → Nat → Bool) (e f : Eng) : Prop where
  cells : e.cells = f.cells
  kept : e.kept = f.kept
  block : e.block = f.block
  pc : e.pc = f.pc
  steps : e.steps = f.steps
  out : e.out = f.out
  done : e.done = f.done
  regs : e.done = false → ∀ i, liveAt u p I e.block e.pc i = true → e.regs i = f.regs i
section
variable {M : MathF} {u : UUnit} {p c : Nat → Bool} {I : Nat → Nat → Bool}
/-- Two runs that agree, in the registers of a set. -/
structure Agr (S : Nat → Bool) (e f : Eng) : Prop where
  cells : e.cells = f.cells
  kept : e.kept = f.kept
  block : e.block = f.block
  pc : e.pc = f.pc
  steps : e.steps = f.steps
  out : e.out = f.out
  done : e.done = f.done
  regs : ∀ i, S i = true → e.regs i = f.regs i
theorem Agr.sub {S T : Nat → Bool} {e f : Eng} (h : Agr S e f) (hs : Sub T S) : Agr T e f := { h with regs := fun i hi => h.regs i (hs i hi) }
structure PInv (p c : Nat → Bool) (e : Eng) : Prop where
  r : ∀ i, (e.regs i).bad ≠ 0 → p i = true
  k : ∀ i, (e.kept i).bad ≠ 0 → c i = true
theorem PInv.set {e : Eng} (h : PInv p c e) {i : Nat} {v : Val} (hv : v.bad ≠ 0 → p i = true) : PInv p c { e with regs := fset e.regs i v } :=
  ⟨fun j => by
    simp only [fset]
    split
    · rename_i k; subst k; exact hv
    · exact h.r j, h.k⟩
/-- Both: the same, and where they stand is in the unit. -/
structure Good (u : UUnit) (p c : Nat → Bool) (I : Nat → Nat → Bool) (e f : Eng) : Prop where
  sim : Sim u p I e f
  e1 : SInv u p c e
  f1 : SInv u p c f
theorem reads_all {o : UOp} {x : Int} (h : x ∈ reads o) : x ∈ allReads o := by
  simp only [allReads]
  split
  · exact h
  · exact List.mem_cons_of_mem _ h
end
end Go.Cl.Dd
