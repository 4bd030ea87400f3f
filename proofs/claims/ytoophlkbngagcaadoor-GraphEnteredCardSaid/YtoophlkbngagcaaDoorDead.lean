/- DERIVED HERE. Runs of a unit; a register that is not live may be changed. No program in sight. -/
import Derived.Test.YtoophlkbngagcaaDoorPlain
set_option linter.unusedSimpArgs false
set_option linter.unusedVariables false
namespace Go.Cl.Dd
structure Val where
  num : Int
  bad : Int
  deriving DecidableEq
structure Outc where
  prints : List Int
  kind : Int
  value : Int
  deriving DecidableEq
structure Eng where
  regs : Nat → Val
  cells : Nat → List Int
  kept : Nat → Val
  block : Nat
  pc : Nat
  steps : Int
  out : Outc
  done : Bool
def fset {α : Type} (f : Nat → α) (i : Nat) (v : α) : Nat → α := fun j => if j = i then v else f j
def v0 : Val := ⟨0, 0⟩
/-- What an operation of two numbers makes, and the trap's number. -/
abbrev MathF := Int → Int → Int → Int × Int
def isDo (k : Int) : Bool := (decide (1 ≤ k) && decide (k ≤ 15)) || decide (k = 23) || decide (k = 24)
def bad2 (x y : Val) : Int := if x.bad = 0 then y.bad else x.bad
def early (k : Int) : Bool := decide (k = 23) || decide (k = 24)
def baseK (k : Int) : Int := if early k then k - 9 else k
def finV (k bad : Int) : Val × Int := if (baseK k = 14 ∨ baseK k = 15) ∧ early k = false then (v0, bad) else (⟨0, bad⟩, 0)
def arithV (M : MathF) (k : Int) (a b : Val) : Val × Int :=
  if bad2 a b = 0 then (if (M (baseK k) a.num b.num).2 = 0 then (⟨(M (baseK k) a.num b.num).1, 0⟩, 0) else finV k (M (baseK k) a.num b.num).2) else finV k (bad2 a b)
def doV (M : MathF) (o : UOp) (a b c : Val) : Val × Int :=
  if o.kind = 1 then (⟨o.n, 0⟩, 0)
  else if o.kind = 2 then (a, 0)
  else if o.kind = 12 then (if a.bad ≠ 0 then (⟨0, a.bad⟩, 0) else if a.num ≠ 0 then (b, 0) else (c, 0))
  else arithV M o.kind a b
def enterE (b : Nat) (e : Eng) : Eng := { e with block := b, pc := 0 }
def endE (k v : Int) (e : Eng) : Eng := { e with out := { e.out with kind := k, value := v }, done := true }
def trapE (u : UUnit) (n : Int) (e : Eng) : Eng :=
  if (blkAt u e.block).catch_ < 0 then endE 2 n e else enterE (blkAt u e.block).catch_.toNat { e with regs := fset e.regs u.code.toNat ⟨n, 0⟩ }
def opnd (e : Eng) (o : UOp) (i : Nat) : Val := match (reads o)[i]? with | some r => e.regs r.toNat | none => v0
def isArr (k : Int) : Bool := decide (k = 16) || decide (k = 17) || decide (k = 25)
def badE (o : UOp) (e : Eng) (x y : Val) : Int :=
  let bad := if x.bad = 0 then y.bad else x.bad
  if isArr o.kind && decide (bad = 0) && (decide (x.num < 0) || decide (((e.cells o.n.toNat).length : Int) ≤ x.num)) then -1 else bad
def memE (u : UUnit) (o : UOp) (e : Eng) : Eng :=
  if o.kind = 18 then { e with regs := fset e.regs o.dst.toNat (e.kept o.n.toNat) }
  else if o.kind = 19 then { e with kept := fset e.kept o.n.toNat (opnd e o 0) }
  else
    let bad := badE o e (opnd e o 0) (opnd e o 1)
    if o.kind = 25 ∧ bad ≠ 0 then { e with regs := fset e.regs o.dst.toNat ⟨0, bad⟩ }
    else if bad ≠ 0 then trapE u bad e
    else if o.kind = 16 ∨ o.kind = 25 then { e with regs := fset e.regs o.dst.toNat ⟨(e.cells o.n.toNat).getD (opnd e o 0).num.toNat 0, 0⟩ }
    else if o.kind = 17 then { e with cells := fset e.cells o.n.toNat ((e.cells o.n.toNat).set (opnd e o 0).num.toNat (opnd e o 1).num) }
    else if o.kind = 20 then { e with out := { e.out with prints := e.out.prints ++ [(opnd e o 0).num] } }
    else if o.kind = 21 ∧ (opnd e o 0).num ≠ 0 then enterE o.n.toNat e
    else e
def bodyE (M : MathF) (u : UUnit) (o : UOp) (e : Eng) : Eng :=
  if isDo o.kind then
    let r := doV M o (opnd e o 0) (opnd e o 1) (opnd e o 2)
    if r.2 ≠ 0 then trapE u r.2 e else { e with regs := fset e.regs o.dst.toNat r.1 }
  else memE u o e
def opE (M : MathF) (u : UUnit) (o : UOp) (e : Eng) : Eng :=
  if 0 ≤ o.guard ∧ (e.regs o.guard.toNat).bad ≠ 0 then trapE u (e.regs o.guard.toNat).bad e
  else if 0 ≤ o.guard ∧ (e.regs o.guard.toNat).num = 0 then e
  else bodyE M u o e
def lastE (u : UUnit) (d : UEnd) (e : Eng) : Eng :=
  let a := if d.kind ≠ 1 then e.regs d.a.toNat else v0
  if a.bad ≠ 0 then trapE u a.bad e
  else if d.kind = 3 then endE 1 a.num e
  else if d.kind = 4 then trapE u a.num e
  else if d.kind = 1 then enterE d.to.toNat e
  else if d.kind = 2 then (if a.num ≠ 0 then enterE d.to.toNat e else enterE d.els.toNat e)
  else e
def stepE (M : MathF) (u : UUnit) (e : Eng) : Eng :=
  let b := blkAt u e.block
  match b.ops[e.pc]? with
  | some o => opE M u o { e with steps := e.steps + 1, pc := e.pc + 1 }
  | none => lastE u b.en { e with steps := e.steps + 1 }
def goE (M : MathF) (u : UUnit) : Nat → Eng → Eng
  | 0, e => e
  | n + 1, e => if e.done then e else goE M u n (stepE M u e)
/-- What is live where a run stands. -/
def liveAt (u : UUnit) (p : Nat → Bool) (I : Nat → Nat → Bool) (b pc : Nat) : Nat → Bool := beforeP u p I (blkAt u b) ((blkAt u b).ops.drop pc)
structure SInv (u : UUnit) (p c : Nat → Bool) (e : Eng) : Prop where
  b : e.block < u.blocks.length
  pc : e.pc ≤ (blkAt u e.block).ops.length
  r : ∀ i, (e.regs i).bad ≠ 0 → p i = true
  k : ∀ i, (e.kept i).bad ≠ 0 → c i = true
structure Sim (u : UUnit) (p : Nat → Bool) (I : Nat → Nat → Bool) (e f : Eng) : Prop where
  cells : e.cells = f.cells
  kept : e.kept = f.kept
  block : e.block = f.block
  pc : e.pc = f.pc
  steps : e.steps = f.steps
  out : e.out = f.out
  done : e.done = f.done
  regs : e.done = false → ∀ i, liveAt u p I e.block e.pc i = true → e.regs i = f.regs i
section
variable {M : MathF} {u : UUnit} {p c : Nat → Bool} {I : Nat → Nat → Bool}
/-- Two runs that agree, in the registers of a set. -/
structure Agr (S : Nat → Bool) (e f : Eng) : Prop where
  cells : e.cells = f.cells
  kept : e.kept = f.kept
  block : e.block = f.block
  pc : e.pc = f.pc
  steps : e.steps = f.steps
  out : e.out = f.out
  done : e.done = f.done
  regs : ∀ i, S i = true → e.regs i = f.regs i
theorem Agr.sub {S T : Nat → Bool} {e f : Eng} (h : Agr S e f) (hs : Sub T S) : Agr T e f := { h with regs := fun i hi => h.regs i (hs i hi) }
structure PInv (p c : Nat → Bool) (e : Eng) : Prop where
  r : ∀ i, (e.regs i).bad ≠ 0 → p i = true
  k : ∀ i, (e.kept i).bad ≠ 0 → c i = true
theorem PInv.set {e : Eng} (h : PInv p c e) {i : Nat} {v : Val} (hv : v.bad ≠ 0 → p i = true) : PInv p c { e with regs := fset e.regs i v } :=
  ⟨fun j => by
    simp only [fset]
    split
    · rename_i k; subst k; exact hv
    · exact h.r j, h.k⟩
/-- Both: the same, and where they stand is in the unit. -/
structure Good (u : UUnit) (p c : Nat → Bool) (I : Nat → Nat → Bool) (e f : Eng) : Prop where
  sim : Sim u p I e f
  e1 : SInv u p c e
  f1 : SInv u p c f
theorem live_enter (hl : LCl u p I) {b : Nat} (hb : b < u.blocks.length) : Sub (liveAt u p I b 0) (I b) := hl b hb
theorem enter_good (hl : LCl u p I) {b : Nat} (hb : b < u.blocks.length) {e f : Eng} (h : Agr (I b) e f) (he : PInv p c e) (hf : PInv p c f) : Good u p c I (enterE b e) (enterE b f) :=
  ⟨{ cells := h.cells, kept := h.kept, block := rfl, pc := rfl, steps := h.steps, out := h.out, done := h.done, regs := fun _ i hi => h.regs i (live_enter hl hb i hi) }, ⟨hb, Nat.zero_le _, he.r, he.k⟩, ⟨hb, Nat.zero_le _, hf.r, hf.k⟩⟩
theorem blk_at {b : Nat} (hb : b < u.blocks.length) : u.blocks[b]? = some (blkAt u b) := by
  rw [blkAt, List.getD_eq_getElem?_getD, List.getElem?_eq_getElem hb]; rfl
theorem end_good {e f : Eng} {S : Nat → Bool} (k v : Int) (h : Agr S e f) (he : SInv u p c e) (hf : SInv u p c f) : Good u p c I (endE k v e) (endE k v f) :=
  ⟨{ cells := h.cells, kept := h.kept, block := h.block, pc := h.pc, steps := h.steps, out := by simp only [endE, h.out], done := rfl, regs := fun hd => by simp [endE] at hd }, ⟨he.b, he.pc, he.r, he.k⟩, ⟨hf.b, hf.pc, hf.r, hf.k⟩⟩
theorem trap_good (hw : wfU u = true) (hl : LCl u p I) (n : Int) {e f : Eng} (h : Agr (catchP u I (blkAt u e.block)) e f) (he : SInv u p c e) (hf : SInv u p c f) : Good u p c I (trapE u n e) (trapE u n f) := by
  have hc := (wfB_facts hw (blk_at he.b)).1
  simp only [trapE, ← h.block]
  by_cases h0 : (blkAt u e.block).catch_ < 0
  · rw [if_pos h0, if_pos h0]
    exact end_good 2 n h he hf
  · rw [if_neg h0, if_neg h0]
    have hb : (blkAt u e.block).catch_.toNat < u.blocks.length := by omega
    have hs : ∀ {g : Eng}, PInv p c g → PInv p c { g with regs := fset g.regs u.code.toNat ⟨n, 0⟩ } := fun hg => PInv.set hg fun q => absurd rfl q
    refine enter_good hl hb ?_ ⟨(hs ⟨he.r, he.k⟩).r, he.k⟩ ⟨(hs ⟨hf.r, hf.k⟩).r, hf.k⟩
    refine { cells := h.cells, kept := h.kept, block := rfl, pc := h.pc, steps := h.steps, out := h.out, done := h.done, regs := fun i hi => ?_ }
    simp only [fset]
    split
    · rfl
    · rename_i hne
      refine h.regs i ?_
      simp only [catchP, Bool.and_eq_true, decide_eq_true_eq, bne_iff_ne]
      exact ⟨by omega, hne, hi⟩
theorem opnd_eq {S : Nat → Bool} {e f : Eng} {o : UOp} (h : Agr S e f) (hs : ∀ x ∈ reads o, S x.toNat = true) (i : Nat) : opnd e o i = opnd f o i := by
  simp only [opnd]
  cases hx : (reads o)[i]? with
  | none => rfl
  | some r => exact h.regs _ (hs r (List.mem_of_getElem? hx))
theorem opnd_bad {e : Eng} {o : UOp} (h : PInv p c e) {i : Nat} (hb : (opnd e o i).bad ≠ 0) : ((reads o).any fun r => p r.toNat) = true := by
  simp only [opnd] at hb
  cases hx : (reads o)[i]? with
  | none => rw [hx] at hb; exact absurd rfl hb
  | some r =>
    rw [hx] at hb
    simp only [List.any_eq_true]
    exact ⟨r, List.mem_of_getElem? hx, h.r _ hb⟩
theorem base_same {k : Int} (h : early k = false) : baseK k = k := by simp [baseK, h]
theorem doV_trap (hM : ∀ k a b, (M k a b).2 ≠ 0 → k = 14 ∨ k = 15) {o : UOp} {a b d : Val} (h : (doV M o a b d).2 ≠ 0) : o.kind = 14 ∨ o.kind = 15 := by
  have hf : ∀ bad, (finV o.kind bad).2 ≠ 0 → o.kind = 14 ∨ o.kind = 15 := fun bad hb => by
    simp only [finV] at hb
    split at hb
    · rename_i k; rw [base_same k.2] at k; exact k.1
    · exact absurd rfl hb
  simp only [doV] at h
  split at h
  · exact absurd rfl h
  split at h
  · exact absurd rfl h
  split at h
  · split at h
    · exact absurd rfl h
    · split at h <;> exact absurd rfl h
  simp only [arithV] at h
  split at h
  · split at h
    · exact absurd rfl h
    · exact hf _ h
  · exact hf _ h
theorem bad2_or {x y : Val} (h : bad2 x y ≠ 0) : x.bad ≠ 0 ∨ y.bad ≠ 0 := by
  simp only [bad2] at h
  split at h
  · exact .inr h
  · rename_i k; exact .inl k
theorem doV_bad (hM : ∀ k a b, (M k a b).2 ≠ 0 → k = 14 ∨ k = 15) {o : UOp} {e : Eng} (hp : PInv p c e) (hd : isDo o.kind = true) (h : (doV M o (opnd e o 0) (opnd e o 1) (opnd e o 2)).1.bad ≠ 0) : badP o p c = true := by
  have key : o.kind = 23 ∨ o.kind = 24 ∨ (2 ≤ o.kind ∧ o.kind ≤ 13 ∧ ((opnd e o 0).bad ≠ 0 ∨ (opnd e o 1).bad ≠ 0 ∨ (opnd e o 2).bad ≠ 0)) := by
    simp only [isDo, Bool.or_eq_true, Bool.and_eq_true, decide_eq_true_eq] at hd
    simp only [doV] at h
    split at h
    · exact absurd rfl h
    split at h
    · exact .inr (.inr ⟨by omega, by omega, .inl h⟩)
    split at h
    · split at h
      · rename_i hb; exact .inr (.inr ⟨by omega, by omega, .inl hb⟩)
      · split at h
        · exact .inr (.inr ⟨by omega, by omega, .inr (.inl h)⟩)
        · exact .inr (.inr ⟨by omega, by omega, .inr (.inr h)⟩)
    by_cases h23 : o.kind = 23
    · exact .inl h23
    by_cases h24 : o.kind = 24
    · exact .inr (.inl h24)
    have he : early o.kind = false := by simp [early, h23, h24]
    simp only [arithV, base_same he] at h
    have hfin : ∀ bad, (finV o.kind bad).1.bad ≠ 0 → ¬ (o.kind = 14 ∨ o.kind = 15) := fun bad hb k => by
      simp only [finV, base_same he, if_pos (And.intro k he)] at hb
      exact hb rfl
    split at h
    · split at h
      · exact absurd rfl h
      · rename_i k; exact absurd (hM _ _ _ k) (hfin _ h)
    · rename_i k
      have := hfin _ h
      refine .inr (.inr ⟨by omega, by omega, ?_⟩)
      rcases bad2_or k with k | k
      · exact .inl k
      · exact .inr (.inl k)
  simp only [badP]
  rcases key with k | k | ⟨k1, k2, k⟩
  · rw [if_pos (by omega)]
  · rw [if_pos (by omega)]
  · rw [if_neg (by omega), if_neg (by omega), if_pos (by omega)]
    rcases k with k | k | k <;> exact opnd_bad hp k
theorem stepS {b : UBlk} {o : UOp} {S : Nat → Bool} {i : Nat} (hs : S i = true) (hn : ¬ (0 ≤ writeOf o ∧ o.guard = -1 ∧ i = (writeOf o).toNat)) : stepP u p I b o S i = true := by
  have : (decide (0 ≤ writeOf o) && decide (o.guard = -1) && i == (writeOf o).toNat) = false := by
    cases hq : (decide (0 ≤ writeOf o) && decide (o.guard = -1) && i == (writeOf o).toNat)
    · rfl
    · simp only [Bool.and_eq_true, decide_eq_true_eq, beq_iff_eq] at hq
      exact absurd ⟨hq.1.1, hq.1.2, hq.2⟩ hn
  simp only [stepP, hs, this, Bool.not_false, Bool.and_self, Bool.true_or]
theorem stepR {b : UBlk} {o : UOp} {S : Nat → Bool} {x : Int} (hx : x ∈ allReads o) : stepP u p I b o S x.toNat = true := by
  have : ((allReads o).any fun y => x.toNat == y.toNat) = true := List.any_eq_true.2 ⟨x, hx, by simp⟩
  simp only [stepP, this, Bool.or_true]
theorem stepT {b : UBlk} {o : UOp} {S : Nat → Bool} (ht : mayTrap p o = true) : Sub (catchP u I b) (stepP u p I b o S) := fun i hi => by
  simp only [stepP, ht, hi, Bool.and_self, Bool.or_true, Bool.true_or]
theorem stepX {b : UBlk} {o : UOp} {S : Nat → Bool} (hk : o.kind = 21) : Sub (I o.n.toNat) (stepP u p I b o S) := fun i hi => by
  simp only [stepP, hk, hi, decide_true, Bool.and_self, Bool.or_true, Bool.true_or]
theorem stay_good {e f : Eng} (h : Agr (liveAt u p I e.block e.pc) e f) (he : SInv u p c e) (hf : SInv u p c f) : Good u p c I e f :=
  ⟨{ cells := h.cells, kept := h.kept, block := h.block, pc := h.pc, steps := h.steps, out := h.out, done := h.done, regs := fun _ => h.regs }, he, hf⟩
theorem wr_good {T : Nat → Bool} {e f : Eng} {d : Nat} {v : Val} (h : Agr T e f) (hT : ∀ i, liveAt u p I e.block e.pc i = true → i ≠ d → T i = true) (hv : v.bad ≠ 0 → p d = true) (he : SInv u p c e) (hf : SInv u p c f) :
    Good u p c I { e with regs := fset e.regs d v } { f with regs := fset f.regs d v } := by
  refine ⟨{ cells := h.cells, kept := h.kept, block := h.block, pc := h.pc, steps := h.steps, out := h.out, done := h.done, regs := fun _ i hi => ?_ }, ⟨he.b, he.pc, (PInv.set ⟨he.r, he.k⟩ hv).r, he.k⟩, ⟨hf.b, hf.pc, (PInv.set ⟨hf.r, hf.k⟩ hv).r, hf.k⟩⟩
  simp only [fset]
  split
  · rfl
  · rename_i hne; exact h.regs i (hT i hi hne)
theorem pcl_r (hp : PCl (opsOf u) p c) {o : UOp} (ho : o ∈ opsOf u) (hb : badP o p c = true) (hk : o.kind ≠ 19) : p o.dst.toNat = true := by
  have := hp o ho
  simpa [spreadN, hb, hk] using this
theorem pcl_c (hp : PCl (opsOf u) p c) {o : UOp} (ho : o ∈ opsOf u) (hb : badP o p c = true) (hk : o.kind = 19) : c o.n.toNat = true := by
  have := hp o ho
  simpa [spreadN, hb, hk] using this
theorem reads_all {o : UOp} {x : Int} (h : x ∈ reads o) : x ∈ allReads o := by
  simp only [allReads]
  split
  · exact h
  · exact List.mem_cons_of_mem _ h
theorem body_good (hw : wfU u = true) (hp : PCl (opsOf u) p c) (hl : LCl u p I) (hM : ∀ k a b, (M k a b).2 ≠ 0 → k = 14 ∨ k = 15) {o : UOp} {e f : Eng} (ho : o ∈ opsOf u) (hwo : wfOp u o = true)
    (h : Agr (stepP u p I (blkAt u e.block) o (liveAt u p I e.block e.pc)) e f) (he : SInv u p c e) (hf : SInv u p c f) : Good u p c I (bodyE M u o e) (bodyE M u o f) := by
  obtain ⟨f1, f2, f3, f4, f5, f6, f7, f8, f9, f10, f11⟩ := wfU_facts hw
  obtain ⟨w1, w2, w3, w4, w5, w6, w7, w8, w9⟩ := wfO_facts hwo f3
  have hr : ∀ x ∈ reads o, stepP u p I (blkAt u e.block) o (liveAt u p I e.block e.pc) x.toNat = true := fun x hx => stepR (reads_all hx)
  have eq : ∀ i, opnd f o i = opnd e o i := fun i => (opnd_eq h hr i).symm
  have hwr : uBit o.kind 0 = true → ∀ i, liveAt u p I e.block e.pc i = true → i ≠ o.dst.toNat → stepP u p I (blkAt u e.block) o (liveAt u p I e.block e.pc) i = true := fun hu i hi hne => stepS hi (by simp only [writeOf, hu, if_true]; exact fun q => hne q.2.2)
  have hnw : uBit o.kind 0 = false → Sub (liveAt u p I e.block e.pc) (stepP u p I (blkAt u e.block) o (liveAt u p I e.block e.pc)) := fun hu i hi => stepS hi (by simp [writeOf, hu])
  have kinds : o.kind = 1 ∨ o.kind = 2 ∨ o.kind = 3 ∨ o.kind = 4 ∨ o.kind = 5 ∨ o.kind = 6 ∨ o.kind = 7 ∨ o.kind = 8 ∨ o.kind = 9 ∨ o.kind = 10 ∨ o.kind = 11 ∨ o.kind = 12 ∨ o.kind = 13 ∨ o.kind = 14 ∨ o.kind = 15 ∨ o.kind = 16 ∨ o.kind = 17 ∨ o.kind = 18 ∨ o.kind = 19 ∨ o.kind = 20 ∨ o.kind = 21 ∨ o.kind = 22 ∨ o.kind = 23 ∨ o.kind = 24 ∨ o.kind = 25 := by omega
  simp only [bodyE]
  by_cases hd : isDo o.kind = true
  · have hu : uBit o.kind 0 = true := by
      rcases kinds with k | k | k | k | k | k | k | k | k | k | k | k | k | k | k | k | k | k | k | k | k | k | k | k | k <;> rw [k] at hd ⊢ <;> first | rfl | cases hd
    rw [if_pos hd, if_pos hd, eq, eq, eq]
    by_cases ht : (doV M o (opnd e o 0) (opnd e o 1) (opnd e o 2)).2 = 0
    · rw [if_neg (by simpa using ht), if_neg (by simpa using ht)]
      have h19 : o.kind ≠ 19 := fun k => by rw [k] at hd; cases hd
      exact wr_good h (hwr hu) (fun hb => pcl_r hp ho (doV_bad hM ⟨he.r, he.k⟩ hd hb) h19) he hf
    · rw [if_pos ht, if_pos ht]
      have hk := doV_trap hM ht
      exact trap_good hw hl _ (h.sub (stepT (by simp only [mayTrap]; rcases hk with k | k <;> simp [k]))) he hf
  · rw [if_neg hd, if_neg hd]
    have hbd : badE o f (opnd e o 0) (opnd e o 1) = badE o e (opnd e o 0) (opnd e o 1) := by simp only [badE, h.cells]
    have rest : o.kind = 16 ∨ o.kind = 17 ∨ o.kind = 18 ∨ o.kind = 19 ∨ o.kind = 20 ∨ o.kind = 21 ∨ o.kind = 22 ∨ o.kind = 25 := by
      rcases kinds with k | k | k | k | k | k | k | k | k | k | k | k | k | k | k | k | k | k | k | k | k | k | k | k | k <;> first | (rw [k] at hd; exact absurd rfl hd) | simp [k]
    have one : o.kind = 20 ∨ o.kind = 21 ∨ o.kind = 22 → badE o e (opnd e o 0) (opnd e o 1) ≠ 0 → mayTrap p o = true := fun hk hb => by
      have hre : reads o = [o.a] := by rcases hk with k | k | k <;> (simp only [reads, k]; rfl)
      have ha : isArr o.kind = false := by rcases hk with k | k | k <;> rw [k] <;> rfl
      have h1 : opnd e o 1 = v0 := by simp [opnd, hre]
      have h0 : opnd e o 0 = e.regs o.a.toNat := by simp [opnd, hre]
      simp only [badE, ha, Bool.false_and, Bool.false_eq_true, if_false, h0, h1] at hb
      have : (e.regs o.a.toNat).bad ≠ 0 := fun q => by rw [if_pos q] at hb; exact hb rfl
      have := he.r _ this
      simp only [mayTrap]
      rcases hk with k | k | k <;> simp [k, this]
    have stay : uBit o.kind 0 = false → Agr (liveAt u p I e.block e.pc) e f := fun hu => h.sub (hnw hu)
    rcases rest with k | k | k | k | k | k | k | k
    · have hu : uBit o.kind 0 = true := by rw [k]; rfl
      simp only [memE, k, eq, hbd]
      by_cases hb : badE o e (opnd e o 0) (opnd e o 1) = 0
      · simp [hb]
        have e1 : f.cells o.n.toNat = e.cells o.n.toNat := by rw [h.cells]
        rw [e1]
        refine wr_good h (hwr hu) ?_ he hf
        intro q
        exact absurd rfl q
      · simp [hb]
        exact trap_good hw hl _ (h.sub (stepT (by simp [mayTrap, k]))) he hf
    · have hu : uBit o.kind 0 = false := by rw [k]; rfl
      simp only [memE, k, eq, hbd]
      by_cases hb : badE o e (opnd e o 0) (opnd e o 1) = 0
      · simp [hb]
        rw [← h.cells]
        have s := stay hu
        exact ⟨{ cells := rfl, kept := s.kept, block := s.block, pc := s.pc, steps := s.steps, out := s.out, done := s.done, regs := fun _ => s.regs }, ⟨he.b, he.pc, he.r, he.k⟩, ⟨hf.b, hf.pc, hf.r, hf.k⟩⟩
      · simp [hb]
        exact trap_good hw hl _ (h.sub (stepT (by simp [mayTrap, k]))) he hf
    · have hu : uBit o.kind 0 = true := by rw [k]; rfl
      simp only [memE, k]
      simp
      have e1 : f.kept o.n.toNat = e.kept o.n.toNat := by rw [h.kept]
      rw [e1]
      exact wr_good h (hwr hu) (fun q => pcl_r hp ho (by simp only [badP, k]; simp; exact he.k _ q) (by omega)) he hf
    · have hu : uBit o.kind 0 = false := by rw [k]; rfl
      simp only [memE, k, eq]
      simp
      rw [← h.kept]
      have s := stay hu
      have hq : (opnd e o 0).bad ≠ 0 → c o.n.toNat = true := fun q => pcl_c hp ho (by
        have := opnd_bad (p := p) (c := c) ⟨he.r, he.k⟩ q
        simp only [badP, k]
        simp
        simpa using this) k
      have hk : ∀ i, (fset e.kept o.n.toNat (opnd e o 0) i).bad ≠ 0 → c i = true := fun i => by
        simp only [fset]
        split
        · rename_i q; subst q; exact hq
        · exact he.k i
      exact ⟨{ cells := s.cells, kept := rfl, block := s.block, pc := s.pc, steps := s.steps, out := s.out, done := s.done, regs := fun _ => s.regs }, ⟨he.b, he.pc, he.r, hk⟩, ⟨hf.b, hf.pc, hf.r, hk⟩⟩
    · have hu : uBit o.kind 0 = false := by rw [k]; rfl
      simp only [memE, k, eq, hbd]
      by_cases hb : badE o e (opnd e o 0) (opnd e o 1) = 0
      · simp [hb]
        have s := stay hu
        exact ⟨{ cells := s.cells, kept := s.kept, block := s.block, pc := s.pc, steps := s.steps, out := by simp only [s.out], done := s.done, regs := fun _ => s.regs }, ⟨he.b, he.pc, he.r, he.k⟩, ⟨hf.b, hf.pc, hf.r, hf.k⟩⟩
      · simp [hb]
        exact trap_good hw hl _ (h.sub (stepT (one (.inl k) hb))) he hf
    · have hu : uBit o.kind 0 = false := by rw [k]; rfl
      simp only [memE, k, eq, hbd]
      by_cases hb : badE o e (opnd e o 0) (opnd e o 1) = 0
      · simp [hb]
        have hn := w6 k
        by_cases h0 : (opnd e o 0).num = 0
        · simp [h0]
          exact stay_good (stay hu) he hf
        · simp [h0]
          exact enter_good hl (by omega) (h.sub (stepX k)) ⟨he.r, he.k⟩ ⟨hf.r, hf.k⟩
      · simp [hb]
        exact trap_good hw hl _ (h.sub (stepT (one (.inr (.inl k)) hb))) he hf
    · have hu : uBit o.kind 0 = false := by rw [k]; rfl
      simp only [memE, k, eq, hbd]
      by_cases hb : badE o e (opnd e o 0) (opnd e o 1) = 0
      · simp [hb]
        exact stay_good (stay hu) he hf
      · simp [hb]
        exact trap_good hw hl _ (h.sub (stepT (one (.inr (.inr k)) hb))) he hf
    · have hu : uBit o.kind 0 = true := by rw [k]; rfl
      simp only [memE, k, eq, hbd]
      by_cases hb : badE o e (opnd e o 0) (opnd e o 1) = 0
      · simp [hb]
        have e1 : f.cells o.n.toNat = e.cells o.n.toNat := by rw [h.cells]
        rw [e1]
        refine wr_good h (hwr hu) ?_ he hf
        intro q
        exact absurd rfl q
      · simp [hb]
        exact wr_good h (hwr hu) (fun q => pcl_r hp ho (by simp [badP, k]) (by omega)) he hf
theorem op_good (hw : wfU u = true) (hp : PCl (opsOf u) p c) (hl : LCl u p I) (hM : ∀ k a b, (M k a b).2 ≠ 0 → k = 14 ∨ k = 15) {o : UOp} {e f : Eng} (ho : o ∈ opsOf u) (hwo : wfOp u o = true)
    (h : Agr (stepP u p I (blkAt u e.block) o (liveAt u p I e.block e.pc)) e f) (he : SInv u p c e) (hf : SInv u p c f) : Good u p c I (opE M u o e) (opE M u o f) := by
  obtain ⟨f1, f2, f3, f4, f5, f6, f7, f8, f9, f10, f11⟩ := wfU_facts hw
  obtain ⟨w1, w2, w3, w4, w5, w6, w7, w8, w9⟩ := wfO_facts hwo f3
  simp only [opE]
  by_cases hg : 0 ≤ o.guard
  · have hne : o.guard ≠ -1 := by omega
    have hgr : f.regs o.guard.toNat = e.regs o.guard.toNat := (h.regs _ (stepR (by simp only [allReads, if_neg hne]; exact List.mem_cons_self ..))).symm
    rw [hgr]
    by_cases hb : (e.regs o.guard.toNat).bad = 0
    · have q1 : ¬ (0 ≤ o.guard ∧ (e.regs o.guard.toNat).bad ≠ 0) := fun q => q.2 hb
      simp only [if_neg q1]
      by_cases h0 : (e.regs o.guard.toNat).num = 0
      · rw [if_pos ⟨hg, h0⟩, if_pos ⟨hg, h0⟩]
        exact stay_good (h.sub fun i hi => stepS hi fun q => hne q.2.1) he hf
      · have q2 : ¬ (0 ≤ o.guard ∧ (e.regs o.guard.toNat).num = 0) := fun q => h0 q.2
        simp only [if_neg q2]
        exact body_good hw hp hl hM ho hwo h he hf
    · rw [if_pos ⟨hg, hb⟩, if_pos ⟨hg, hb⟩]
      exact trap_good hw hl _ (h.sub (stepT (by simp [mayTrap, he.r _ hb, hne]))) he hf
  · rw [if_neg (by simp [hg]), if_neg (by simp [hg]), if_neg (by simp [hg]), if_neg (by simp [hg])]
    exact body_good hw hp hl hM ho hwo h he hf
theorem last_good (hw : wfU u = true) (hl : LCl u p I) {e f : Eng} (h : Agr (endP u p I (blkAt u e.block)) e f) (he : SInv u p c e) (hf : SInv u p c f) (hpc : e.pc = (blkAt u e.block).ops.length) : Good u p c I (lastE u (blkAt u e.block).en e) (lastE u (blkAt u e.block).en f) := by
  obtain ⟨g1, g2, g3, g4, g5⟩ := wfE_facts (wfB_facts hw (blk_at he.b)).2.2.2
  generalize hd : (blkAt u e.block).en = d at g1 g2 g3 g4 g5
  have ha : (if d.kind ≠ 1 then f.regs d.a.toNat else v0) = (if d.kind ≠ 1 then e.regs d.a.toNat else v0) := by
    split
    · rename_i hk
      refine (h.regs _ ?_).symm
      simp [endP, hd, hk]
    · rfl
  simp only [lastE]
  rw [ha]
  generalize hA : (if d.kind ≠ 1 then e.regs d.a.toNat else v0) = a
  have trap : ∀ n, mayEnd p d = true → Good u p c I (trapE u n e) (trapE u n f) := fun n hm => trap_good hw hl n (h.sub fun i hi => by simp only [endP, hd, hm, hi, Bool.and_self, Bool.or_true, Bool.true_or]) he hf
  by_cases hb : a.bad = 0
  · simp only [hb]
    have hk : d.kind = 1 ∨ d.kind = 2 ∨ d.kind = 3 ∨ d.kind = 4 := by omega
    rcases hk with k | k | k | k <;> simp [k]
    · exact enter_good hl (by have := g4 (.inl k); omega) (h.sub fun i hi => by simp only [endP, hd, goes, branches, k, hi]; simp) ⟨he.r, he.k⟩ ⟨hf.r, hf.k⟩
    · split
      · exact enter_good hl (by have := g5 k; omega) (h.sub fun i hi => by simp only [endP, hd, goes, branches, k, hi]; simp) ⟨he.r, he.k⟩ ⟨hf.r, hf.k⟩
      · exact enter_good hl (by have := g4 (.inr k); omega) (h.sub fun i hi => by simp only [endP, hd, goes, branches, k, hi]; simp) ⟨he.r, he.k⟩ ⟨hf.r, hf.k⟩
    · exact end_good 1 _ h he hf
    · exact trap _ (by simp [mayEnd, k])
  · rw [if_pos hb, if_pos hb]
    refine trap _ ?_
    have hk : d.kind ≠ 1 := fun k => by rw [if_neg (by simp [k])] at hA; rw [← hA] at hb; exact hb rfl
    rw [if_pos hk] at hA
    rw [← hA] at hb
    simp [mayEnd, he.r _ hb, hk]
theorem stepE_some {e : Eng} {o : UOp} (h : (blkAt u e.block).ops[e.pc]? = some o) : stepE M u e = opE M u o { e with steps := e.steps + 1, pc := e.pc + 1 } := by simp only [stepE, h]
theorem stepE_none {e : Eng} (h : (blkAt u e.block).ops[e.pc]? = none) : stepE M u e = lastE u (blkAt u e.block).en { e with steps := e.steps + 1 } := by simp only [stepE, h]
theorem step_good (hw : wfU u = true) (hp : PCl (opsOf u) p c) (hl : LCl u p I) (hM : ∀ k a b, (M k a b).2 ≠ 0 → k = 14 ∨ k = 15) {e f : Eng} (h : Good u p c I e f) (hn : e.done = false) : Good u p c I (stepE M u e) (stepE M u f) := by
  obtain ⟨hs, he, hf⟩ := h
  have hpc := he.pc
  cases ho : (blkAt u e.block).ops[e.pc]? with
  | none =>
    have hlen : (blkAt u e.block).ops.length ≤ e.pc := List.getElem?_eq_none_iff.1 ho
    have hl0 : liveAt u p I e.block e.pc = endP u p I (blkAt u e.block) := by
      simp only [liveAt]
      rw [List.drop_eq_nil_of_le hlen]
      rfl
    have hr := hs.regs hn
    rw [hl0] at hr
    have ho2 : (blkAt u f.block).ops[f.pc]? = none := by rw [← hs.block, ← hs.pc]; exact ho
    have e2 : (blkAt u f.block).en = (blkAt u e.block).en := by rw [hs.block]
    rw [stepE_none ho, stepE_none ho2, e2]
    exact last_good (e := { e with steps := e.steps + 1 }) (f := { f with steps := f.steps + 1 }) hw hl ⟨hs.cells, hs.kept, hs.block, hs.pc, by simp only [hs.steps], hs.out, hs.done, hr⟩ ⟨he.b, he.pc, he.r, he.k⟩ ⟨hf.b, hf.pc, hf.r, hf.k⟩ (by simp only; omega)
  | some o =>
    obtain ⟨hlt, hoe⟩ := List.getElem?_eq_some_iff.1 ho
    have hl0 : liveAt u p I e.block e.pc = stepP u p I (blkAt u e.block) o (liveAt u p I e.block (e.pc + 1)) := by
      simp only [liveAt]
      rw [List.drop_eq_getElem_cons hlt, hoe]
      rfl
    have hr := hs.regs hn
    rw [hl0] at hr
    have hwb := wfB_facts hw (blk_at he.b)
    have hmem : o ∈ (blkAt u e.block).ops := List.mem_of_getElem? ho
    have hmem2 : o ∈ opsOf u := List.mem_flatMap.2 ⟨_, List.mem_of_getElem? (blk_at he.b), hmem⟩
    have hfb := hf.b
    have hfp : f.pc + 1 ≤ (blkAt u f.block).ops.length := by rw [← hs.block, ← hs.pc]; exact hlt
    have ho2 : (blkAt u f.block).ops[f.pc]? = some o := by rw [← hs.block, ← hs.pc]; exact ho
    rw [stepE_some ho, stepE_some ho2]
    exact op_good (e := { e with steps := e.steps + 1, pc := e.pc + 1 }) (f := { f with steps := f.steps + 1, pc := f.pc + 1 }) hw hp hl hM hmem2 (hwb.2.2.1 o hmem) ⟨hs.cells, hs.kept, hs.block, by simp only [hs.pc], by simp only [hs.steps], hs.out, hs.done, hr⟩ ⟨he.b, hlt, he.r, he.k⟩ ⟨hf.b, hfp, hf.r, hf.k⟩
theorem go_good (hw : wfU u = true) (hp : PCl (opsOf u) p c) (hl : LCl u p I) (hM : ∀ k a b, (M k a b).2 ≠ 0 → k = 14 ∨ k = 15) : ∀ (n : Nat) {e f : Eng}, Good u p c I e f → Good u p c I (goE M u n e) (goE M u n f)
  | 0, _, _, h => h
  | n + 1, e, f, h => by
    simp only [goE, ← h.sim.done]
    cases hd : e.done
    · exact go_good hw hp hl hM n (step_good hw hp hl hM h hd)
    · exact h
theorem goE_add (M : MathF) (u : UUnit) : ∀ (a b : Nat) (e : Eng), goE M u (a + b) e = goE M u b (goE M u a e)
  | 0, b, e => by rw [Nat.zero_add]; rfl
  | a + 1, b, e => by
    rw [Nat.add_right_comm]
    simp only [goE]
    cases hd : e.done
    · exact goE_add M u a b _
    · simp only [if_true]
      cases b with
      | zero => rfl
      | succ b => simp only [goE, hd, if_true]
theorem step_inv (hw : wfU u = true) (hp : PCl (opsOf u) p c) (hl : LCl u p I) (hM : ∀ k a b, (M k a b).2 ≠ 0 → k = 14 ∨ k = 15) (n : Nat) {e : Eng} (h : SInv u p c e) : SInv u p c (goE M u n e) :=
  (go_good hw hp hl hM n (e := e) (f := e) ⟨⟨rfl, rfl, rfl, rfl, rfl, rfl, rfl, fun _ _ _ => rfl⟩, h, h⟩).e1
/-- **What is not live may be changed.** -/
theorem dead_law (hw : wfU u = true) (hp : PCl (opsOf u) p c) (hl : LCl u p I) (hM : ∀ k a b, (M k a b).2 ≠ 0 → k = 14 ∨ k = 15) {e : Eng} (he : SInv u p c e) (hd : e.done = false) {r : Nat} {v : Val} (hv : v.bad = 0) (hr : liveAt u p I e.block e.pc r = false) (n : Nat) :
    (goE M u n { e with regs := fset e.regs r v }).out = (goE M u n e).out ∧ (goE M u n { e with regs := fset e.regs r v }).steps = (goE M u n e).steps := by
  have hf : SInv u p c { e with regs := fset e.regs r v } := ⟨he.b, he.pc, (PInv.set (p := p) (c := c) ⟨he.r, he.k⟩ fun q => absurd hv q).r, he.k⟩
  have hs : Sim u p I e { e with regs := fset e.regs r v } := ⟨rfl, rfl, rfl, rfl, rfl, rfl, rfl, fun _ i hi => by
    simp only [fset]
    split
    · rename_i q; subst q; rw [hr] at hi; cases hi
    · rfl⟩
  have := (go_good hw hp hl hM n ⟨hs, he, hf⟩).sim
  exact ⟨this.out.symm, this.steps.symm⟩
end
end Go.Cl.Dd
