/- DERIVED HERE. Units as values; right units; what may be poison and what is live, as the least sets that are closed. No program in sight. -/
set_option linter.unusedSimpArgs false
set_option linter.unusedVariables false
namespace Go.Cl
structure UOp where
  kind : Int
  dst : Int
  a : Int
  b : Int
  c : Int
  n : Int
  guard : Int
  deriving DecidableEq
structure UEnd where
  kind : Int
  a : Int
  to : Int
  els : Int
  deriving DecidableEq
structure UBlk where
  ops : List UOp
  en : UEnd
  catch_ : Int
  deriving DecidableEq
structure UUnit where
  sizes : List Int
  params : Int
  regs : Int
  code : Int
  spill : Int
  blocks : List UBlk
  deriving DecidableEq
def usesL : List Int := [17, 3, 7, 7, 7, 7, 7, 7, 7, 7, 7, 15, 7, 7, 7, 35, 38, 65, 66, 2, 130, 2, 7, 7, 35]
def isKind (k : Int) : Bool := decide (1 ≤ k) && decide (k ≤ 25)
def usesOf (k : Int) : Int := if isKind k then usesL.getD (k - 1).toNat 0 else 0
/-- Whether a kind uses something: 0 Dst, 1 A, 2 B, 3 C, 4 a number, 5 an array, 6 a cell, 7 a block. -/
def uBit (k : Int) (i : Nat) : Bool := (usesOf k).toNat.testBit i
def reads (o : UOp) : List Int := (if uBit o.kind 1 then [o.a] else []) ++ ((if uBit o.kind 2 then [o.b] else []) ++ (if uBit o.kind 3 then [o.c] else []))
def allReads (o : UOp) : List Int := if o.guard = -1 then reads o else o.guard :: reads o
def writeOf (o : UOp) : Int := if uBit o.kind 0 then o.dst else -1
def inR (n size : Int) : Bool := decide (0 ≤ n) && decide (n < size)
/-- What an operation's N may be, from nought up to it; -1: anything. -/
def topOf (u : UUnit) (k : Int) : Int := if uBit k 5 then u.sizes.length else if uBit k 6 then u.spill else if uBit k 7 then u.blocks.length else -1
def wfOp (u : UUnit) (o : UOp) : Bool :=
  isKind o.kind && (!uBit o.kind 0 || inR o.dst u.regs) && (!uBit o.kind 1 || inR o.a u.regs) && (!uBit o.kind 2 || inR o.b u.regs) && (!uBit o.kind 3 || inR o.c u.regs) && (decide (o.guard = -1) || inR o.guard u.regs)
    && (decide (topOf u o.kind < 0) || (decide (0 ≤ o.n) && decide (o.n < topOf u o.kind)))
    && !((!uBit o.kind 0 && decide (o.dst ≠ 0)) || (!uBit o.kind 1 && decide (o.a ≠ 0)) || (!uBit o.kind 2 && decide (o.b ≠ 0)) || (!uBit o.kind 3 && decide (o.c ≠ 0)) || (decide (topOf u o.kind < 0) && !uBit o.kind 4 && decide (o.n ≠ 0)))
def goes (e : UEnd) : Bool := decide (e.kind = 1) || decide (e.kind = 2)
def branches (e : UEnd) : Bool := decide (e.kind = 2)
def wfEnd (u : UUnit) (e : UEnd) : Bool :=
  decide (1 ≤ e.kind) && decide (e.kind ≤ 4) && (decide (e.kind = 1) || inR e.a u.regs) && (!goes e || inR e.to u.blocks.length) && (!branches e || inR e.els u.blocks.length)
    && ((decide (e.kind ≠ 1) || decide (e.a = 0)) && (goes e || decide (e.to = 0)) && (branches e || decide (e.els = 0)))
def wfBlk (u : UUnit) (b : UBlk) : Bool := (decide (b.catch_ = -1) || inR b.catch_ u.blocks.length) && decide (b.ops.length ≤ 400) && b.ops.all (wfOp u) && wfEnd u b.en
def opsOf (u : UUnit) : List UOp := u.blocks.flatMap (·.ops)
def wfHead (u : UUnit) : Bool := decide (u.sizes.length ≤ 16) && decide (1 ≤ u.blocks.length) && decide (u.blocks.length ≤ 2000) && decide (u.regs ≤ 4096) && decide (u.spill ≤ 4096)
def wfSizes (u : UUnit) : Bool := u.sizes.all fun n => !(decide (n < 1) || decide (65536 < n))
def wfNums (u : UUnit) : Bool := decide (1 ≤ u.regs) && decide (0 ≤ u.spill) && decide (0 ≤ u.params) && decide (u.params ≤ 8) && decide (u.params ≤ u.regs) && inR u.code u.regs
def wfU (u : UUnit) : Bool := wfHead u && wfSizes u && wfNums u && u.blocks.all (wfBlk u) && decide ((opsOf u).length ≤ 20000)

/-! ### The errors -/
def topOk (u : UUnit) (o : UOp) : Bool := decide (topOf u o.kind < 0) || (decide (0 ≤ o.n) && decide (o.n < topOf u o.kind))
def idleB (u : UUnit) (o : UOp) : Bool := (!uBit o.kind 0 && decide (o.dst ≠ 0)) || (!uBit o.kind 1 && decide (o.a ≠ 0)) || (!uBit o.kind 2 && decide (o.b ≠ 0)) || (!uBit o.kind 3 && decide (o.c ≠ 0)) || (decide (topOf u o.kind < 0) && !uBit o.kind 4 && decide (o.n ≠ 0))
def regsOk (u : UUnit) (o : UOp) : Bool := (!uBit o.kind 0 || inR o.dst u.regs) && (!uBit o.kind 1 || inR o.a u.regs) && (!uBit o.kind 2 || inR o.b u.regs) && (!uBit o.kind 3 || inR o.c u.regs) && (decide (o.guard = -1) || inR o.guard u.regs)
def errOp (u : UUnit) (o : UOp) : Int := if isKind o.kind = false then 4 else if regsOk u o = false then 2 else if topOk u o = false then 5 else if idleB u o then 4 else 0
def errEnd (u : UUnit) (e : UEnd) : Int :=
  if (decide (1 ≤ e.kind) && decide (e.kind ≤ 4)) = false then 4 else if (decide (e.kind = 1) || inR e.a u.regs) = false then 2
  else if ((!goes e || inR e.to u.blocks.length) && (!branches e || inR e.els u.blocks.length)) = false then 5
  else if ((decide (e.kind ≠ 1) || decide (e.a = 0)) && (goes e || decide (e.to = 0)) && (branches e || decide (e.els = 0))) = false then 4 else 0
def errOps (u : UUnit) : List UOp → Int
  | [] => 0
  | o :: l => if errOp u o = 0 then errOps u l else errOp u o
def errBlk (u : UUnit) (b : UBlk) : Int :=
  if (decide (b.catch_ = -1) || inR b.catch_ u.blocks.length) = false then 2 else if 400 < b.ops.length then 3 else if errOps u b.ops ≠ 0 then errOps u b.ops else errEnd u b.en
def errBlks (u : UUnit) : List UBlk → Int
  | [] => 0
  | b :: l => if errBlk u b = 0 then errBlks u l else errBlk u b
/-- What Check says. -/
def errU (u : UUnit) : Int := if wfHead u = false then 3 else if wfSizes u = false then 2 else if wfNums u = false then 2 else if errBlks u u.blocks ≠ 0 then errBlks u u.blocks else if 20000 < (opsOf u).length then 3 else 0
theorem wfOp_eq (u : UUnit) (o : UOp) : wfOp u o = (isKind o.kind && regsOk u o && topOk u o && !idleB u o) := by
  simp only [wfOp, regsOk, topOk, idleB, Bool.and_assoc]
theorem errOp_wf {u : UUnit} {o : UOp} : errOp u o = 0 ↔ wfOp u o = true := by
  rw [wfOp_eq]
  simp only [errOp]
  cases isKind o.kind <;> cases regsOk u o <;> cases topOk u o <;> cases idleB u o <;> simp
theorem errEnd_wf {u : UUnit} {e : UEnd} : errEnd u e = 0 ↔ wfEnd u e = true := by
  simp only [errEnd, wfEnd, ← Bool.and_assoc]
  generalize (decide (1 ≤ e.kind) && decide (e.kind ≤ 4)) = a
  generalize (decide (e.kind = 1) || inR e.a u.regs) = b
  generalize (!goes e || inR e.to u.blocks.length) = c
  generalize (!branches e || inR e.els u.blocks.length) = d
  generalize (decide (e.kind ≠ 1) || decide (e.a = 0)) = f
  generalize (goes e || decide (e.to = 0)) = g
  generalize (branches e || decide (e.els = 0)) = h
  cases a <;> cases b <;> cases c <;> cases d <;> cases f <;> cases g <;> cases h <;> simp
theorem errOps_wf {u : UUnit} : ∀ {l : List UOp}, errOps u l = 0 ↔ l.all (wfOp u) = true
  | [] => by simp [errOps]
  | o :: l => by
    simp only [errOps, List.all_cons, Bool.and_eq_true]
    rw [← errOp_wf, ← errOps_wf (l := l)]
    by_cases h : errOp u o = 0
    · simp [h]
    · simp [h]
/-- The first that is wrong. -/
theorem errOps_at {u : UUnit} : ∀ {l : List UOp} {t : Nat} {o : UOp}, l[t]? = some o → (∀ j x, j < t → l[j]? = some x → wfOp u x = true) → errOp u o ≠ 0 → errOps u l = errOp u o
  | [], t, o, h, _, _ => by simp at h
  | x :: l, 0, o, h, _, hn => by
    simp at h
    subst h
    simp [errOps, hn]
  | x :: l, t + 1, o, h, hb, hn => by
    have hx := errOp_wf.2 (hb 0 x (by omega) rfl)
    simp only [errOps, hx, if_true]
    exact errOps_at (by simpa using h) (fun j y hj hy => hb (j + 1) y (by omega) (by simpa using hy)) hn
theorem errBlk_wf {u : UUnit} {b : UBlk} : errBlk u b = 0 ↔ wfBlk u b = true := by
  simp only [errBlk, wfBlk, Bool.and_eq_true, decide_eq_true_eq]
  rw [← errOps_wf, ← errEnd_wf]
  cases (decide (b.catch_ = -1) || inR b.catch_ u.blocks.length)
  · simp
  · by_cases h : 400 < b.ops.length
    · simp [h]; omega
    · by_cases h2 : errOps u b.ops = 0
      · simp [h, h2]; omega
      · simp [h, h2]
theorem errBlks_wf {u : UUnit} : ∀ {l : List UBlk}, errBlks u l = 0 ↔ l.all (wfBlk u) = true
  | [] => by simp [errBlks]
  | o :: l => by
    simp only [errBlks, List.all_cons, Bool.and_eq_true]
    rw [← errBlk_wf, ← errBlks_wf (l := l)]
    by_cases h : errBlk u o = 0
    · simp [h]
    · simp [h]
theorem errBlks_at {u : UUnit} : ∀ {l : List UBlk} {t : Nat} {o : UBlk}, l[t]? = some o → (∀ j x, j < t → l[j]? = some x → wfBlk u x = true) → errBlk u o ≠ 0 → errBlks u l = errBlk u o
  | [], t, o, h, _, _ => by simp at h
  | x :: l, 0, o, h, _, hn => by
    simp at h
    subst h
    simp [errBlks, hn]
  | x :: l, t + 1, o, h, hb, hn => by
    have hx := errBlk_wf.2 (hb 0 x (by omega) rfl)
    simp only [errBlks, hx, if_true]
    exact errBlks_at (by simpa using h) (fun j y hj hy => hb (j + 1) y (by omega) (by simpa using hy)) hn
theorem errU_wf {u : UUnit} : errU u = 0 ↔ wfU u = true := by
  simp only [errU, wfU, Bool.and_eq_true, decide_eq_true_eq]
  rw [← errBlks_wf]
  cases wfHead u
  · simp
  · cases wfSizes u
    · simp
    · cases wfNums u
      · simp
      · by_cases h : errBlks u u.blocks = 0
        · by_cases h2 : 20000 < (opsOf u).length
          · simp [h, h2]
          · simp [h, h2]; omega
        · simp [h]
/-! ### Poison -/
/-- Whether an operation makes something poison, if p and c tell which registers and cells may be. -/
def badP (o : UOp) (p c : Nat → Bool) : Bool :=
  if o.kind = 23 ∨ o.kind = 24 ∨ o.kind = 25 then true
  else if o.kind = 18 then c o.n.toNat
  else if o.kind = 19 ∨ (2 ≤ o.kind ∧ o.kind ≤ 13) then (reads o).any fun r => p r.toNat
  else false
def spreadN (o : UOp) (p c : Nat → Bool) : Bool := badP o p c && !(if o.kind = 19 then c o.n.toNat else p o.dst.toNat)
def spreadR (o : UOp) (p c : Nat → Bool) : Nat → Bool := fun r => p r || (badP o p c && decide (o.kind ≠ 19) && r == o.dst.toNat)
def spreadC (o : UOp) (p c : Nat → Bool) : Nat → Bool := fun r => c r || (badP o p c && decide (o.kind = 19) && r == o.n.toNat)
def PCl (ops : List UOp) (p c : Nat → Bool) : Prop := ∀ o ∈ ops, spreadN o p c = false
def Sub (f g : Nat → Bool) : Prop := ∀ x, f x = true → g x = true
theorem Sub.refl (f : Nat → Bool) : Sub f f := fun _ h => h
theorem Sub.trans {f g h : Nat → Bool} (a : Sub f g) (b : Sub g h) : Sub f h := fun x k => b x (a x k)
theorem Sub.antisymm {f g : Nat → Bool} (a : Sub f g) (b : Sub g f) : f = g := by
  funext x
  have h1 := a x; have h2 := b x
  cases hf : f x <;> cases hg : g x <;> simp_all
/-- Nothing in (p, c) but what every closed pair has. -/
def PLow (ops : List UOp) (p c : Nat → Bool) : Prop := ∀ p' c', PCl ops p' c' → Sub p p' ∧ Sub c c'
def PLeast (ops : List UOp) (p c : Nat → Bool) : Prop := PCl ops p c ∧ PLow ops p c
theorem PLeast.unique {ops : List UOp} {p c p' c' : Nat → Bool} (h : PLeast ops p c) (h' : PLeast ops p' c') : p = p' ∧ c = c' :=
  ⟨(h.2 _ _ h'.1).1.antisymm (h'.2 _ _ h.1).1, (h.2 _ _ h'.1).2.antisymm (h'.2 _ _ h.1).2⟩
theorem badP_mono {o : UOp} {p c p' c' : Nat → Bool} (hp : Sub p p') (hc : Sub c c') : badP o p c = true → badP o p' c' = true := by
  simp only [badP]
  split
  · exact id
  split
  · exact hc _
  split
  · simp only [List.any_eq_true]
    exact fun ⟨r, h1, h2⟩ => ⟨r, h1, hp _ h2⟩
  · exact id
theorem PLow.empty (ops : List UOp) : PLow ops (fun _ => false) (fun _ => false) := fun _ _ _ => ⟨fun _ h => by simp at h, fun _ h => by simp at h⟩
theorem PLow.spread {ops : List UOp} {p c : Nat → Bool} {o : UOp} (h : PLow ops p c) (ho : o ∈ ops) : PLow ops (spreadR o p c) (spreadC o p c) := by
  intro p' c' hcl
  obtain ⟨h1, h2⟩ := h p' c' hcl
  have hb := badP_mono (o := o) h1 h2
  have ho := hcl o ho
  simp only [spreadN, Bool.and_eq_false_iff, Bool.not_eq_false'] at ho
  constructor
  · intro x hx
    simp only [spreadR, Bool.or_eq_true, Bool.and_eq_true, decide_eq_true_eq, beq_iff_eq] at hx
    rcases hx with hx | ⟨⟨hx, hk⟩, rfl⟩
    · exact h1 x hx
    · rcases ho with ho | ho
      · rw [hb hx] at ho; cases ho
      · rwa [if_neg hk] at ho
  · intro x hx
    simp only [spreadC, Bool.or_eq_true, Bool.and_eq_true, decide_eq_true_eq, beq_iff_eq] at hx
    rcases hx with hx | ⟨⟨hx, hk⟩, rfl⟩
    · exact h2 x hx
    · rcases ho with ho | ho
      · rw [hb hx] at ho; cases ho
      · rwa [if_pos hk] at ho
theorem spreadR_same {o : UOp} {p c : Nat → Bool} (h : spreadN o p c = false) : spreadR o p c = p := by
  funext r
  simp only [spreadN, Bool.and_eq_false_iff, Bool.not_eq_false'] at h
  simp only [spreadR]
  rcases h with h | h
  · simp [h]
  · by_cases hk : o.kind = 19
    · simp [hk]
    · rw [if_neg hk] at h
      by_cases hr : r = o.dst.toNat
      · subst hr; simp [h]
      · simp [hr]
theorem spreadC_same {o : UOp} {p c : Nat → Bool} (h : spreadN o p c = false) : spreadC o p c = c := by
  funext r
  simp only [spreadN, Bool.and_eq_false_iff, Bool.not_eq_false'] at h
  simp only [spreadC]
  rcases h with h | h
  · simp [h]
  · by_cases hk : o.kind = 19
    · rw [if_pos hk] at h
      by_cases hr : r = o.n.toNat
      · subst hr; simp [h]
      · simp [hr]
    · simp [hk]
/-- How many of a list's are not in a set. -/
def gap {α : Type} (l : List α) (f : α → Bool) : Nat := (l.filter fun i => !f i).length
theorem gap_le {α : Type} {l : List α} {f g : α → Bool} (h : ∀ i, f i = true → g i = true) : gap l g ≤ gap l f := by
  induction l with
  | nil => exact Nat.le_refl _
  | cons x l ih =>
    simp only [gap, List.filter_cons] at ih ⊢
    have := h x
    cases hf : f x <;> cases hg : g x <;> simp_all <;> omega
theorem gap_lt {α : Type} {l : List α} {f g : α → Bool} (h : ∀ i, f i = true → g i = true) {x : α} (hx : x ∈ l) (hf : f x = false) (hg : g x = true) : gap l g < gap l f := by
  induction l with
  | nil => cases hx
  | cons y l ih =>
    have hle := gap_le (l := l) h
    have hy := h y
    simp only [gap, List.filter_cons] at ih hle ⊢
    rcases List.mem_cons.1 hx with rfl | hx
    · simp [hf, hg]; omega
    · have := ih hx
      cases hfy : f y <;> cases hgy : g y <;> simp_all <;> omega

/-! ### Live -/
def mayTrap (p : Nat → Bool) (o : UOp) : Bool := (decide (o.guard ≠ -1) && p o.guard.toNat) || (decide (o.kind = 14) || decide (o.kind = 15) || decide (o.kind = 16) || decide (o.kind = 17)) || ((decide (o.kind = 20) || decide (o.kind = 21) || decide (o.kind = 22)) && p o.a.toNat)
def mayEnd (p : Nat → Bool) (e : UEnd) : Bool := decide (e.kind = 4) || (decide (e.kind ≠ 1) && p e.a.toNat)
def catchP (u : UUnit) (I : Nat → Nat → Bool) (b : UBlk) : Nat → Bool := fun r => decide (0 ≤ b.catch_) && (r != u.code.toNat && I b.catch_.toNat r)
def endP (u : UUnit) (p : Nat → Bool) (I : Nat → Nat → Bool) (b : UBlk) : Nat → Bool := fun r =>
  (goes b.en && I b.en.to.toNat r) || (branches b.en && I b.en.els.toNat r) || (mayEnd p b.en && catchP u I b r) || (decide (b.en.kind ≠ 1) && r == b.en.a.toNat)
def stepP (u : UUnit) (p : Nat → Bool) (I : Nat → Nat → Bool) (b : UBlk) (o : UOp) (S : Nat → Bool) : Nat → Bool := fun r =>
  (S r && !(decide (0 ≤ writeOf o) && decide (o.guard = -1) && r == (writeOf o).toNat)) || (decide (o.kind = 21) && I o.n.toNat r) || (mayTrap p o && catchP u I b r) || (allReads o).any fun x => r == x.toNat
/-- What is live before the operations of a list that ends a block. -/
def beforeP (u : UUnit) (p : Nat → Bool) (I : Nat → Nat → Bool) (b : UBlk) (ops : List UOp) : Nat → Bool := ops.foldr (stepP u p I b) (endP u p I b)
def blkAt (u : UUnit) (b : Nat) : UBlk := u.blocks.getD b ⟨[], ⟨1, 0, 0, 0⟩, -1⟩
def FP (u : UUnit) (p : Nat → Bool) (I : Nat → Nat → Bool) (b : Nat) : Nat → Bool := beforeP u p I (blkAt u b) (blkAt u b).ops
def Sub2 (I J : Nat → Nat → Bool) : Prop := ∀ b, Sub (I b) (J b)
theorem catchP_mono {u : UUnit} {I J : Nat → Nat → Bool} (h : Sub2 I J) (b : UBlk) : Sub (catchP u I b) (catchP u J b) := fun r => by
  simp only [catchP, Bool.and_eq_true]
  exact fun ⟨a, c, d⟩ => ⟨a, c, h _ _ d⟩
theorem endP_mono {u : UUnit} {p : Nat → Bool} {I J : Nat → Nat → Bool} (h : Sub2 I J) (b : UBlk) : Sub (endP u p I b) (endP u p J b) := fun r => by
  simp only [endP, Bool.or_eq_true, Bool.and_eq_true]
  rintro (((⟨a, c⟩ | ⟨a, c⟩) | ⟨a, c⟩) | c)
  · exact .inl (.inl (.inl ⟨a, h _ _ c⟩))
  · exact .inl (.inl (.inr ⟨a, h _ _ c⟩))
  · exact .inl (.inr ⟨a, catchP_mono h _ _ c⟩)
  · exact .inr c
theorem stepP_mono {u : UUnit} {p : Nat → Bool} {I J : Nat → Nat → Bool} (h : Sub2 I J) (b : UBlk) (o : UOp) {S T : Nat → Bool} (hs : Sub S T) : Sub (stepP u p I b o S) (stepP u p J b o T) := fun r => by
  simp only [stepP, Bool.or_eq_true, Bool.and_eq_true]
  rintro (((⟨a, c⟩ | ⟨a, c⟩) | ⟨a, c⟩) | c)
  · exact .inl (.inl (.inl ⟨hs _ a, c⟩))
  · exact .inl (.inl (.inr ⟨a, h _ _ c⟩))
  · exact .inl (.inr ⟨a, catchP_mono h _ _ c⟩)
  · exact .inr c
theorem beforeP_mono {u : UUnit} {p : Nat → Bool} {I J : Nat → Nat → Bool} (h : Sub2 I J) (b : UBlk) : ∀ ops, Sub (beforeP u p I b ops) (beforeP u p J b ops)
  | [] => endP_mono h b
  | o :: l => stepP_mono h b o (beforeP_mono h b l)
theorem FP_mono {u : UUnit} {p : Nat → Bool} {I J : Nat → Nat → Bool} (h : Sub2 I J) : Sub2 (FP u p I) (FP u p J) := fun b => beforeP_mono h _ _
/-- Closed: what is live before a block is in its set. -/
def LCl (u : UUnit) (p : Nat → Bool) (I : Nat → Nat → Bool) : Prop := ∀ b, b < u.blocks.length → Sub (FP u p I b) (I b)
def LLow (u : UUnit) (p : Nat → Bool) (I : Nat → Nat → Bool) : Prop := ∀ J, LCl u p J → Sub2 I J
def LLeast (u : UUnit) (p : Nat → Bool) (I : Nat → Nat → Bool) : Prop := LCl u p I ∧ LLow u p I
theorem LLeast.unique {u : UUnit} {p : Nat → Bool} {I J : Nat → Nat → Bool} (h : LLeast u p I) (h' : LLeast u p J) : I = J :=
  funext fun b => (h.2 _ h'.1 b).antisymm (h'.2 _ h.1 b)
theorem LLow.empty (u : UUnit) (p : Nat → Bool) : LLow u p (fun _ _ => false) := fun _ _ _ _ h => by simp at h
def setAt (I : Nat → Nat → Bool) (b : Nat) (f : Nat → Bool) : Nat → Nat → Bool := fun i => if i = b then f else I i
theorem LLow.step {u : UUnit} {p : Nat → Bool} {I : Nat → Nat → Bool} (h : LLow u p I) {b : Nat} (hb : b < u.blocks.length) : LLow u p (setAt I b (FP u p I b)) := by
  intro J hJ i x hx
  simp only [setAt] at hx
  split at hx
  · rename_i e; subst e; exact hJ i hb x (FP_mono (h J hJ) i x hx)
  · exact h J hJ i x hx
/-- Every set is below what it makes. -/
def LUp (u : UUnit) (p : Nat → Bool) (I : Nat → Nat → Bool) : Prop := Sub2 I (FP u p I)
theorem setAt_up {u : UUnit} {p : Nat → Bool} {I : Nat → Nat → Bool} (h : LUp u p I) (b : Nat) : Sub2 I (setAt I b (FP u p I b)) := fun i x hx => by
  simp only [setAt]
  split
  · rename_i e; subst e; exact h i x hx
  · exact hx
theorem LUp.step {u : UUnit} {p : Nat → Bool} {I : Nat → Nat → Bool} (h : LUp u p I) (b : Nat) : LUp u p (setAt I b (FP u p I b)) := by
  intro i x hx
  have hm := FP_mono (u := u) (p := p) (setAt_up h b) i x
  simp only [setAt] at hx
  split at hx
  · rename_i e; subst e; exact hm hx
  · exact hm (h i x hx)
/-! ### What right units have -/
def mOf (u : UUnit) : Nat := (u.regs.toNat + 63) / 64
theorem wfU_facts {u : UUnit} (h : wfU u = true) : 1 ≤ u.regs ∧ u.regs ≤ 4096 ∧ 0 ≤ u.spill ∧ u.spill ≤ 4096 ∧ 0 ≤ u.code ∧ u.code < u.regs ∧ 1 ≤ u.blocks.length ∧ u.blocks.length ≤ 2000 ∧ 0 < mOf u ∧ mOf u ≤ 64 ∧ (opsOf u).length ≤ 20000 := by
  simp only [wfU, wfHead, wfNums, inR, Bool.and_eq_true, decide_eq_true_eq] at h
  have : mOf u = (u.regs.toNat + 63) / 64 := rfl
  omega
theorem wfB_facts {u : UUnit} (h : wfU u = true) {b : Nat} {k : UBlk} (hb : u.blocks[b]? = some k) : (k.catch_ = -1 ∨ (0 ≤ k.catch_ ∧ k.catch_ < u.blocks.length)) ∧ k.ops.length ≤ 400 ∧ (∀ o ∈ k.ops, wfOp u o = true) ∧ wfEnd u k.en = true := by
  simp only [wfU, Bool.and_eq_true, List.all_eq_true] at h
  have h := h.1.2 k (List.mem_of_getElem? hb)
  simp only [wfBlk, inR, Bool.and_eq_true, Bool.or_eq_true, decide_eq_true_eq, List.all_eq_true] at h
  exact ⟨h.1.1.1, h.1.1.2, h.1.2, h.2⟩
theorem wfE_facts {u : UUnit} {e : UEnd} (h : wfEnd u e = true) : 1 ≤ e.kind ∧ e.kind ≤ 4 ∧ (e.kind ≠ 1 → 0 ≤ e.a ∧ e.a < u.regs) ∧ (e.kind = 1 ∨ e.kind = 2 → 0 ≤ e.to ∧ e.to < u.blocks.length) ∧ (e.kind = 2 → 0 ≤ e.els ∧ e.els < u.blocks.length) := by
  simp only [wfEnd, inR, goes, branches, Bool.and_eq_true, Bool.or_eq_true, decide_eq_true_eq, Bool.not_eq_true', Bool.or_eq_false_iff, decide_eq_false_iff_not] at h
  obtain ⟨⟨⟨⟨⟨h1, h2⟩, h3⟩, h4⟩, h5⟩, h6⟩ := h
  exact ⟨h1, h2, fun k => by omega, fun k => by omega, fun k => by omega⟩
theorem wfO_facts {u : UUnit} {o : UOp} (h : wfOp u o = true) (hs : 0 ≤ u.spill) : isKind o.kind = true ∧ (1 ≤ o.kind ∧ o.kind ≤ 25) ∧ (∀ x ∈ allReads o, 0 ≤ x ∧ x < u.regs) ∧ (uBit o.kind 0 = true → 0 ≤ o.dst ∧ o.dst < u.regs) ∧ (o.guard ≠ -1 → 0 ≤ o.guard ∧ o.guard < u.regs) ∧ (o.kind = 21 → 0 ≤ o.n ∧ o.n < u.blocks.length) ∧ (o.kind = 18 ∨ o.kind = 19 → 0 ≤ o.n ∧ o.n < u.spill) ∧ (o.kind = 20 ∨ o.kind = 21 ∨ o.kind = 22 → 0 ≤ o.a ∧ o.a < u.regs) ∧ (topOf u o.kind ≥ 0 → 0 ≤ o.n ∧ o.n < topOf u o.kind) := by
  simp only [wfOp, inR, Bool.and_eq_true, Bool.or_eq_true, decide_eq_true_eq, Bool.not_eq_true', Bool.or_eq_false_iff, decide_eq_false_iff_not] at h
  obtain ⟨⟨⟨⟨⟨⟨⟨h1, h2⟩, h3⟩, h4⟩, h5⟩, h6⟩, h7⟩, h8⟩ := h
  have hk : 1 ≤ o.kind ∧ o.kind ≤ 25 := by simpa [isKind] using h1
  have hr : ∀ x ∈ reads o, 0 ≤ x ∧ x < u.regs := by
    intro x hx
    simp only [reads, List.mem_append] at hx
    rcases hx with hx | hx | hx <;> split at hx <;> simp at hx <;> subst hx <;> rename_i hb
    · rcases h3 with h | h
      · rw [h] at hb; cases hb
      · exact h
    · rcases h4 with h | h
      · rw [h] at hb; cases hb
      · exact h
    · rcases h5 with h | h
      · rw [h] at hb; cases hb
      · exact h
  have hg : o.guard ≠ -1 → 0 ≤ o.guard ∧ o.guard < u.regs := fun k => by omega
  refine ⟨h1, hk, fun x hx => ?_, fun hb => ?_, hg, fun k => ?_, fun k => ?_, fun k => ?_, fun k => by omega⟩
  · simp only [allReads] at hx
    split at hx
    · exact hr x hx
    · rename_i hne
      rcases List.mem_cons.1 hx with rfl | hx
      · exact hg hne
      · exact hr x hx
  · rcases h2 with h | h
    · rw [h] at hb; cases hb
    · exact h
  · have : topOf u o.kind = u.blocks.length := by rw [k]; rfl
    omega
  · have : topOf u o.kind = u.spill := by rcases k with k | k <;> rw [k] <;> rfl
    omega
  · have : uBit o.kind 1 = true := by rcases k with k | k | k <;> rw [k] <;> rfl
    rcases h3 with h | h
    · rw [h] at this; cases this
    · exact h
end Go.Cl
