/- DERIVED HERE. Plain: what the law's read tells. DERIVED HERE. The law's read: a search through the blocks. DERIVED HERE. LiveLeast. -/
import Derived.Test.YtjofhmdjaijgcaaGreatDoorRB
import Derived.Test.YtjofhmdjaijgcaaGreatDoorTQ
import Derived.Test.YtjofhmdjaijgcaaGreatDoorOD
set_option linter.unusedSimpArgs false
set_option linter.unusedVariables false
namespace Go.Cl.Gd
/-- Live everywhere but where r is, in blocks of S. -/
def JS (r : Nat) (S : Nat → Bool) : Nat → Nat → Bool := fun b x => !(x == r && S b)
/-- Nothing reads r from the block c on, but by a way out of S. -/
def Ex (u : UUnit) (p : Nat → Bool) (r c : Nat) (S : Nat → Bool) : Prop := FP u p (JS r S) c r = false
theorem JS_mono {r : Nat} {S T : Nat → Bool} (h : ∀ b, S b = true → T b = true) : Sub2 (JS r T) (JS r S) := fun b x hx => by
  simp only [JS, Bool.not_eq_true', Bool.and_eq_false_iff] at hx ⊢
  rcases hx with hx | hx
  · exact .inl hx
  · cases hS : S b with
    | false => exact .inr rfl
    | true => rw [h b hS] at hx; cases hx
theorem Ex.mono {u : UUnit} {p : Nat → Bool} {r c : Nat} {S T : Nat → Bool} (h : ∀ b, S b = true → T b = true) (hx : Ex u p r c S) : Ex u p r c T := by
  cases hT : FP u p (JS r T) c r with
  | false => exact hT
  | true =>
    have := FP_mono (u := u) (p := p) (JS_mono (r := r) h) c r hT
    rw [show FP u p (JS r S) c r = false from hx] at this
    cases this
theorem least_not {u : UUnit} {p : Nat → Bool} {I : Nat → Nat → Bool} {r : Nat} {S : Nat → Bool} (hl : LLeast u p I) (hS : ∀ c, S c = true → Ex u p r c S) {c : Nat} (hc : S c = true) : I c r = false := by
  have hJ : LCl u p (fun b x => I b x && JS r S b x) := fun b hb x hx => by
    have h1 := hl.1 b hb x (FP_mono (fun b x hx => by simp only [Bool.and_eq_true] at hx; exact hx.1) b x hx)
    have h2 := FP_mono (u := u) (p := p) (J := JS r S) (fun b x hx => by simp only [Bool.and_eq_true] at hx; exact hx.2) b x hx
    simp only [h1, Bool.true_and, JS, Bool.not_eq_true', Bool.and_eq_false_iff]
    cases hx' : (x == r) with
    | false => exact .inl rfl
    | true =>
      refine .inr ?_
      have : x = r := by simpa using hx'
      subst this
      cases hSb : S b with
      | false => rfl
      | true =>
        rw [show FP u p (JS x S) b x = false from hS b hSb] at h2
        cases h2
  cases hI : I c r with
  | false => rfl
  | true =>
    have := hl.2 _ hJ c r hI
    simp [JS, hc] at this
/-- What a search tells. -/
structure RD (u : UUnit) (p : Nat → Bool) (I : Nat → Nat → Bool) (r b : Nat) (s s' : Nat → Bool) (y : Bool) : Prop where
  sub : ∀ x, s x = true → s' x = true
  yes : y = true → I b r = true
  no : y = false → s' b = true ∧ ∀ c, s' c = true → s c = false → Ex u p r c s'
theorem RD.law {u : UUnit} {p : Nat → Bool} {I : Nat → Nat → Bool} {r b : Nat} {s' : Nat → Bool} {y : Bool} (hl : LLeast u p I) (h : RD u p I r b (fun _ => false) s' y) : y = I b r := by
  cases y with
  | true => exact (h.yes rfl).symm
  | false =>
    obtain ⟨h1, h2⟩ := h.no rfl
    exact (least_not hl (fun c hc => h2 c hc rfl) h1).symm
/-- While a block is looked through: s1 its set at first, s the set now, i operations are behind. -/
structure RM (u : UUnit) (p : Nat → Bool) (I : Nat → Nat → Bool) (r : Nat) (k : UBlk) (s1 s : Nat → Bool) (l : List UOp) : Prop where
  sub : ∀ x, s1 x = true → s x = true
  ex : ∀ c, s c = true → s1 c = false → Ex u p r c s
  fw : ∀ S : Nat → Bool, (∀ x, s x = true → S x = true) → beforeP u p (JS r S) k l r = false → beforeP u p (JS r S) k k.ops r = false
  bw : beforeP u p I k l r = true → beforeP u p I k k.ops r = true
theorem RM.start {u : UUnit} {p : Nat → Bool} {I : Nat → Nat → Bool} {r : Nat} {k : UBlk} {s1 : Nat → Bool} : RM u p I r k s1 s1 k.ops := ⟨fun _ h => h, fun c h1 h2 => (by rw [h1] at h2; cases h2), fun _ _ h => h, fun h => h⟩
/-- A search from within. -/
theorem RM.more {u : UUnit} {p : Nat → Bool} {I : Nat → Nat → Bool} {r : Nat} {k : UBlk} {s1 s s' : Nat → Bool} {l : List UOp} {t : Nat} (h : RM u p I r k s1 s l) (h2 : RD u p I r t s s' false) : RM u p I r k s1 s' l ∧ s' t = true := by
  obtain ⟨h3, h4⟩ := h2.no rfl
  refine ⟨⟨fun x hx => h2.sub x (h.sub x hx), fun c hc h1 => ?_, fun S hS => h.fw S fun x hx => hS x (h2.sub x hx), h.bw⟩, h3⟩
  cases hs : s c with
  | true => exact (h.ex c hs h1).mono h2.sub
  | false => exact h4 c hc hs
theorem JS_at {r t : Nat} {S : Nat → Bool} (h : S t = true) : JS r S t r = false := by simp [JS, h]
theorem catch_false {u : UUnit} {k : UBlk} {r : Nat} {S : Nat → Bool} (h : 0 ≤ k.catch_ → r ≠ u.code.toNat → S k.catch_.toNat = true) : catchP u (JS r S) k r = false := by
  simp only [catchP, Bool.and_eq_false_iff, decide_eq_false_iff_not, bne_eq_false_iff_eq]
  by_cases h1 : 0 ≤ k.catch_
  · by_cases h2 : r = u.code.toNat
    · exact .inr (.inl h2)
    · exact .inr (.inr (JS_at (h h1 h2)))
  · exact .inl h1
/-- Past an operation. -/
theorem RM.step {u : UUnit} {p : Nat → Bool} {I : Nat → Nat → Bool} {r : Nat} {k : UBlk} {s1 s : Nat → Bool} {o : UOp} {l : List UOp} (h : RM u p I r k s1 s (o :: l)) (h1 : ((allReads o).any fun x => r == x.toNat) = false) (h2 : o.kind = 21 → s o.n.toNat = true) (h3 : 0 ≤ k.catch_ → r ≠ u.code.toNat → mayTrap p o = true → s k.catch_.toNat = true) :
    (¬(0 ≤ writeOf o ∧ o.guard = -1 ∧ r = (writeOf o).toNat) → RM u p I r k s1 s l) ∧ ((0 ≤ writeOf o ∧ o.guard = -1 ∧ r = (writeOf o).toNat) → ∀ S : Nat → Bool, (∀ x, s x = true → S x = true) → beforeP u p (JS r S) k k.ops r = false) := by
  have hst : ∀ S : Nat → Bool, (∀ x, s x = true → S x = true) → beforeP u p (JS r S) k (o :: l) r = (beforeP u p (JS r S) k l r && !(decide (0 ≤ writeOf o) && decide (o.guard = -1) && r == (writeOf o).toNat)) := fun S hS => by
    show stepP u p (JS r S) k o (beforeP u p (JS r S) k l) r = _
    simp only [stepP, h1, Bool.or_false]
    have a1 : (decide (o.kind = 21) && JS r S o.n.toNat r) = false := by
      by_cases hk : o.kind = 21
      · simp only [JS_at (hS _ (h2 hk)), Bool.and_false]
      · simp only [hk, decide_false, Bool.false_and]
    have a2 : (mayTrap p o && catchP u (JS r S) k r) = false := by
      cases hm : mayTrap p o with
      | false => rfl
      | true => simp only [catch_false fun q1 q2 => hS _ (h3 q1 q2 hm), Bool.and_false]
    simp only [a1, a2, Bool.or_false]
  have hbw : beforeP u p I k (o :: l) r = stepP u p I k o (beforeP u p I k l) r := rfl
  constructor
  · intro hk
    have hk' : (decide (0 ≤ writeOf o) && decide (o.guard = -1) && r == (writeOf o).toNat) = false := by
      cases hq : (decide (0 ≤ writeOf o) && decide (o.guard = -1) && r == (writeOf o).toNat) with
      | false => rfl
      | true =>
        simp only [Bool.and_eq_true, decide_eq_true_eq, beq_iff_eq] at hq
        exact absurd ⟨hq.1.1, hq.1.2, hq.2⟩ hk
    refine ⟨h.sub, h.ex, fun S hS hf => h.fw S hS ?_, fun hf => h.bw ?_⟩
    · rw [hst S hS, hf, Bool.false_and]
    · rw [hbw]
      simp only [stepP, hf, hk', Bool.not_false, Bool.and_self, Bool.true_or]
  · intro hk S hS
    refine h.fw S hS ?_
    rw [hst S hS]
    simp only [hk.1, hk.2.1, ← hk.2.2, decide_true, beq_self_eq_true, Bool.and_self, Bool.not_true, Bool.and_false]
/-- What is read, or live where an operation goes, is live before it. -/
theorem RM.hit {u : UUnit} {p : Nat → Bool} {I : Nat → Nat → Bool} {r : Nat} {k : UBlk} {s1 s : Nat → Bool} {o : UOp} {l : List UOp} (h : RM u p I r k s1 s (o :: l)) (hh : ((allReads o).any fun x => r == x.toNat) = true ∨ (o.kind = 21 ∧ I o.n.toNat r = true) ∨ (0 ≤ k.catch_ ∧ r ≠ u.code.toNat ∧ mayTrap p o = true ∧ I k.catch_.toNat r = true)) : beforeP u p I k k.ops r = true := by
  refine h.bw ?_
  show stepP u p I k o (beforeP u p I k l) r = true
  simp only [stepP, Bool.or_eq_true, Bool.and_eq_true, decide_eq_true_eq]
  rcases hh with hh | hh | ⟨h1, h2, h3, h4⟩
  · exact .inr hh
  · exact .inl (.inl (.inr hh))
  · exact .inl (.inr ⟨h3, by simp [catchP, h1, h2, h4]⟩)
theorem RM.hitE {u : UUnit} {p : Nat → Bool} {I : Nat → Nat → Bool} {r : Nat} {k : UBlk} {s1 s : Nat → Bool} (h : RM u p I r k s1 s []) (hh : (k.en.kind ≠ 1 ∧ r = k.en.a.toNat) ∨ (goes k.en = true ∧ I k.en.to.toNat r = true) ∨ (branches k.en = true ∧ I k.en.els.toNat r = true) ∨ (0 ≤ k.catch_ ∧ r ≠ u.code.toNat ∧ mayEnd p k.en = true ∧ I k.catch_.toNat r = true)) : beforeP u p I k k.ops r = true := by
  refine h.bw ?_
  show endP u p I k r = true
  simp only [endP, Bool.or_eq_true, Bool.and_eq_true, decide_eq_true_eq, beq_iff_eq]
  rcases hh with hh | hh | hh | ⟨h1, h2, h3, h4⟩
  · exact .inr hh
  · exact .inl (.inl (.inl hh))
  · exact .inl (.inl (.inr hh))
  · exact .inl (.inr ⟨h3, by simp [catchP, h1, h2, h4]⟩)
theorem RM.stop {u : UUnit} {p : Nat → Bool} {I : Nat → Nat → Bool} {r : Nat} {k : UBlk} {s1 s : Nat → Bool} (h : RM u p I r k s1 s []) (h1 : ¬(k.en.kind ≠ 1 ∧ r = k.en.a.toNat)) (h2 : goes k.en = true → s k.en.to.toNat = true) (h3 : branches k.en = true → s k.en.els.toNat = true) (h4 : 0 ≤ k.catch_ → r ≠ u.code.toNat → mayEnd p k.en = true → s k.catch_.toNat = true) : beforeP u p (JS r s) k k.ops r = false := by
  refine h.fw s (fun _ h => h) ?_
  show endP u p (JS r s) k r = false
  have a1 : (goes k.en && JS r s k.en.to.toNat r) = false := by
    cases hg : goes k.en with
    | false => rfl
    | true => simp only [JS_at (h2 hg), Bool.and_false]
  have a2 : (branches k.en && JS r s k.en.els.toNat r) = false := by
    cases hg : branches k.en with
    | false => rfl
    | true => simp only [JS_at (h3 hg), Bool.and_false]
  have a3 : (mayEnd p k.en && catchP u (JS r s) k r) = false := by
    cases hm : mayEnd p k.en with
    | false => rfl
    | true => simp only [catch_false fun q1 q2 => h4 q1 q2 hm, Bool.and_false]
  simp only [endP, a1, a2, a3, Bool.false_or, Bool.and_eq_false_iff, decide_eq_false_iff_not]
  by_cases hk : k.en.kind = 1
  · exact .inl fun h => h hk
  · exact .inr (by simpa using fun e => h1 ⟨hk, e⟩)
/-- A search that found nothing in the block b. -/
theorem RM.none {u : UUnit} {p : Nat → Bool} {I : Nat → Nat → Bool} {r b : Nat} {k : UBlk} {s s' : Nat → Bool} {l : List UOp} (hk : u.blocks[b]? = some k) (h : RM u p I r k (fun x => s x || x == b) s' l) (hf : beforeP u p (JS r s') k k.ops r = false) : RD u p I r b s s' false := by
  have hb : blkAt u b = k := by rw [blkAt, List.getD_eq_getElem?_getD, hk]; rfl
  refine ⟨fun x hx => h.sub x (by simp [hx]), fun e => (by cases e), fun _ => ⟨h.sub b (by simp), fun c hc h0 => ?_⟩⟩
  by_cases hcb : c = b
  · subst hcb
    show FP u p (JS r s') c r = false
    rw [FP, hb]
    exact hf
  · exact h.ex c hc (by simp [h0, hcb])
theorem RD.found {u : UUnit} {p : Nat → Bool} {I : Nat → Nat → Bool} {r b : Nat} {k : UBlk} {s s' : Nat → Bool} (hl : LLeast u p I) (hk : u.blocks[b]? = some k) (h : ∀ x, s x = true → s' x = true) (hf : beforeP u p I k k.ops r = true) : RD u p I r b s s' true := by
  have hb : blkAt u b = k := by rw [blkAt, List.getD_eq_getElem?_getD, hk]; rfl
  refine ⟨h, fun _ => hl.1 b (List.getElem?_eq_some_iff.1 hk).1 r ?_, fun e => (by cases e)⟩
  rw [FP, hb]
  exact hf
end Go.Cl.Gd
set_option linter.unusedSimpArgs false
set_option linter.unusedVariables false
namespace Go.Cl.Gd
open Go.Proofs
variable {W : World} {G : Nat → CV}
set_option maxRecDepth 8000
set_option maxHeartbeats 1000000
/-- What read answers: its value, and the blocks that it has met. -/
def rdR (H : Hp) (u : UUnit) (p : Nat → Bool) (I : Nat → Nat → Bool) (r b q : Nat) (s : Nat → Bool) (x : CE) (H' : Hp) : Prop :=
  ∃ y s', x = .ret (.bool y) ∧ Le (hole H q) H' ∧ H' q = some (.cells (boolC u.blocks.length s')) ∧ RD u p I r b s s' y
theorem read_met (hX : CxOk (cx W G)) (u : UUnit) {p : Nat → Bool} {I : Nat → Nat → Bool} {pv : CV} (r b : Nat) (s : Nat → Bool) (q : Nat) (H : Hp) (hb : b < u.blocks.length) (hs : s b = true) (hq : H q = some (.cells (boolC u.blocks.length s))) :
    CC Tryz.prog W 13 [.agg (unitC u), pv, .int .i64 b, .int .i64 r, .ref q 0 u.blocks.length u.blocks.length] H (rdR H u p I r b q s) := by
  refine CC.of_cw hX Tryz.func13 rfl rfl (Nat.le_of_ble_eq_true rfl) ?_
  refine CW.walk hX mixed d13 rfl ?_
  simp
  intro q5 hq5
  have hne : q ≠ q5 := fun e => by rw [← e, hq] at hq5; cases hq5
  have mq : (H.set q5 (.cells (unitC u))) q = some (.cells (boolC u.blocks.length s)) := by rw [hset_ne hne]; exact hq
  simp only [unitC] at mq
  refine CW.walk hX mixed d13 rfl ?_
  simp [unitC, mq, hb, boolC_len, boolC_gets, boolC_ex, hs]
  refine ⟨false, s, rfl, hole_le.trans (Le.set_new hq5), mq, fun _ h => h, fun h => (by cases h), fun _ => ⟨hs, fun c h1 h2 => (by rw [h1] at h2; cases h2)⟩⟩
structure rdS (B : Hp) (n q q5 q11 b r : Nat) (pv : CV) (s : Nat → Bool) (s' : CA) (H' : Hp) : Prop where
  e1 : s'.env 1 = pv
  e2 : s'.env 2 = .int .i64 b
  e3 : s'.env 3 = .int .i64 r
  e4 : s'.env 4 = .ref q 0 n n
  e5 : s'.env 5 = .ptr q5 0
  e11 : s'.env 11 = .ptr q11 0
  ds : s'.ds = []
  le : Le B H'
  q : H' q = some (.cells (boolC n s))
structure rdI (B : Hp) (u : UUnit) (p : Nat → Bool) (I : Nat → Nat → Bool) (k : UBlk) (s1 : Nat → Bool) (q q5 q11 b r : Nat) (pv : CV) (d m : Nat) (s' : CA) (H' : Hp) : Prop where
  ex : ∃ (i i12 : Nat) (s : Nat → Bool), m = k.ops.length - i ∧ i ≤ k.ops.length ∧ s'.env 12 = .int .i64 i12 ∧ i12 + d = i ∧ rdS B u.blocks.length q q5 q11 b r pv s s' H' ∧ RM u p I r k s1 s (k.ops.drop i)
structure rdJ (B : Hp) (u : UUnit) (p : Nat → Bool) (I : Nat → Nat → Bool) (k : UBlk) (s1 : Nat → Bool) (q q5 q11 q13 b r i : Nat) (pv : CV) (l : List UOp) (C : (Nat → Bool) → Prop) (s' : CA) (H' : Hp) : Prop where
  ex : ∃ (s : Nat → Bool), s'.env 12 = .int .i64 i ∧ s'.env 13 = .ptr q13 0 ∧ rdS B u.blocks.length q q5 q11 b r pv s s' H' ∧ RM u p I r k s1 s l ∧ C s
theorem read_c (hX : CxOk (cx W G)) (u : UUnit) (hu : wfU u = true) {p : Nat → Bool} {I : Nat → Nat → Bool} (hl : LLeast u p I) (r : Nat) (rr : Nat) : ∀ (f b : Nat) (s : Nat → Bool) (q : Nat) (H : Hp), b < u.blocks.length → cnt u.blocks.length s ≤ f → H q = some (.cells (boolC u.blocks.length s)) → rr ≠ q → H rr = some (.cells (boolC u.regs.toNat p)) →
    CC Tryz.prog W 13 [.agg (unitC u), .ref rr 0 u.regs.toNat u.regs.toNat, .int .i64 b, .int .i64 r, .ref q 0 u.blocks.length u.blocks.length] H (rdR H u p I r b q s) := by
  obtain ⟨f1, f2, f3, f4, f5, f6, f7, f8, f9, f10, f11⟩ := wfU_facts hu
  intro f
  induction f with
  | zero =>
    intro b s q H hb hc hq hrq hrr
    cases hs : s b with
    | true => exact read_met hX u r b s q H hb hs hq
    | false => have := cnt_lt hb hs; omega
  | succ f ih =>
  intro b s q H hb hc hq hrq hrr
  cases hs : s b with
  | true => exact read_met hX u r b s q H hb hs hq
  | false =>
  have hcl := cnt_lt hb hs
  obtain ⟨k, hke⟩ : ∃ k, u.blocks[b] = k := ⟨_, rfl⟩
  have hk : u.blocks[b]? = some k := by rw [List.getElem?_eq_getElem hb, hke]
  obtain ⟨g1, g2, g3, g4⟩ := wfB_facts hu hk
  obtain ⟨w1, w2, w3, w4, w5⟩ := wfE_facts g4
  obtain ⟨pv, hpv⟩ : ∃ pv, CV.ref rr 0 u.regs.toNat u.regs.toNat = pv := ⟨_, rfl⟩
  rw [hpv] at ih ⊢
  obtain ⟨s1, hs1⟩ : ∃ s1, (fun x => s x || x == b) = s1 := ⟨_, rfl⟩
  have hra : k.en.kind ≠ 1 → 0 ≤ k.en.a ∧ k.en.a < (u.regs.toNat : Int) := fun h => by have := w3 h; omega
  have hca : 0 ≤ k.catch_ → k.catch_ < u.blocks.length := by omega
  have hcode : r ≠ u.code.toNat ↔ ¬ (r : Int) = u.code := by omega
  have hss : ∀ x, s x = true → s1 x = true := fun x hx => by rw [← hs1]; simp [hx]
  have hcall : ∀ (t : Int) (sk : Nat → Bool) (H2 : Hp), 0 ≤ t → t < u.blocks.length → (∀ x, s1 x = true → sk x = true) → H2 q = some (.cells (boolC u.blocks.length sk)) → H2 rr = some (.cells (boolC u.regs.toNat p)) →
      CC Tryz.prog W 13 [.agg (unitC u), pv, .int .i64 t, .int .i64 r, .ref q 0 u.blocks.length u.blocks.length] H2 (rdR H2 u p I r t.toNat q sk) := by
    intro t sk H2 h1 h2 h3 h4 h5
    have hcn := cnt_le (n := u.blocks.length) h3
    rw [← hs1] at hcn
    have := ih t.toNat sk q H2 (by omega) (by omega) h4 hrq h5
    rwa [show ((t.toNat : Nat) : Int) = t by omega] at this
  clear ih
  simp only [unitC] at hcall
  refine CC.of_cw hX Tryz.func13 rfl rfl (Nat.le_of_ble_eq_true rfl) ?_
  refine CW.walk hX mixed d13 rfl ?_
  simp
  intro q5 hq5
  have hne : q ≠ q5 := fun e => by rw [← e, hq] at hq5; cases hq5
  have mq : (H.set q5 (.cells (unitC u))) q = some (.cells (boolC u.blocks.length s)) := by rw [hset_ne hne]; exact hq
  have m5 : (H.set q5 (.cells (unitC u))) q5 = some (.cells (unitC u)) := set_at
  have hle1 : Le H (H.set q5 (.cells (unitC u))) := Le.set_new hq5
  generalize H.set q5 (.cells (unitC u)) = H1 at mq m5 hle1 ⊢
  simp only [unitC] at m5
  refine CW.walk hX mixed d13 rfl ?_
  simp [mq, hb, boolC_len, boolC_gets, boolC_ex, hs]
  refine CW.walk hX mixed d13 rfl ?_
  simp [mq, hb, boolC_len, boolC_set]
  refine ⟨by omega, ?_⟩
  have hne1 : q ≠ q5 := hne
  generalize hH2 : H1.set q _ = H2
  have mq2 : H2 q = some (.cells (boolC u.blocks.length s1)) := by rw [← hH2, set_at, ← hs1]
  have m52 : H2 q5 = some (.cells [.sl 1 (u.sizes.map fun n => [ci n]), ci u.params, ci u.regs, ci u.code, ci u.spill, .sl 6 (u.blocks.map blkC)]) := by rw [← hH2, hset_ne (Ne.symm hne1)]; exact m5
  have hB2 : Le (hole H q) (hole H2 q) := fun x o hx => by
    by_cases e : x = q
    · simp [hole, e] at hx
    · simp only [hole, if_neg e] at hx ⊢
      rw [← hH2, hset_ne e]
      exact hle1 _ _ hx
  clear hH2 mq m5 hle1 hne hq5 hq
  clear H1
  have hbl : blkC k = .sl 7 (k.ops.map opC) :: blkT k := rfl
  refine CW.walk hX mixed d13 rfl ?_
  have hbt : (blkT k).length = 5 := rfl
  have hbt2 : List.take 5 (blkT k) = blkT k := rfl
  simp [m52, hb, hke, hbl, hbt, hbt2]
  intro q11 hq11
  have m511 := (Le.set_new (o := .cells (blkC k)) hq11) _ _ m52
  have mq11 := (Le.set_new (o := .cells (blkC k)) hq11) _ _ mq2
  have m11 : (H2.set q11 (.cells (blkC k))) q11 = some (.cells (blkC k)) := set_at
  have hne11 : q ≠ q11 := fun e => by rw [← e, mq2] at hq11; cases hq11
  have hne511 : q5 ≠ q11 := fun e => by rw [← e, m52] at hq11; cases hq11
  have hB3 : Le (hole H q) (hole (H2.set q11 (.cells (blkC k))) q) := hB2.trans fun x o hx => by
    by_cases e : x = q
    · simp [hole, e] at hx
    · simp only [hole, if_neg e] at hx ⊢
      exact Le.set_new hq11 _ _ hx
  rw [hbl] at mq11 m511 m11 hB3
  generalize H2.set q11 _ = H3 at mq11 m511 m11 hB3 ⊢
  clear hB2 mq2 m52 hq11
  clear H2
  obtain ⟨B, hBd⟩ : ∃ B, hole H3 q = B := ⟨_, rfl⟩
  have hBq : B q = none := by rw [← hBd]; simp [hole]
  have mB5 : B q5 = some (.cells [.sl 1 (u.sizes.map fun n => [ci n]), ci u.params, ci u.regs, ci u.code, ci u.spill, .sl 6 (u.blocks.map blkC)]) := by rw [← hBd]; simp only [hole, if_neg (Ne.symm hne1)]; exact m511
  have mB11 : B q11 = some (.cells (.sl 7 (k.ops.map opC) :: blkT k)) := by rw [← hBd]; simp only [hole, if_neg (Ne.symm hne11)]; exact m11
  have hB3' : Le B H3 := by rw [← hBd]; exact hole_le
  rw [hBd] at hB3
  have mBr : B rr = some (.cells (boolC u.regs.toNat p)) := hB3 _ _ (by simp only [hole, if_neg hrq]; exact hrr)
  clear hBd m511 m11
  refine CW.cut (fun s' H' => ∃ s2, rdS B u.blocks.length q q5 q11 b r pv s2 s' H' ∧ RM u p I r k s1 s2 []) ?_ ?_
  · refine CW.walk hX mixed d13 rfl ?_
    simp
    refine CW.block ?_
    refine CW.loop (rdI B u p I k s1 q q5 q11 b r pv 0) ?_ (m := k.ops.length) ⟨0, 0, s1, rfl, by omega, by simp, rfl, ⟨by simp, by simp, by simp, by simp, by simp, by simp, rfl, hB3', mq11⟩, RM.start⟩
    clear hB3' mq11
    clear H3
    rintro m ⟨e, ds⟩ H4 ⟨i, i12, s2, rfl, hi, e12, hi12, ⟨e1, e2, e3, e4, e5, e11, rfl, hle4, hq4⟩, hM⟩
    obtain rfl : i = i12 := by omega
    dsimp only at e1 e2 e3 e4 e5 e11 e12
    have m11 := hle4 _ _ mB11
    simp only [blkT] at m11
    by_cases hil : i < k.ops.length
    rotate_left
    · refine CW.walk hX mixed d13 rfl ?_
      simp [e11, e12, m11, hil]
      refine ⟨s2, ⟨by simp [e1], by simp [e2], by simp [e3], by simp [e4], by simp [e5], by simp [e11], rfl, hle4, hq4⟩, ?_⟩
      rwa [List.drop_eq_nil_of_le (by omega)] at hM
    refine CW.walk hX mixed d13 rfl ?_
    simp [e11, e12, m11, hil]
    refine CW.cut (rdI B u p I k s1 q q5 q11 b r pv 1 (k.ops.length - (i + 1))) ?_ ?_
    rotate_left
    · clear e1 e2 e3 e4 e5 e11 e12 m11 hM hq4 hle4
      clear e H4
      rintro ⟨e, ds⟩ H4 ⟨i2, i12, s3, hm, hi2, e12, hi12, ⟨e1, e2, e3, e4, e5, e11, rfl, hle4, hq4⟩, hM⟩
      dsimp only at e1 e2 e3 e4 e5 e11 e12
      obtain rfl : i2 = i + 1 := by omega
      obtain rfl : i = i12 := by omega
      refine CW.walk1 hX mixed d13 rfl ?_
      simp [e12]
      exact ⟨k.ops.length - (i + 1), by omega, i + 1, i + 1, s3, rfl, hi2, by simp; rw [wrapI (by omega) (by omega)], rfl, ⟨by simp [e1], by simp [e2], by simp [e3], by simp [e4], by simp [e5], by simp [e11], rfl, hle4, hq4⟩, hM⟩
    obtain ⟨o, hoe⟩ : ∃ o, k.ops[i] = o := ⟨_, rfl⟩
    have ho : k.ops[i]? = some o := by rw [List.getElem?_eq_getElem hil, hoe]
    obtain ⟨o1, o2, o3, o4, o5, o6, o7, o8, o9⟩ := wfO_facts (g3 o (List.mem_of_getElem? ho)) f3
    have hdr : k.ops.drop i = o :: k.ops.drop (i + 1) := by rw [List.drop_eq_getElem_cons hil, hoe]
    rw [hdr] at hM
    refine CW.block ?_
    refine CW.walk hX mixed d13 rfl ?_
    simp [d13, e11, e12, m11, hil, hoe, opC]
    intro q13 hq13
    have hne13 : q ≠ q13 := fun e => by rw [← e, hq4] at hq13; cases hq13
    generalize hH5 : H4.set q13 _ = H5
    have hle5 : Le H4 H5 := by rw [← hH5]; exact Le.set_new hq13
    have m13 : H5 q13 = some (.cells [ci o.kind, ci o.dst, ci o.a, ci o.b, ci o.c, ci o.n, ci o.guard]) := by rw [← hH5]; exact set_at
    have hq5' := hle5 _ _ hq4
    have hle5' := hle4.trans hle5
    clear hH5 hq13 hle5 hle4 hq4 m11
    obtain ⟨B2, hBd⟩ : ∃ B2, hole H5 q = B2 := ⟨_, rfl⟩
    have hB2q : B2 q = none := by rw [← hBd]; simp [hole]
    have hBB : Le B B2 := by rw [← hBd]; exact le_hole hle5' hBq
    have m13B : B2 q13 = some (.cells [ci o.kind, ci o.dst, ci o.a, ci o.b, ci o.c, ci o.n, ci o.guard]) := by rw [← hBd]; simp only [hole, if_neg (Ne.symm hne13)]; exact m13
    have hB2' : Le B2 H5 := by rw [← hBd]; exact hole_le
    have mB5' := hBB _ _ mB5
    have mBr' := hBB _ _ mBr
    have mB11' := hBB _ _ mB11
    clear hBd
    have hany : ((allReads o).any fun x => r == x.toNat) = decide ((r : Int) ∈ allReads o) := by
      rw [Bool.eq_iff_iff]
      simp only [List.any_eq_true, beq_iff_eq, decide_eq_true_eq]
      constructor
      · rintro ⟨x, hx, rfl⟩
        have := o3 x hx
        rwa [show ((x.toNat : Nat) : Int) = x by omega]
      · exact fun h => ⟨r, h, by simp⟩
    have hlr : (allReads o).length ≤ 1000000 := by
      have := reads_len o
      simp only [allReads]
      split <;> simp <;> omega
    have hrd := reads68_c hX o o1 H5
    have hmy := fun H hr => may_h hX o u.regs.toNat rr p (H := H) (fun h => by have := o5 h; omega) (fun h => by have := o8 h; omega) hr
    have hwr := fun H => writes40_c hX o o1 H
    rw [hpv] at hmy
    simp only [opC] at hrd hmy hwr
    refine CW.walk hX mixed d13 rfl ?_
    simp [d13, m13]
    refine hrd.k ?_
    rintro x H6 ⟨v, rfl, hown⟩
    simp [d13, e3]
    refine (has14_f hX (r : Int) hown.slF hlr).k ?_
    rintro x H7 ⟨rfl, rfl⟩
    have hle6 := hown.le
    have hq6 := hle6 _ _ hq5'
    have hB6 := hB2'.trans hle6
    clear hown
    by_cases hin : (r : Int) ∈ allReads o
    · simp [d13, hin]
      exact ⟨true, s2, rfl, (hB3.trans hBB).trans hB6, hq6, RD.found hl hk (fun x hx => hM.sub x (hss x hx)) (hM.hit (.inl (by rw [hany]; simpa using hin)))⟩
    simp [d13, hin]
    have hno : ((allReads o).any fun x => r == x.toNat) = false := by rw [hany]; simpa using hin
    clear hany hin hlr hrd
    have hB0 := hB3.trans hBB
    refine CW.cut (rdJ B2 u p I k s1 q q5 q11 q13 b r i pv (o :: k.ops.drop (i + 1)) fun s => o.kind = 21 → s o.n.toNat = true) ?_ ?_
    · have m13' := hB6 _ _ m13B
      have m5' := hB6 _ _ mB5'
      refine CW.walk1 hX mixed d13 rfl ?_
      by_cases h21 : o.kind = 21
      · simp [d13, e1, e3, e4, e5, m13', m5', h21]
        refine (hcall o.n s2 H7 (o6 h21).1 (o6 h21).2 hM.sub hq6 (hB6 _ _ mBr')).k ?_
        rintro x H8 ⟨y, s3, rfl, hle8, hq8, hR⟩
        have hB8 := (le_hole hB6 hB2q).trans hle8
        cases y with
        | true =>
          simp [d13]
          exact ⟨true, s3, rfl, hB0.trans hB8, hq8, RD.found hl hk (fun x hx => hR.sub x (hM.sub x (hss x hx))) (hM.hit (.inr (.inl ⟨h21, hR.yes rfl⟩)))⟩
        | false =>
          obtain ⟨hM', hst⟩ := hM.more hR
          simp [d13]
          exact ⟨s3, by simp [e12], by simp, ⟨by simp [e1], by simp [e2], by simp [e3], by simp [e4], by simp [e5], by simp [e11], rfl, hB8, hq8⟩, hM', fun _ => hst⟩
      · simp [d13, e1, e3, e4, e5, m13', m5', h21]
        exact ⟨s2, by simp [e12], by simp, ⟨by simp [e1], by simp [e2], by simp [e3], by simp [e4], by simp [e5], by simp [e11], rfl, hB6, hq6⟩, hM, trivial⟩
    clear e1 e2 e3 e4 e5 e11 e12 hM hq6 hB6 m13 hB2' hq5' hle5' hle6
    clear e H7 H5 H4 s2
    rintro ⟨e, ds⟩ H4 ⟨s2, e12, e13, ⟨e1, e2, e3, e4, e5, e11, rfl, hB4, hq4⟩, hM, h21⟩
    dsimp only at e1 e2 e3 e4 e5 e11 e12 e13
    refine CW.cut (rdJ B2 u p I k s1 q q5 q11 q13 b r i pv (o :: k.ops.drop (i + 1)) fun s => (o.kind = 21 → s o.n.toNat = true) ∧ (0 ≤ k.catch_ → r ≠ u.code.toNat → mayTrap p o = true → s k.catch_.toNat = true)) ?_ ?_
    · have m13' := hB4 _ _ m13B
      have m5' := hB4 _ _ mB5'
      have m11' := hB4 _ _ mB11'
      simp only [blkT] at m11'
      refine CW.walk1 hX mixed d13 rfl ?_
      by_cases c1 : 0 ≤ k.catch_
      rotate_left
      · simp [d13, e1, e3, e4, e5, e11, m13', m5', m11', c1]
        exact ⟨s2, by simp [e12], by simp [e13], ⟨by simp [e1], by simp [e2], by simp [e3], by simp [e4], by simp [e5], by simp [e11], rfl, hB4, hq4⟩, hM, h21⟩
      by_cases c2 : (r : Int) = u.code
      · simp [d13, e1, e3, e4, e5, e11, m13', m5', m11', c1, c2]
        exact ⟨s2, by simp [e12], by simp [e13], ⟨by simp [e1], by simp [e2], by simp [e3], by simp [e4], by simp [e5], by simp [e11], rfl, hB4, hq4⟩, hM, h21, fun h _ => absurd c2 (hcode.1 h)⟩
      simp [d13, e1, e3, e4, e5, e11, e13, m13', m5', m11', c1, c2]
      refine (hmy H4 (hB4 _ _ mBr')).k ?_
      rintro x H5 ⟨rfl, rfl⟩
      cases hm : mayTrap p o with
      | false =>
        simp [d13]
        exact ⟨s2, by simp [e12], by simp [e13], ⟨by simp [e1], by simp [e2], by simp [e3], by simp [e4], by simp [e5], by simp [e11], rfl, hB4, hq4⟩, hM, h21⟩
      | true =>
      simp [d13, e1, e3, e4, e5, e11, m5', m11']
      refine (hcall k.catch_ s2 H5 c1 (hca c1) hM.sub hq4 (hB4 _ _ mBr')).k ?_
      rintro x H8 ⟨y, s3, rfl, hle8, hq8, hR⟩
      have hB8 := (le_hole hB4 hB2q).trans hle8
      cases y with
      | true =>
        simp [d13]
        exact ⟨true, s3, rfl, hB0.trans hB8, hq8, RD.found hl hk (fun x hx => hR.sub x (hM.sub x (hss x hx))) (hM.hit (.inr (.inr ⟨c1, hcode.2 c2, hm, hR.yes rfl⟩)))⟩
      | false =>
        obtain ⟨hM', hst⟩ := hM.more hR
        simp [d13]
        exact ⟨s3, by simp [e12], by simp [e13], ⟨by simp [e1], by simp [e2], by simp [e3], by simp [e4], by simp [e5], by simp [e11], rfl, hB8, hq8⟩, hM', fun h => hR.sub _ (h21 h), fun _ _ => hst⟩
    clear h21 e1 e2 e3 e4 e5 e11 e12 e13 hM hq4 hB4
    clear e H4 s2
    rintro ⟨e, ds⟩ H4 ⟨s2, e12, e13, ⟨e1, e2, e3, e4, e5, e11, rfl, hB4, hq4⟩, hM, h21, hct⟩
    dsimp only at e1 e2 e3 e4 e5 e11 e12 e13
    have hst := hM.step hno h21 hct
    have m13' := hB4 _ _ m13B
    refine CW.walk hX mixed d13 rfl ?_
    simp [d13, e13, m13']
    refine (hwr H4).k ?_
    rintro x H5 ⟨rfl, rfl⟩
    simp [d13]
    have hwo : writeOf o = if uBit o.kind 0 then o.dst else -1 := rfl
    refine CW.walk1 hX mixed d13 rfl ?_
    cases hb0 : uBit o.kind 0 with
    | false =>
      simp [d13, e3, e13, m13', hb0]
      exact ⟨i + 1, i, s2, rfl, by omega, by simp [e12], rfl, ⟨by simp [e1], by simp [e2], by simp [e3], by simp [e4], by simp [e5], by simp [e11], rfl, hBB.trans hB4, hq4⟩, hst.1 (by rw [hwo, hb0]; simp)⟩
    | true =>
      have hd0 := (o4 hb0).1
      have hdr2 : r = o.dst.toNat → o.dst = r := fun h => by rw [h]; exact (Int.toNat_of_nonneg hd0).symm
      by_cases hd : o.dst = r
      · by_cases hg : o.guard = -1
        · simp [d13, e3, e13, m13', hb0, hd, hg]
          exact ⟨false, s2, rfl, hB0.trans hB4, hq4, RM.none hk (by rw [hs1]; exact hM) (hst.2 (by rw [hwo, hb0]; simp [hd, hg]) s2 (fun _ h => h))⟩
        · simp [d13, e3, e13, m13', hb0, hd, hg]
          exact ⟨i + 1, i, s2, rfl, by omega, by simp [e12], rfl, ⟨by simp [e1], by simp [e2], by simp [e3], by simp [e4], by simp [e5], by simp [e11], rfl, hBB.trans hB4, hq4⟩, hst.1 fun h => hg h.2.1⟩
      · simp [d13, e3, e13, m13', hb0, hd]
        exact ⟨i + 1, i, s2, rfl, by omega, by simp [e12], rfl, ⟨by simp [e1], by simp [e2], by simp [e3], by simp [e4], by simp [e5], by simp [e11], rfl, hBB.trans hB4, hq4⟩, hst.1 (by rw [hwo, hb0]; simp; intro _ _ h; exact hd (hdr2 h))⟩
  clear hB3'
  rintro ⟨e, ds⟩ H4 ⟨s2, ⟨e1, e2, e3, e4, e5, e11, rfl, hB4, hq4⟩, hM⟩
  dsimp only at e1 e2 e3 e4 e5 e11
  have m11 := hB4 _ _ mB11
  simp only [blkT] at m11
  have her := endReads65_c hX k.en H4
  have hme := fun H hr => mayEnd_h hX k.en u.regs.toNat rr p ⟨w1, w2⟩ hra (H := H) hr
  rw [hpv] at hme
  simp only [endC] at her hme
  refine CW.walk hX mixed d13 rfl ?_
  simp [d13, e11, m11]
  refine her.k ?_
  rintro x H5 ⟨v, rfl, hown⟩
  simp [d13, e3]
  refine (has14_f hX (r : Int) hown.slF (by split <;> simp)).k ?_
  rintro x H6 ⟨rfl, rfl⟩
  have hle5 := hown.le
  have hq5 := hle5 _ _ hq4
  have hB5 := hB4.trans hle5
  clear hown
  by_cases hin : k.en.kind ≠ 1 ∧ r = k.en.a.toNat
  · have hin2 : (r : Int) ∈ (if k.en.kind = 1 then [] else [k.en.a]) := by
      rw [if_neg hin.1]
      simp only [List.mem_singleton]
      rw [hin.2]
      exact Int.toNat_of_nonneg (w3 hin.1).1
    simp only [hin2, decide_true]
    simp [d13]
    exact ⟨true, s2, rfl, hB3.trans hB5, hq5, RD.found hl hk (fun x hx => hM.sub x (hss x hx)) (hM.hitE (.inl hin))⟩
  have hin2 : ¬ (r : Int) ∈ (if k.en.kind = 1 then [] else [k.en.a]) := by
    intro h
    split at h
    · simp at h
    · rename_i h1
      simp only [List.mem_singleton] at h
      exact hin ⟨h1, by rw [← h]; simp⟩
  simp only [hin2, decide_false]
  simp [d13]
  refine CW.cut (fun s' H' => ∃ s3, rdS B u.blocks.length q q5 q11 b r pv s3 s' H' ∧ RM u p I r k s1 s3 [] ∧ (goes k.en = true → s3 k.en.to.toNat = true) ∧ (branches k.en = true → s3 k.en.els.toNat = true)) ?_ ?_
  · have m5' := hB5 _ _ mB5
    have m11' := hle5 _ _ m11
    refine CW.walk1 hX mixed d13 rfl ?_
    simp [d13, e11, m11']
    refine (endTo_c hX _ _).k ?_
    rintro x H7 ⟨rfl, rfl⟩
    by_cases k1 : k.en.kind = 1
    · have hg : goes k.en = true := by simp [goes, k1]
      have hbr : branches k.en = false := by simp [branches, k1]
      have ht := w4 (.inl k1)
      simp [d13, e1, e3, e4, e5, e11, m5', m11', k1]
      refine (hcall k.en.to s2 H7 ht.1 ht.2 hM.sub hq5 (hB5 _ _ mBr)).k ?_
      rintro x H8 ⟨y, s3, rfl, hle8, hq8, hR⟩
      have hB8 := (le_hole hB5 hBq).trans hle8
      cases y with
      | true =>
        simp [d13]
        exact ⟨true, s3, rfl, hB3.trans hB8, hq8, RD.found hl hk (fun x hx => hR.sub x (hM.sub x (hss x hx))) (hM.hitE (.inr (.inl ⟨hg, hR.yes rfl⟩)))⟩
      | false =>
        obtain ⟨hM', hst⟩ := hM.more hR
        have m11'' := hB8 _ _ mB11
        simp only [blkT] at m11''
        simp [d13, e11, m11'', k1]
        refine (endElse_c hX _ _).k ?_
        rintro x H9 ⟨rfl, rfl⟩
        simp [d13, k1]
        exact ⟨s3, ⟨by simp [e1], by simp [e2], by simp [e3], by simp [e4], by simp [e5], by simp [e11], rfl, hB8, hq8⟩, hM', fun _ => hst, fun h => by rw [hbr] at h; cases h⟩
    by_cases k2 : k.en.kind = 2
    · have hg : goes k.en = true := by simp [goes, k2]
      have hbr : branches k.en = true := by simp [branches, k2]
      have ht := w4 (.inr k2)
      have ht2 := w5 k2
      simp [d13, e1, e3, e4, e5, e11, m5', m11', k1, k2]
      refine (hcall k.en.to s2 H7 ht.1 ht.2 hM.sub hq5 (hB5 _ _ mBr)).k ?_
      rintro x H8 ⟨y, s3, rfl, hle8, hq8, hR⟩
      have hB8 := (le_hole hB5 hBq).trans hle8
      cases y with
      | true =>
        simp [d13]
        exact ⟨true, s3, rfl, hB3.trans hB8, hq8, RD.found hl hk (fun x hx => hR.sub x (hM.sub x (hss x hx))) (hM.hitE (.inr (.inl ⟨hg, hR.yes rfl⟩)))⟩
      | false =>
        obtain ⟨hM', hst⟩ := hM.more hR
        have m11'' := hB8 _ _ mB11
        have m5'' := hB8 _ _ mB5
        simp only [blkT] at m11''
        simp [d13, e11, m11'', k1, k2]
        refine (endElse_c hX _ _).k ?_
        rintro x H9 ⟨rfl, rfl⟩
        simp [d13, e1, e3, e4, e5, e11, m5'', m11'', k1, k2]
        refine (hcall k.en.els s3 H9 ht2.1 ht2.2 hM'.sub hq8 (hB8 _ _ mBr)).k ?_
        rintro x HA ⟨y, s4, rfl, hleA, hqA, hR2⟩
        have hBA := (le_hole hB8 hBq).trans hleA
        cases y with
        | true =>
          simp [d13]
          exact ⟨true, s4, rfl, hB3.trans hBA, hqA, RD.found hl hk (fun x hx => hR2.sub x (hM'.sub x (hss x hx))) (hM'.hitE (.inr (.inr (.inl ⟨hbr, hR2.yes rfl⟩))))⟩
        | false =>
          obtain ⟨hM2, hst2⟩ := hM'.more hR2
          simp [d13]
          exact ⟨s4, ⟨by simp [e1], by simp [e2], by simp [e3], by simp [e4], by simp [e5], by simp [e11], rfl, hBA, hqA⟩, hM2, fun _ => hR2.sub _ hst, fun _ => hst2⟩
    have hg : goes k.en = false := by simp [goes, k1, k2]
    have hbr : branches k.en = false := by simp [branches, k2]
    simp [d13, e1, e3, e4, e5, e11, m5', m11', k1, k2]
    refine (endElse_c hX _ _).k ?_
    rintro x H9 ⟨rfl, rfl⟩
    simp [d13, e1, e3, e4, e5, e11, m5', m11', k1, k2]
    exact ⟨s2, ⟨by simp [e1], by simp [e2], by simp [e3], by simp [e4], by simp [e5], by simp [e11], rfl, hB5, hq5⟩, hM, fun h => (by rw [hg] at h; cases h), fun h => by rw [hbr] at h; cases h⟩
  clear e1 e2 e3 e4 e5 e11 m11 hM hq4 hB4 hB5 hq5 hle5 her
  clear e H6 s2
  rintro ⟨e, ds⟩ H4 ⟨s2, ⟨e1, e2, e3, e4, e5, e11, rfl, hB4, hq4⟩, hM, hto, hel⟩
  dsimp only at e1 e2 e3 e4 e5 e11
  have m5' := hB4 _ _ mB5
  have m11' := hB4 _ _ mB11
  simp only [blkT] at m11'
  have hnone : (0 ≤ k.catch_ → r ≠ u.code.toNat → mayEnd p k.en = true → s2 k.catch_.toNat = true) → RD u p I r b s s2 false := fun h => RM.none hk (by rw [hs1]; exact hM) (hM.stop hin hto hel h)
  refine CW.walk hX mixed d13 rfl ?_
  by_cases c1 : 0 ≤ k.catch_
  rotate_left
  · simp [d13, e1, e3, e4, e5, e11, m5', m11', c1]
    refine CW.walk1 hX mixed d13 rfl ?_
    simp
    exact ⟨false, s2, rfl, hB3.trans hB4, hq4, hnone fun h => absurd h c1⟩
  by_cases c2 : (r : Int) = u.code
  · simp [d13, e1, e3, e4, e5, e11, m5', m11', c1, c2]
    refine CW.walk1 hX mixed d13 rfl ?_
    simp
    exact ⟨false, s2, rfl, hB3.trans hB4, hq4, hnone fun _ h => absurd c2 (hcode.1 h)⟩
  simp [d13, e1, e3, e4, e5, e11, m5', m11', c1, c2]
  refine (hme H4 (hB4 _ _ mBr)).k ?_
  rintro x H5 ⟨rfl, rfl⟩
  cases hm : mayEnd p k.en with
  | false =>
    simp [d13]
    refine CW.walk1 hX mixed d13 rfl ?_
    simp
    exact ⟨false, s2, rfl, hB3.trans hB4, hq4, hnone fun _ _ h => by rw [hm] at h; cases h⟩
  | true =>
  simp [d13, e1, e3, e4, e5, e11, m5', m11']
  refine (hcall k.catch_ s2 H5 c1 (hca c1) hM.sub hq4 (hB4 _ _ mBr)).k ?_
  rintro x H8 ⟨y, s3, rfl, hle8, hq8, hR⟩
  have hB8 := (le_hole hB4 hBq).trans hle8
  cases y with
  | true =>
    simp [d13]
    refine CW.walk1 hX mixed d13 rfl ?_
    simp
    exact ⟨true, s3, rfl, hB3.trans hB8, hq8, RD.found hl hk (fun x hx => hR.sub x (hM.sub x (hss x hx))) (hM.hitE (.inr (.inr (.inr ⟨c1, hcode.2 c2, hm, hR.yes rfl⟩))))⟩
  | false =>
    obtain ⟨hM', hst⟩ := hM.more hR
    simp [d13]
    refine CW.walk1 hX mixed d13 rfl ?_
    simp
    exact ⟨false, s3, rfl, hB3.trans hB8, hq8, RM.none hk (by rw [hs1]; exact hM') (hM'.stop hin (fun h => hR.sub _ (hto h)) (fun h => hR.sub _ (hel h)) fun _ _ _ => hst)⟩
end Go.Cl.Gd
set_option linter.unusedSimpArgs false
set_option linter.unusedVariables false
namespace Go.Cl.Gd
open Go.Proofs
variable {W : World} {G : Nat → CV}
set_option maxRecDepth 8000
set_option maxHeartbeats 1000000
structure leI (u : UUnit) (vo va vp : CV) (H9 : Hp) (n d m : Nat) (s' : CA) (H' : Hp) : Prop where
  ex : ∃ i i10 : Nat, m = n - i ∧ i ≤ n ∧ s'.env 3 = .iptr (unitC u) ∧ s'.env 5 = vo ∧ s'.env 7 = va ∧ s'.env 9 = vp ∧ s'.env 10 = .int .i64 i10 ∧ i10 + d = i ∧ s'.ds = [] ∧ Le H9 H'
structure leJ (u : UUnit) (vo va vp : CV) (i : Nat) (H9 : Hp) (n d m : Nat) (s' : CA) (H' : Hp) : Prop where
  ex : ∃ r i11 : Nat, m = n - r ∧ r ≤ n ∧ s'.env 3 = .iptr (unitC u) ∧ s'.env 5 = vo ∧ s'.env 7 = va ∧ s'.env 9 = vp ∧ s'.env 10 = .int .i64 i ∧ s'.env 11 = .int .i64 i11 ∧ i11 + d = r ∧ s'.ds = [] ∧ Le H9 H'
theorem liveLeast_c (hX : CxOk (cx W G)) (hG : G 0 = .iptr formsC) (u0 : UUnit) (H : Hp) : CC Tryz.prog W 3 [.agg (unitC u0)] H fun x H' => x = .ret (.bool true) ∧ H' = H := by
  refine CC.shrink ?_
  refine CC.of_cw hX Tryz.func3 rfl rfl (Nat.le_of_ble_eq_true rfl) ?_
  refine CW.walk hX mixed d3 rfl ?_
  simp
  intro q1 hq1
  refine CW.walk hX mixed d3 rfl ?_
  simp [unitC]
  have hc := small_c hX u0 (H.set q1 (.cells (unitC u0)))
  simp only [unitC] at hc
  refine hc.k ?_
  rintro x H1 ⟨cs, rfl, hle1, huv⟩
  obtain ⟨v0, v5, rfl, hb5⟩ := huv.b
  have hfz := huv.f
  have hok := small_ok u0
  clear huv hc hb5
  generalize cutU u0 60 600 = u at hfz hok ⊢
  have hle1 := (Le.set_new hq1).trans hle1
  simp
  intro q3 hq3
  generalize hH2 : H1.set q3 _ = H2
  have hle2 : Le H1 H2 := by rw [← hH2]; exact Le.set_new hq3
  have m3 : H2 q3 = some (.cells [v0, ci u.params, ci u.regs, ci u.code, ci u.spill, v5]) := by rw [← hH2]; exact set_at
  clear hH2
  have hfz2 := hfz.mono hle2
  have hle2 := hle1.trans hle2
  clear hfz hq3 hle1
  by_cases hs : u0.regs ≤ 200
  rotate_left
  · refine CW.walk hX mixed d3 rfl ?_
    simp [hs, m3]
    refine (alive_c hX hG _).k ?_
    rintro x H3 ⟨rfl, rfl⟩
    simp
    exact hle2
  have hr := right_f hX hG hok hfz2
  by_cases hw : wfU u = true
  rotate_left
  · refine CW.walk hX mixed d3 rfl ?_
    simp [hs, m3]
    refine hr.k ?_
    rintro x H3 ⟨rfl, rfl⟩
    simp [hw]
    refine (alive_c hX hG _).k ?_
    rintro x H4 ⟨rfl, rfl⟩
    simp
    exact hle2
  refine CW.cut (fun s' H' => H' = H2 ∧ s'.env 3 = .ptr q3 0 ∧ s'.ds = []) ?_ ?_
  · refine CW.walk1 hX mixed d3 rfl ?_
    simp [hs, m3]
    refine hr.k ?_
    rintro x H3 ⟨rfl, rfl⟩
    simp [hw]
  clear hr hs
  rintro ⟨e, ds⟩ H3 ⟨rfl, e3, rfl⟩
  dsimp only at e3
  refine CW.freeze (e' := e.set 3 (.iptr (unitC u))) (R := fun e2 => e2 2 = .bool true) ?_ rfl (fun w hw' => ?_) ?_
  · intro t
    by_cases h7 : t = 3
    · subst h7
      show Fz H3 (e 3) _
      rw [e3]
      rw [show (e.set 3 (.iptr (unitC u))) 3 = .iptr (unitC u) by simp]
      cases hfz2 with
      | same => exact .ptr q3 0 _ _ m3 (fun j => ((unitC u)[j]?).getD .any) (fun j hj => by rw [Nat.zero_add]; show (unitC u)[j]? = _; rw [List.getElem?_eq_getElem hj]; rfl) (fun j x hx => by rw [hx]; exact .same _)
      | agg _ _ _ y hy hf => exact .ptr q3 0 _ _ m3 y (fun j hj => by rw [Nat.zero_add]; exact hy j hj) hf
    · simp [h7]
      exact .same _
  · have hXw : CxOk (cx w G) := CxOk.later hX hw'
    have hok := cutOk_uok hok
    clear hX hle2 m3 hfz2
    have he : errU u = 0 := errU_wf.2 hw
    obtain ⟨f1, f2, f3, f4, f5, f6, f7, f8, f9, f10, f11⟩ := wfU_facts hw
    have hun : (CV.iptr (unitC u)) = .iptr [.sl 1 (u.sizes.map fun n => [ci n]), ci u.params, ci u.regs, ci u.code, ci u.spill, .sl 6 (u.blocks.map blkC)] := rfl
    refine CW.walk hXw mixed d3 rfl ?_
    simp [hun]
    have ho := order_c hXw hG u hok (fun _ => none)
    simp only [unitC] at ho
    refine ho.k ?_
    rintro x Ha hO
    obtain ⟨p, c, vo, hp, rfl, hso⟩ := hO.ok he
    clear ho hO
    have hNb : ∀ b, b < u.blocks.length → ∀ k ∈ nextN u p b, k < u.blocks.length := nextN_lt
    have hOR := ord_of (by omega : 0 < u.blocks.length) hNb (f := u.blocks.length) (Nat.le_refl _)
    have hlt := hOR.lt
    have hnl := nodup_le _ _ hOR.nd hlt
    change ∀ b ∈ ordL (nextN u p) u.blocks.length, b < u.blocks.length at hlt
    change (ordL (nextN u p) u.blocks.length).length ≤ _ at hnl
    clear hOR
    generalize ordL (nextN u p) u.blocks.length = ord at hso hlt hnl
    simp
    refine CW.walk hXw mixed d3 rfl ?_
    simp [hun]
    have hal := all17_c hXw hG u hw Ha
    simp only [unitC] at hal
    refine hal.k ?_
    rintro x Hb ⟨p2, c2, I, va, hp2, hl, hbd, rfl, hleb, hva⟩
    obtain ⟨rfl, rfl⟩ := hp.unique hp2
    clear hal hp2
    simp
    have hso := hso.mono hleb
    obtain ⟨rl, cl, csl, rfl, ml, hal⟩ : ∃ r c cs, va = .ref r 0 u.blocks.length c ∧ Hb r = some (.cells cs) ∧ ∀ j, j < u.blocks.length → ∃ x, cs[j]? = some x ∧ SlF Hb x (upto (I j) (64 * mOf u)) := by
      rcases hva with ⟨_, h⟩ | ⟨r, c, cs, h1, h2, h3⟩
      · have := congrArg List.length h
        simp at this
        rw [this] at f7; simp at f7
      · refine ⟨r, c, cs, by simpa using h1, h2, fun j hj => h3 j _ ?_⟩
        rw [List.getElem?_map, List.getElem?_range hj]
        rfl
    refine CW.walk hXw mixed d3 rfl ?_
    simp [hun]
    have hpo := poisons61_c hXw u hw Hb
    simp only [unitC] at hpo
    refine CW.walk hXw mixed d3 rfl ?_
    simp [hun]
    refine hpo.k ?_
    rintro x Hc ⟨p2, c2, rr, rfl, _, mr, hlec, hp2⟩
    obtain ⟨rfl, rfl⟩ := hp.unique hp2
    clear hpo hp2
    simp
    have hso := hso.mono hlec
    have ml := hlec _ _ ml
    have hal := fun j hj => (by obtain ⟨x, h1, h2⟩ := hal j hj; exact ⟨x, h1, h2.mono hlec⟩ : ∃ x, csl[j]? = some x ∧ SlF Hc x (upto (I j) (64 * mOf u)))
    refine CW.cut (fun s' H' => s'.ds = []) ?_ ?_
    · refine CW.walk hXw mixed d3 rfl ?_
      simp
      refine CW.block ?_
      refine CW.loop (leI u vo (.ref rl 0 u.blocks.length cl) (.ref rr 0 u.regs.toNat u.regs.toNat) Hc ord.length 0) ?_ (m := ord.length) ⟨0, 0, rfl, by omega, by simp; rfl, by simp, by simp, by simp, by simp, rfl, rfl, Le.refl _⟩
      clear e3
      clear e
      rintro m ⟨e, ds⟩ H5 ⟨i, i10, rfl, hi, e3, e5, e7, e9, e10, hi10, rfl, hle5⟩
      obtain rfl : i = i10 := by omega
      dsimp only at e3 e5 e7 e9 e10
      by_cases hio : i < ord.length
      rotate_left
      · refine CW.walk hXw mixed d3 rfl ?_
        rcases hso with ⟨rfl, h⟩ | ⟨r, cc, cs, rfl, _⟩
        · simp [natL] at h
          simp [e5, e10]
          omega
        · simp [e5, e10, natL_len, hio]
      obtain ⟨ro, co, cso, rfl, mo, hco⟩ : ∃ r c cs, vo = .ref r 0 ord.length (ord.length + c) ∧ Hc r = some (.cells cs) ∧ ∀ (k : Nat) x, (natL ord)[k]? = some x → cs[k]? = some (ci x) := by
        rcases hso with ⟨_, h⟩ | ⟨r, cc, cs, h1, h2⟩
        · simp [natL] at h; rw [h] at hio; simp at hio
        · exact ⟨r, cc, cs, by rw [h1, natL_len], h2⟩
      obtain ⟨b, hb⟩ : ∃ b, ord[i]? = some b := ⟨_, List.getElem?_eq_getElem hio⟩
      have hbl := hlt b (List.mem_of_getElem? hb)
      have hcb := hco i (b : Int) (by rw [natL, List.getElem?_map, hb]; rfl)
      refine CW.walk hXw mixed d3 rfl ?_
      simp [e5, e10, hio]
      refine CW.cut (leI u (.ref ro 0 ord.length (ord.length + co)) (.ref rl 0 u.blocks.length cl) (.ref rr 0 u.regs.toNat u.regs.toNat) Hc ord.length 1 (ord.length - (i + 1))) ?_ ?_
      rotate_left
      · clear e3 e5 e7 e9 e10
        clear e hle5 H5
        rintro ⟨e, ds⟩ H5 ⟨i2, i10, hm, hi2, e3, e5, e7, e9, e10, hi10, rfl, hle5⟩
        dsimp only at e3 e5 e7 e9 e10
        obtain rfl : i2 = i + 1 := by omega
        obtain rfl : i = i10 := by omega
        refine CW.walk1 hXw mixed d3 rfl ?_
        simp [e10]
        exact ⟨ord.length - (i + 1), by omega, i + 1, i + 1, rfl, hi2, by simp [e3], by simp [e5], by simp [e7], by simp [e9], by simp; rw [wrapI (by omega) (by omega)], rfl, rfl, hle5⟩
      refine CW.block ?_
      refine CW.walk hXw mixed d3 rfl ?_
      simp
      refine CW.block ?_
      refine CW.loop (leJ u (.ref ro 0 ord.length (ord.length + co)) (.ref rl 0 u.blocks.length cl) (.ref rr 0 u.regs.toNat u.regs.toNat) i Hc u.regs.toNat 0) ?_ (m := u.regs.toNat) ⟨0, 0, rfl, by omega, by simp [e3], by simp [e5], by simp [e7], by simp [e9], by simp [e10], by simp, rfl, rfl, hle5⟩
      clear e3 e5 e7 e9 e10 hle5
      clear e H5
      rintro m ⟨e, ds⟩ H5 ⟨r, i11, rfl, hr, e3, e5, e7, e9, e10, e11, hi11, rfl, hle5⟩
      obtain rfl : r = i11 := by omega
      dsimp only at e3 e5 e7 e9 e10 e11
      by_cases hrl : (r : Int) < u.regs
      rotate_left
      · refine CW.walk hXw mixed d3 rfl ?_
        simp [e3, e11, hun, hrl]
        exact ⟨i + 1, i, rfl, by omega, by simp [e3], by simp [e5], by simp [e7], by simp [e9], by simp [e10], rfl, rfl, hle5⟩
      refine CW.walk hXw mixed d3 rfl ?_
      simp [e3, e11, hun, hrl]
      refine CW.cut (leJ u (.ref ro 0 ord.length (ord.length + co)) (.ref rl 0 u.blocks.length cl) (.ref rr 0 u.regs.toNat u.regs.toNat) i Hc u.regs.toNat 1 (u.regs.toNat - (r + 1))) ?_ ?_
      rotate_left
      · clear e3 e5 e7 e9 e10 e11
        clear e hle5 H5
        rintro ⟨e, ds⟩ H5 ⟨r2, i11, hm, hr2, e3, e5, e7, e9, e10, e11, hi11, rfl, hle5⟩
        dsimp only at e3 e5 e7 e9 e10 e11
        obtain rfl : r2 = r + 1 := by omega
        obtain rfl : r = i11 := by omega
        refine CW.walk1 hXw mixed d3 rfl ?_
        simp [e11]
        exact ⟨u.regs.toNat - (r + 1), by omega, r + 1, r + 1, rfl, hr2, by simp [e3], by simp [e5], by simp [e7], by simp [e9], by simp [e10], by simp; rw [wrapI (by omega) (by omega)], rfl, rfl, hle5⟩
      refine CW.block ?_
      obtain ⟨xi, hxi, hsi⟩ := hal b hbl
      have hsi := hsi.mono hle5
      have mo5 := hle5 _ _ mo
      have ml5 := hle5 _ _ ml
      have mr5 := hle5 _ _ mr
      refine CW.walk1 hXw mixed d3 rfl ?_
      simp [d3, e3, e5, e7, e9, e10, e11, hun, hio, hbl, mo5, hcb, ml5, hxi]
      have hul := upto_len (I b) (64 * mOf u)
      have hmem : ((r : Int) ∈ upto (I b) (64 * mOf u)) ↔ I b r = true := by
        rw [mem_upto]
        constructor
        · rintro ⟨r', _, h2, h3⟩
          rwa [show r = r' by omega]
        · exact fun h => ⟨r, by have : mOf u = (u.regs.toNat + 63) / 64 := rfl; omega, h, rfl⟩
      refine (has14_f hXw (r : Int) hsi (by omega)).k ?_
      rintro x H6 ⟨rfl, rfl⟩
      simp [d3, hmem]
      refine ⟨⟨stabI_le rfl (Le.refl _), stabI_le rfl (Le.refl _), stabI_le rfl (Le.refl _)⟩, ?_⟩
      refine ⟨by omega, by omega, fun q hq => ?_⟩
      rw [zeroB]
      have hrq : rr ≠ q := fun e => by rw [← e, mr5] at hq; cases hq
      have hrd := read_c hXw u hw hl r rr (cnt u.blocks.length fun _ => false) b (fun _ => false) q (H6.set q (.cells (boolC u.blocks.length fun _ => false))) hbl (Nat.le_refl _) set_at hrq (by rw [hset_ne hrq]; exact mr5)
      simp only [unitC] at hrd
      refine hrd.k ?_
      rintro x H7 ⟨y, s', rfl, hle7, _, hR⟩
      have hy := hR.law hl
      have hle67 : Le H6 H7 := fun x o hx => hle7 x o (by
        have hxq : x ≠ q := fun e => by rw [e, hq] at hx; cases hx
        simp only [hole, if_neg hxq]
        rw [hset_ne hxq]
        exact hx)
      subst hy
      have hbb : (I b r != I b r) = false := by simp
      simp [d3, hbb]
      exact ⟨r + 1, r, rfl, by omega, by simp [e3], by simp [e5], by simp [e7], by simp [e9], by simp [e10], by simp [e11], rfl, rfl, hle5.trans hle67⟩
    rintro ⟨e', ds⟩ H5 rfl
    refine CW.walk1 hXw mixed d3 rfl ?_
    simp
    refine (alive_c hXw hG _).k ?_
    rintro x H6 ⟨rfl, rfl⟩
    simp
    exact fun _ _ h => by cases h
  · rintro x e2 ds H' hx h6 hmk
    have hfin : leaveQ (cx W G) Tryz.f3.ntmps Tryz.f3.results.toList (fun x H' => ∃ H2, Le H2 H' ∧ x = .ret (.bool true) ∧ H2 = H) ds ⟨plE e2, ds⟩ H' := by
      refine leave_marks ?_ hmk
      intro H5 hle5
      simp [Tryz.f3, plE, h6, plainV]
      exact hle2.trans hle5
    rcases hx with rfl | rfl
    · exact hfin
    · exact hfin
end Go.Cl.Gd
