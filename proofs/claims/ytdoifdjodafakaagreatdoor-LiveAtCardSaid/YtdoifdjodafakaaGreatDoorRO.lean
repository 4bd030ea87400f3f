/- DERIVED HERE. The reference's Of: what is live in a unit. -/
import Derived.Test.YtdoifdjodafakaaGreatDoorRP
import Derived.Test.YtdoifdjodafakaaGreatDoorNM
set_option linter.unusedSimpArgs false
set_option linter.unusedVariables false
namespace Go.Cl
open Go.Proofs Dd
variable {W : World} {G : Nat → CV}
set_option maxRecDepth 8000
set_option maxHeartbeats 4000000
def BndN (u : UUnit) (I : Nat → Nat → Bool) : Prop := ∀ b x, I b x = true → x < u.regs.toNat
theorem FP_bndN {u : UUnit} (hu : wfU u = true) {p : Nat → Bool} {I : Nat → Nat → Bool} (hI : BndN u I) {b : Nat} (hb : b < u.blocks.length) {x : Nat} (h : FP u p I b x = true) : x < u.regs.toNat := by
  obtain ⟨f1, f2, f3, f4, f5, f6, f7, f8, f9, f10, f11⟩ := wfU_facts hu
  have hk : u.blocks[b]? = some (blkAt u b) := by simp [blkAt, List.getD_eq_getElem?_getD, List.getElem?_eq_getElem hb]
  obtain ⟨g1, g2, g3, g4⟩ := wfB_facts hu hk
  obtain ⟨w1, w2, w3, w4, w5⟩ := wfE_facts g4
  simp only [FP] at h
  generalize blkAt u b = k at *
  have hc : ∀ y, catchP u I k y = true → y < u.regs.toNat := fun y hy => by
    simp only [catchP, Bool.and_eq_true] at hy
    exact hI _ _ hy.2.2
  have he : ∀ y, endP u p I k y = true → y < u.regs.toNat := fun y hy => by
    simp only [endP, Bool.or_eq_true, Bool.and_eq_true, decide_eq_true_eq, beq_iff_eq] at hy
    rcases hy with ((hy | hy) | hy) | hy
    · exact hI _ _ hy.2
    · exact hI _ _ hy.2
    · exact hc _ hy.2
    · have := w3 hy.1; omega
  have hs : ∀ l, (∀ o ∈ l, wfOp u o = true) → ∀ y, beforeP u p I k l y = true → y < u.regs.toNat := by
    intro l
    induction l with
    | nil => exact fun _ => he
    | cons o l ih =>
      intro hl y hy
      obtain ⟨o1, o2, o3, o4, o5, o6, o7, o8, o9⟩ := wfO_facts (hl o (List.mem_cons_self ..)) f3
      have hy : stepP u p I k o (beforeP u p I k l) y = true := hy
      simp only [stepP, Bool.or_eq_true, Bool.and_eq_true, List.any_eq_true, beq_iff_eq] at hy
      rcases hy with ((hy | hy) | hy) | ⟨z, hz, rfl⟩
      · exact ih (fun o ho => hl o (List.mem_cons_of_mem _ ho)) y hy.1
      · exact hI _ _ hy.2
      · exact hc _ hy.2
      · have := o3 z hz; omega
  exact hs _ g3 x h
/-- What one look at all blocks, from the last on, has made so far. -/
structure LV (u : UUnit) (p : Nat → Bool) (I : Nat → Nat → Bool) (i : Nat) (I' : Nat → Nat → Bool) (a : Bool) : Prop where
  low : LLow u p I'
  up : LUp u p I'
  bnd : BndN u I'
  gt : a = true → gapL u I' < gapL u I
  same : a = false → I' = I ∧ ∀ b, i ≤ b → b < u.blocks.length → FP u p I b = I b
theorem LV.step {u : UUnit} (hu : wfU u = true) {p : Nat → Bool} {I I' : Nat → Nat → Bool} {i : Nat} {a : Bool} (h : LV u p I (i + 1) I' a) (hi : i < u.blocks.length) {diff : Bool} (hd : diff = true ↔ ∃ x, x < u.regs.toNat ∧ FP u p I' i x ≠ I' i x) : LV u p I i (setAt I' i (FP u p I' i)) (a || diff) := by
  have hm : mOf u = (u.regs.toNat + 63) / 64 := rfl
  have hge : gapL u I' ≤ gapL u I := by
    cases a with
    | true => exact Nat.le_of_lt (h.gt rfl)
    | false => obtain ⟨rfl, _⟩ := h.same rfl; exact Nat.le_refl _
  have hsub := setAt_up h.up i
  have hle := gapL_le (u := u) hsub
  refine ⟨h.low.step hi, h.up.step i, fun b x hx => ?_, fun ha => ?_, fun ha => ?_⟩
  · simp only [setAt] at hx
    split at hx
    · rename_i e; subst e; exact FP_bndN hu h.bnd hi hx
    · exact h.bnd b x hx
  · simp only [Bool.or_eq_true] at ha
    rcases ha with ha | ha
    · have := h.gt ha; omega
    · obtain ⟨x, hx, hne⟩ := hd.1 ha
      have h1 : I' i x = false := by
        cases hc : I' i x
        · rfl
        · rw [h.up i x hc, hc] at hne; exact absurd rfl hne
      have h2 : FP u p I' i x = true := by
        cases hc : FP u p I' i x
        · rw [hc, h1] at hne; exact absurd rfl hne
        · rfl
      have := gapL_lt (u := u) hsub hi (x := x) (by omega) h1 (by simp [setAt, h2])
      omega
  · simp only [Bool.or_eq_false_iff] at ha
    obtain ⟨h1, h2⟩ := h.same ha.1
    have hfix : FP u p I' i = I' i := by
      funext x
      rcases Nat.lt_or_ge x u.regs.toNat with hx | hx
      · refine Classical.byContradiction fun hne => ?_
        have := hd.2 ⟨x, hx, hne⟩
        rw [ha.2] at this
        cases this
      · have e1 : FP u p I' i x = false := by
          cases hc : FP u p I' i x
          · rfl
          · have := FP_bndN hu h.bnd hi hc; omega
        have e2 : I' i x = false := by
          cases hc : I' i x
          · rfl
          · have := h.bnd i x hc; omega
        rw [e1, e2]
    have hset : setAt I' i (FP u p I' i) = I' := by
      funext b
      simp only [setAt]
      split
      · rename_i e; subst e; exact hfix
      · rfl
    rw [hset]
    refine ⟨h1, fun b hb hbl => ?_⟩
    by_cases hbi : b = i
    · subst hbi; rw [← h1]; exact hfix
    · exact h2 b (by omega) hbl
/-- A Live of the reference, as it lies. -/
structure LR (H : Hp) (lp rp ri ci : Nat) (σ : Nat → Nat) (ex : List CV) (u : UUnit) (p : Nat → Bool) (I : Nat → Nat → Bool) : Prop where
  l : H lp = some (.cells (unitC u ++ [.ref rp 0 u.regs.toNat u.regs.toNat, .ref ri 0 u.blocks.length ci]))
  r : H rp = some (.cells (boolC u.regs.toNat p))
  i : H ri = some (.cells (refsC u.blocks.length u.regs.toNat σ ++ ex))
  n : u.blocks.length ≤ ci
  s : ∀ b, b < u.blocks.length → H (σ b) = some (.cells (boolC u.regs.toNat (I b)))
section
variable {H H' : Hp} {lp rp ri ci : Nat} {σ : Nat → Nat} {ex : List CV} {u : UUnit} {p : Nat → Bool} {I : Nat → Nat → Bool}
theorem LR.mono (h : LR H lp rp ri ci σ ex u p I) (hl : Le H H') : LR H' lp rp ri ci σ ex u p I :=
  ⟨hl _ _ h.l, hl _ _ h.r, hl _ _ h.i, h.n, fun b hb => hl _ _ (h.s b hb)⟩
theorem LR.fzIn (h : LR H lp rp ri ci σ ex u p I) : Fz H (.ref ri 0 u.blocks.length ci) (.sl 1 (insS u.blocks.length u.regs.toNat I)) := by
  refine .ref ri 0 _ ci 1 _ _ h.i insS_len h.n (fun i e he => ?_) (fun i _ => .ref (σ i) 0 u.regs.toNat u.regs.toNat) (fun i j hi hj => ?_) (fun i j e x he hx => ?_)
  · simp only [insS, List.getElem?_map] at he
    cases hr : (List.range u.blocks.length)[i]? with
    | none => rw [hr] at he; simp at he
    | some b => rw [hr] at he; simp at he; rw [← he]; rfl
  · have : j = 0 := by omega
    subst this
    rw [show 0 + (i * 1 + 0) = i by omega, List.getElem?_append_left (by rw [refsC_len]; exact hi), refsC_get hi]
  · have hi : i < u.blocks.length := by have := (List.getElem?_eq_some_iff.1 he).1; simpa [insS] using this
    rw [insS_get hi] at he
    injection he with he
    rw [← he] at hx
    cases j with
    | zero => simp at hx; subst hx; exact fz_bool (h.s i hi) (Nat.le_refl _)
    | succ j => simp at hx
theorem LR.fz (h : LR H lp rp ri ci σ ex u p I) : Fz H (.ptr lp 0) (.iptr (refC u p I)) := by
  refine .ptr lp 0 _ _ h.l (fun j => (unitC u ++ [CV.ref rp 0 u.regs.toNat u.regs.toNat, CV.ref ri 0 u.blocks.length ci]).getD j .any) (fun j hj => ?_) (fun j x hx => ?_)
  · have hj : j < 8 := by simpa [refC, unitC] using hj
    rw [Nat.zero_add, List.getD_eq_getElem?_getD, List.getElem?_eq_getElem (by simp [unitC]; omega)]
    rfl
  · simp only [refC, unitC] at hx ⊢
    rcases j with _|_|_|_|_|_|_|_|j
    all_goals simp at hx ⊢
    all_goals subst hx
    all_goals first
      | exact .same _
      | exact fz_bool h.r (Nat.le_refl _)
      | exact h.fzIn
end
/-- Before, on a Live as it lies. -/
theorem before_h (hX : CxOk (cx W G)) (u : UUnit) (hu : wfU u = true) {H : Hp} {lp rp ri ci : Nat} {σ : Nat → Nat} {ex : List CV} {p : Nat → Bool} {I : Nat → Nat → Bool} (hL : LR H lp rp ri ci σ ex u p I) (b : Nat) (k : UBlk) (hb : u.blocks[b]? = some k) (i : Nat) (hi : i ≤ k.ops.length) :
    CC Tryz.prog W 32 [.ptr lp 0, .int .i64 b, .int .i64 i] H fun x H' => ∃ r, H r = none ∧ x = .ret (.ref r 0 u.regs.toNat u.regs.toNat) ∧ H' = H.set r (.cells (boolC u.regs.toNat (beforeP u p I k (k.ops.drop i)))) := by
  refine (CC.freeze2 (args' := [.iptr (refC u p I), .int .i64 b, .int .i64 i]) (R := fun x H' => ∃ r, x = .ret (.ref r 0 u.regs.toNat u.regs.toNat) ∧ H' = Hp.set (fun _ => none) r (.cells (boolC u.regs.toNat (beforeP u p I k (k.ops.drop i))))) (by rfl) ?_ ?_ ?_).mono ?_
  · intro j x y hx hy
    rcases j with _|_|_|j
    · simp at hx hy; subst hx; subst hy; exact hL.fz
    · simp at hx hy; subst hx; subst hy; exact .same _
    · simp at hx hy; subst hx; subst hy; exact .same _
    · simp at hx
  · rintro x H' ⟨r, rfl, rfl⟩
    refine ⟨.ref _ _ _ _, fun q o hq => ?_⟩
    simp only [Hp.set] at hq
    split at hq
    · injection hq with hq
      subst hq
      intro j y hy
      rw [boolC_gets] at hy
      rw [← hy.2]
      exact .bool _
    · cases hq
  · intro w hw
    exact (before41_c (W := w) (CxOk.later hX hw) u hu p I b k hb _ i rfl hi _).mono fun x H' ⟨r, _, h1, h2⟩ => ⟨r, h1, h2⟩
  · rintro x H2 ⟨H', ⟨r, rfl, rfl⟩, hnew, rfl⟩
    have hr := hnew r _ (by simp [Hp.set]; rfl)
    exact ⟨r, hr, rfl, hun_one hr⟩
theorem Own.putB {B H : Hp} {v : CV} {sz : Nat} {xs : List (List CV)} (h : Own B H v sz xs) {q : Nat} {o : Ob} (hq : B q ≠ none) : Own (B.set q o) (H.set q o) v sz xs := by
  obtain ⟨h1, h2, h3⟩ := h
  refine ⟨h1.set, h2, ?_⟩
  rcases h3 with h3 | ⟨r, c, ex, rfl, h4, h5, h6⟩
  · exact .inl h3
  · have hne : r ≠ q := fun e => hq (by rw [← e]; exact h4)
    exact .inr ⟨r, c, ex, rfl, by rw [hset_ne hne]; exact h4, by rw [hset_ne hne]; exact h5, h6⟩
/-- What Of holds while it makes the empty sets. -/
structure O1 (H B : Hp) (u : UUnit) (p : Nat → Bool) (q1 lp rp : Nat) (i : Nat) (v : CV) (σ : Nat → Nat) : Prop where
  base : Le H B
  h1 : B q1 = some (.cells (unitC u))
  l : B lp = some (.cells (unitC u ++ [.ref rp 0 u.regs.toNat u.regs.toNat, v]))
  r : B rp = some (.cells (boolC u.regs.toNat p))
  s : ∀ b, b < i → B (σ b) = some (.cells (boolC u.regs.toNat fun _ => false))
  n1 : lp ≠ q1
  nr : lp ≠ rp
  ns : ∀ b, b < i → lp ≠ σ b
  hl : H lp = none
structure O1I (H : Hp) (u : UUnit) (p : Nat → Bool) (q1 lp rp : Nat) (d : Nat) (j : Nat) (s' : CA) (H' : Hp) : Prop where
  ex : ∃ i i17 v σ B, i ≤ u.blocks.length ∧ j = u.blocks.length - i ∧ s'.env 1 = .ptr q1 0 ∧ s'.env 3 = .ptr lp 0 ∧ s'.env 16 = .int .i64 u.blocks.length ∧ s'.env 17 = .int .i64 (i17 : Nat) ∧ i17 + d = i ∧ s'.ds = [] ∧ O1 H B u p q1 lp rp i v σ ∧ Own B H' v 1 ((refsC i u.regs.toNat σ).map fun x => [x])
structure O1E (H : Hp) (u : UUnit) (p : Nat → Bool) (q1 lp rp : Nat) (s' : CA) (H' : Hp) : Prop where
  ex : ∃ v σ B, s'.env 1 = .ptr q1 0 ∧ s'.env 3 = .ptr lp 0 ∧ s'.ds = [] ∧ O1 H B u p q1 lp rp u.blocks.length v σ ∧ Own B H' v 1 ((refsC u.blocks.length u.regs.toNat σ).map fun x => [x])
/-- What Of holds while it looks again and again. -/
structure O2 (H B : Hp) (u : UUnit) (p : Nat → Bool) (q1 lp rp ri ci : Nat) (σ : Nat → Nat) (ex : List CV) (I : Nat → Nat → Bool) : Prop where
  base : Le H B
  h1 : B q1 = some (.cells (unitC u))
  L : LR B lp rp ri ci σ ex u p I
  i1 : ri ≠ q1
  il : ri ≠ lp
  ir : ri ≠ rp
  is : ∀ b, b < u.blocks.length → ri ≠ σ b
  hi : H ri = none
section
variable {H B : Hp} {u : UUnit} {p : Nat → Bool} {q1 lp rp ri ci : Nat} {σ : Nat → Nat} {ex : List CV} {I : Nat → Nat → Bool}
theorem O2.more (h : O2 H B u p q1 lp rp ri ci σ ex I) {q : Nat} {o : Ob} (hq : B q = none) : O2 H (B.set q o) u p q1 lp rp ri ci σ ex I := by
  have hl : Le B (B.set q o) := Le.set_new hq
  exact ⟨h.base.trans hl, hl _ _ h.h1, h.L.mono hl, h.i1, h.il, h.ir, h.is, h.hi⟩
theorem O2.step (h : O2 H B u p q1 lp rp ri ci σ ex I) {r i : Nat} {f : Nat → Bool} (hr : B r = none) (hi : i < u.blocks.length) :
    O2 H ((B.set r (.cells (boolC u.regs.toNat f))).set ri (.cells (refsC u.blocks.length u.regs.toNat (fun b => if b = i then r else σ b) ++ ex))) u p q1 lp rp ri ci (fun b => if b = i then r else σ b) ex (setAt I i f) := by
  have k : ∀ q o, B q = some o → q ≠ r := fun q o hq e => by rw [e, hr] at hq; cases hq
  have k1 := k _ _ h.h1
  have kl := k _ _ h.L.l
  have kr := k _ _ h.L.r
  have ki := k _ _ h.L.i
  refine ⟨(h.base.trans (Le.set_new hr)).put h.hi, by simp [Ne.symm h.i1, k1, h.h1], ⟨by simp [Ne.symm h.il, kl, h.L.l], by simp [Ne.symm h.ir, kr, h.L.r], by simp, h.L.n, fun b hb => ?_⟩, h.i1, h.il, h.ir, fun b hb => ?_, h.hi⟩
  · by_cases hbi : b = i
    · subst hbi; simp [Ne.symm ki, setAt]
    · have := k _ _ (h.L.s b hb)
      simp [hbi, Ne.symm (h.is b hb), this, h.L.s b hb, setAt]
  · by_cases hbi : b = i
    · subst hbi; simpa using ki
    · simpa [hbi] using h.is b hb
end
structure O2I (H : Hp) (u : UUnit) (p : Nat → Bool) (q1 lp rp ri ci : Nat) (ex : List CV) (j : Nat) (s' : CA) (H' : Hp) : Prop where
  ex : ∃ I σ a, j = 2 * gapL u I + (if a = true then 1 else 0) ∧ s'.env 1 = .ptr q1 0 ∧ s'.env 3 = .ptr lp 0 ∧ s'.env 5 = .bool a ∧ s'.ds = [] ∧ O2 H H' u p q1 lp rp ri ci σ ex I ∧ LLow u p I ∧ LUp u p I ∧ BndN u I ∧ (a = false → ∀ b, b < u.blocks.length → FP u p I b = I b)
structure O2J (H : Hp) (u : UUnit) (p : Nat → Bool) (q1 lp rp ri ci : Nat) (ex : List CV) (I : Nat → Nat → Bool) (d : Nat) (j : Nat) (s' : CA) (H' : Hp) : Prop where
  ex : ∃ i I' σ a, i ≤ u.blocks.length ∧ j = i ∧ s'.env 1 = .ptr q1 0 ∧ s'.env 3 = .ptr lp 0 ∧ s'.env 5 = .bool a ∧ s'.env 6 = .int .i64 ((i : Int) - 1 + d) ∧ s'.ds = [] ∧ O2 H H' u p q1 lp rp ri ci σ ex I' ∧ LV u p I i I' a
structure O2M (H : Hp) (u : UUnit) (p : Nat → Bool) (q1 lp rp ri ci : Nat) (ex : List CV) (I : Nat → Nat → Bool) (s' : CA) (H' : Hp) : Prop where
  ex : ∃ I' σ a, s'.env 1 = .ptr q1 0 ∧ s'.env 3 = .ptr lp 0 ∧ s'.env 5 = .bool a ∧ s'.ds = [] ∧ O2 H H' u p q1 lp rp ri ci σ ex I' ∧ LV u p I 0 I' a
def difN (f g : Nat → Bool) (t : Nat) : Bool := (List.range t).any fun x => f x != g x
theorem difN_iff {f g : Nat → Bool} {t : Nat} : difN f g t = true ↔ ∃ x, x < t ∧ f x ≠ g x := by
  simp [difN]
theorem difN_succ {f g : Nat → Bool} {t : Nat} : difN f g (t + 1) = (difN f g t || (f t != g t)) := by
  simp [difN, List.range_succ]
structure O2X (q1 lp r7 n b : Nat) (x5 : Bool) (H6 : Hp) (s' : CA) (H' : Hp) : Prop where
  ex : s'.env 1 = .ptr q1 0 ∧ s'.env 3 = .ptr lp 0 ∧ s'.env 5 = .bool x5 ∧ s'.env 6 = .int .i64 b ∧ s'.env 7 = .ref r7 0 n n ∧ s'.ds = [] ∧ H' = H6
structure O2Y (q1 lp r7 n b : Nat) (a : Bool) (f g : Nat → Bool) (H6 : Hp) (d : Nat) (j : Nat) (s' : CA) (H' : Hp) : Prop where
  ex : ∃ t t' : Nat, t ≤ n ∧ j = n - t ∧ O2X q1 lp r7 n b (a || difN f g t) H6 s' H' ∧ s'.env 8 = .int .i64 t' ∧ t' + d = t
structure O2Z (H : Hp) (u : UUnit) (p : Nat → Bool) (lp rp ri ci : Nat) (ex : List CV) (s' : CA) (H' : Hp) : Prop where
  ex : ∃ I σ, s'.env 3 = .ptr lp 0 ∧ s'.ds = [] ∧ Le H H' ∧ LLeast u p I ∧ BndN u I ∧ LR H' lp rp ri ci σ ex u p I
/-- What Of gives. -/
structure OfR (H : Hp) (u : UUnit) (x : CE) (H' : Hp) : Prop where
  ex : ∃ lp rp ri ci σ ex p c I, x = .ret (.ptr lp 0) ∧ Le H H' ∧ PLeast (opsOf u) p c ∧ LLeast u p I ∧ BndN u I ∧ LR H' lp rp ri ci σ ex u p I
theorem of38_c (hX : CxOk (cx W G)) (u : UUnit) (hu : wfU u = true) (H : Hp) :
    CC Tryz.prog W 31 [.agg (unitC u)] H (OfR H u) := by
  obtain ⟨f1, f2, f3, f4, f5, f6, f7, f8, f9, f10, f11⟩ := wfU_facts hu
  refine CC.of_cw hX Tryz.func31 rfl rfl (Nat.le_of_ble_eq_true rfl) ?_
  refine CW.walk hX mixed d31 rfl ?_
  simp
  intro q1 hq1
  refine CW.walk hX mixed d31 rfl ?_
  simp [d31, unitC]
  refine (poisons61_c hX u hu _).k ?_
  rintro x H1 ⟨p, c, rp, rfl, hrp, hr, hle, hpl⟩
  simp [cfill]
  refine ⟨stabI_le rfl hle, fun lp hlp => ?_⟩
  have hH1 : Le H H1 := (Le.set_new hq1).trans hle
  have h11 : H1 q1 = some (.cells (unitC u)) := hle q1 _ (by simp [unitC])
  have hl1 : lp ≠ q1 := fun e => by rw [e, h11] at hlp; cases hlp
  have hlr : lp ≠ rp := fun e => by rw [e, hr] at hlp; cases hlp
  refine CW.cut (O1E H u p q1 lp rp) ?_ ?_
  · have hB : O1 H (H1.set lp (.cells (unitC u ++ [.ref rp 0 u.regs.toNat u.regs.toNat, .nilsl]))) u p q1 lp rp 0 .nilsl (fun _ => 0) :=
      ⟨hH1.trans (Le.set_new hlp), by simp [Ne.symm hl1, h11], by simp, by simp [Ne.symm hlr, hr], fun b hb => absurd hb (by omega), hl1, hlr, fun b hb => absurd hb (by omega), hH1.none hlp⟩
    refine CW.walk hX mixed d31 rfl ?_
    simp [Ne.symm hl1, h11, unitC]
    refine CW.block ?_
    refine CW.loop (O1I H u p q1 lp rp 0) ?_ (m := u.blocks.length) ⟨0, 0, .nilsl, fun _ => 0, _, by omega, by omega, by simp, by simp, by simp, by simp, rfl, rfl, hB, by simp [refsC, unitC]; exact Own.nil (Le.refl _)⟩
    clear hB
    rintro j ⟨e, ds⟩ H2 ⟨i, i17, v, σ, B, hi, rfl, e1, e3, e16, e17, hd, rfl, hN, hown⟩
    obtain rfl : i17 = i := by omega
    dsimp only at e1 e3 e16 e17
    have m1 := hown.le _ _ hN.h1
    have ml := hown.le _ _ hN.l
    simp only [unitC] at m1 ml
    by_cases hil : i17 < u.blocks.length
    rotate_left
    · refine CW.walk hX mixed d31 rfl ?_
      simp [e16, e17, hil]
      refine CW.walk hX mixed d31 rfl ?_
      simp
      have : i17 = u.blocks.length := by omega
      subst this
      exact ⟨v, σ, B, by simp [e1], by simp [e3], rfl, hN, hown⟩
    refine CW.walk hX mixed d31 rfl ?_
    simp [e16, e17, hil]
    refine CW.walk hX mixed d31 rfl ?_
    simp
    refine CW.cut (O1I H u p q1 lp rp 1 (u.blocks.length - (i17 + 1))) ?_ ?_
    · refine CW.block ?_
      refine CW.walk hX mixed d31 rfl ?_
      simp [e1, e3, ml]
      refine CW.walk1 hX mixed d31 rfl ?_
      simp [e1, e3, ml, m1, -vcAppend]
      refine ⟨by omega, by omega, by omega, ?_⟩
      intro r hr0
      rw [zeroB]
      simp [cfill, -vcAppend]
      intro q hqr hrq hq
      have hkB : ∀ z o, B z = some o → z ≠ r := fun z o hz e => by have := hown.le z o hz; rw [e, hr0] at this; cases this
      have hkq : ∀ z o, B z = some o → z ≠ q := fun z o hz e => by have := hown.le z o hz; rw [e, hq] at this; cases this
      have hBr := hown.le.none hr0
      have hg0 : Own (B.set r (.cells (boolC u.regs.toNat fun _ => false))) (H2.set r (.cells (boolC u.regs.toNat fun _ => false))) v 1 ((refsC i17 u.regs.toNat σ).map fun x => [x]) := hown.grow hr0
      have hg := hg0.more (r := q) (o := .cells [.ref r 0 u.regs.toNat u.regs.toNat]) (by simp [hqr, hq])
      refine hg.append (ys := [[.ref r 0 u.regs.toNat u.regs.toNat]]) (by simp) (by simp [refsC_len]; omega) (src_one set_at rfl) fun v' H3 how3 _ => ?_
      have kl := how3.le lp _ (show _ = some _ by simp only [Hp.set, if_neg (hkB lp _ hN.l)]; exact hN.l)
      simp only [unitC] at kl
      obtain ⟨qv, cv, hv'⟩ := how3.isRef (by simp)
      have hlen : ((refsC i17 u.regs.toNat σ).map (fun x => [x]) ++ [[CV.ref r 0 u.regs.toNat u.regs.toNat]]).length = i17 + 1 := by simp [refsC_len]
      rw [hlen] at hv'
      subst hv'
      simp [e1, e3, e16, e17, kl]
      refine ⟨i17 + 1, i17, .ref qv 0 (i17 + 1) cv, fun b => if b = i17 then r else σ b, (B.set r (.cells (boolC u.regs.toNat fun _ => false))).set lp (.cells (unitC u ++ [.ref rp 0 u.regs.toNat u.regs.toNat, .ref qv 0 (i17 + 1) cv])), by omega, rfl, by simp [e1], by simp [e3], by simp [e16], by simp [e17], rfl, rfl, ?_, ?_⟩
      · have g1 := hkB q1 _ hN.h1
        have gr := hkB rp _ hN.r
        have gl := hkB lp _ hN.l
        refine ⟨?_, by simp [Ne.symm hN.n1, g1, hN.h1], by simp, by simp [Ne.symm hN.nr, gr, hN.r], fun b hb => ?_, hN.n1, hN.nr, fun b hb => ?_, hN.hl⟩
        · exact ((hN.base.trans (Le.set_new hBr)).put hN.hl)
        · by_cases hbi : b = i17
          · subst hbi; simp [Ne.symm gl]
          · have hbl : b < i17 := by omega
            have := hkB _ _ (hN.s b hbl)
            simp [hbi, Ne.symm (hN.ns b hbl), this, hN.s b hbl]
        · by_cases hbi : b = i17
          · subst hbi; simpa using gl
          · simpa [hbi] using hN.ns b (by omega)
      · rw [refsC_succ, List.map_append]
        have := how3.setBase (r := lp) (o := .cells (unitC u ++ [.ref rp 0 u.regs.toNat u.regs.toNat, .ref qv 0 (i17 + 1) cv])) (by simp [hkB lp _ hN.l, hN.l])
        simpa [unitC] using this
    · rintro ⟨en, ds⟩ H3 ⟨i', i17', v', σ', B', hi', hj', g1, g3, g16, g17, hd', rfl, hN', hown'⟩
      dsimp only at g1 g3 g16 g17
      refine CW.walk1 hX mixed d31 rfl ?_
      simp [g17]
      exact ⟨u.blocks.length - (i17 + 1), by omega, i', i', v', σ', B', hi', hj', by simp [g1], by simp [g3], by simp [g16], by simp; rw [wrapI (by omega) (by omega)]; omega, rfl, rfl, hN', hown'⟩
  rintro ⟨e, ds⟩ H2 ⟨v, σ, B, e1, e3, rfl, hN, hown⟩
  dsimp only at e1 e3
  obtain ⟨ri, ci, ex, rfl, hri, hri2, hci⟩ : ∃ ri ci ex, v = .ref ri 0 u.blocks.length ci ∧ B ri = none ∧ H2 ri = some (.cells (refsC u.blocks.length u.regs.toNat σ ++ ex)) ∧ u.blocks.length ≤ ci := by
    obtain ⟨_, _, ⟨_, hx⟩ | ⟨q, c, ex, rfl, h1, h2, _, h4⟩⟩ := hown
    · have := congrArg List.length hx
      simp [refsC_len] at this
      rw [this] at f7
      simp at f7
    · refine ⟨q, c, ex, by simp [refsC_len], h1, ?_, by simpa [refsC_len] using h4⟩
      rw [h2]
      congr 3
      simp [List.flatten_eq_flatMap, List.flatMap_map]
  have kB : ∀ z o, B z = some o → ri ≠ z := fun z o hz e => by rw [← e, hri] at hz; cases hz
  have hO2 : O2 H H2 u p q1 lp rp ri ci σ ex (fun _ _ => false) := by
    have gl := hown.le
    exact ⟨hN.base.trans gl, gl _ _ hN.h1, ⟨gl _ _ hN.l, gl _ _ hN.r, hri2, hci, fun b hb => gl _ _ (hN.s b hb)⟩, kB _ _ hN.h1, kB _ _ hN.l, kB _ _ hN.r, fun b hb => kB _ _ (hN.s b hb), hN.base.none hri⟩
  clear hN hown hri hri2 hci kB hl1 hlr h11 hH1 hlp hle hr hrp hq1
  refine CW.cut (O2Z H u p lp rp ri ci ex) ?_ ?_
  · refine CW.walk hX mixed d31 rfl ?_
    simp
    refine CW.block ?_
    refine CW.loop (O2I H u p q1 lp rp ri ci ex) ?_ (m := 2 * gapL u (fun _ _ => false) + 1) ⟨fun _ _ => false, σ, true, rfl, by simp [e1], by simp [e3], by simp, rfl, hO2, LLow.empty u p, fun b x hx => by simp at hx, fun b x hx => by simp at hx, by simp⟩
    clear hO2 e1 e3
    clear σ e H2
    rintro j ⟨e, ds⟩ H2 ⟨I, σ, a, rfl, e1, e3, e5, rfl, hN, hlow, hup, hbnd, heq⟩
    dsimp only at e1 e3 e5
    cases a with
    | false =>
      refine CW.walk hX mixed d31 rfl ?_
      simp [e5]
      exact ⟨I, σ, by simp [e3], rfl, hN.base, ⟨fun b hb x hx => by rw [← heq rfl b hb]; exact hx, hlow⟩, hbnd, hN.L⟩
    | true =>
    refine CW.walk hX mixed d31 rfl ?_
    simp [e5]
    refine CW.mono (Q := fun x s' H' => x = .normal ∧ O2M H u p q1 lp rp ri ci ex I s' H') ?_ ?_
    · refine CW.block ?_
      refine CW.walk hX mixed d31 rfl ?_
      simp
      have m1 := hN.h1
      simp only [unitC] at m1
      refine CW.walk hX mixed d31 rfl ?_
      simp [e1, e3, m1]
      refine CW.block ?_
      refine CW.loop (O2J H u p q1 lp rp ri ci ex I 0) ?_ (m := u.blocks.length) ⟨u.blocks.length, I, σ, false, by omega, rfl, by simp [e1], by simp [e3], by simp, by simp; rw [wrapI (by omega) (by omega)], rfl, hN, ⟨hlow, hup, hbnd, by simp, fun _ => ⟨rfl, fun b h1 h2 => absurd h2 (by omega)⟩⟩⟩
      clear hN hlow hup hbnd heq m1 e1 e3 e5
      clear σ e H2
      rintro i ⟨e, ds⟩ H2 ⟨_, I', σ, a, hi, rfl, e1, e3, e5, e6, rfl, hN, hV⟩
      dsimp only at e1 e3 e5 e6
      cases i with
      | zero =>
        rw [show (((0 : Nat) : Int) - 1 + (0 : Nat)) = -1 by omega] at e6
        refine CW.walk hX mixed d31 rfl ?_
        simp [e6]
        exact ⟨I', σ, a, by simp [e1], by simp [e3], by simp [e5], rfl, hN, hV⟩
      | succ b =>
      rw [show (((b + 1 : Nat) : Int) - 1 + (0 : Nat)) = (b : Int) by omega] at e6
      have hbl : b < u.blocks.length := hi
      refine CW.walk hX mixed d31 rfl ?_
      simp [e6]
      refine CW.cut (O2J H u p q1 lp rp ri ci ex I 1 b) ?_ ?_
      · refine CW.block ?_
        obtain ⟨kb, hkb⟩ : ∃ kb, u.blocks[b]? = some kb := ⟨_, List.getElem?_eq_getElem hbl⟩
        refine CW.walk hX mixed d31 rfl ?_
        simp [e3, e6]
        have hat := before_h hX u hu hN.L b kb hkb 0 (Nat.zero_le _)
        simp only [List.drop_zero] at hat
        have hfp : beforeP u p I' kb kb.ops = FP u p I' b := by rw [← FP_blk hkb]
        rw [hfp] at hat
        refine hat.k ?_
        rintro x H3 ⟨r, hr, rfl, rfl⟩
        simp
        have kr : ∀ z o, H2 z = some o → z ≠ r := fun z o hz e => by rw [e, hr] at hz; cases hz
        have hNr : O2 H (H2.set r (.cells (boolC u.regs.toNat (FP u p I' b)))) u p q1 lp rp ri ci σ ex I' := hN.more hr
        have mr : (H2.set r (.cells (boolC u.regs.toNat (FP u p I' b)))) r = some (.cells (boolC u.regs.toNat (FP u p I' b))) := set_at
        have m1 := hNr.h1
        have ml := hNr.L.l
        have mi := hNr.L.i
        have ms := hNr.L.s b hbl
        simp only [unitC] at m1 ml
        have hget : (refsC u.blocks.length u.regs.toNat σ ++ ex)[b]? = some (.ref (σ b) 0 u.regs.toNat u.regs.toNat) := by rw [List.getElem?_append_left (by rw [refsC_len]; exact hbl), refsC_get hbl]
        refine CW.cut (O2X q1 lp r u.regs.toNat b (a || difN (FP u p I' b) (I' b) u.regs.toNat) (H2.set r (.cells (boolC u.regs.toNat (FP u p I' b))))) ?_ ?_
        · refine CW.walk hX mixed d31 rfl ?_
          simp
          refine CW.block ?_
          refine CW.loop (O2Y q1 lp r u.regs.toNat b a (FP u p I' b) (I' b) (H2.set r (.cells (boolC u.regs.toNat (FP u p I' b)))) 0) ?_ (m := u.regs.toNat) ⟨0, 0, by omega, rfl, ⟨by simp [e1], by simp [e3], by simp [e5, difN], by simp [e6], by simp, rfl, rfl⟩, by simp, rfl⟩
          clear e1 e3 e5 e6
          generalize hH3 : H2.set r (.cells (boolC u.regs.toNat (FP u p I' b))) = H3 at *
          rintro j ⟨e, ds⟩ H4 ⟨t, t', ht, rfl, ⟨e1, e3, e5, e6, e7, rfl, rfl⟩, e8, htt⟩
          obtain rfl : t' = t := by omega
          dsimp only at e1 e3 e5 e6 e7 e8
          by_cases htl : t' < u.regs.toNat
          rotate_left
          · have : t' = u.regs.toNat := by omega
            subst this
            have hnl : ¬ (u.regs.toNat : Int) < u.regs := by omega
            refine CW.walk hX mixed d31 rfl ?_
            simp [e1, e8, m1, hnl]
            refine ⟨fun h => absurd h (by omega), fun _ => ?_⟩
            exact ⟨by simp [e1], by simp [e3], by simp [e5], by simp [e6], by simp [e7], rfl, rfl⟩
          have htl' : (t' : Int) < u.regs := by omega
          refine CW.walk hX mixed d31 rfl ?_
          simp [e1, e8, m1, htl']
          refine CW.cut (O2Y q1 lp r u.regs.toNat b a (FP u p I' b) (I' b) H4 1 (u.regs.toNat - (t' + 1))) ?_ ?_
          · refine CW.block ?_
            refine CW.walk1 hX mixed d31 rfl ?_
            cases hx5 : (a || difN (FP u p I' b) (I' b) t') with
            | true =>
              rw [hx5] at e5
              simp [d31, e5]
              exact ⟨t' + 1, t', htl, rfl, ⟨by simp [e1], by simp [e3], by simp [difN_succ, ← Bool.or_assoc, hx5], by simp [e6], by simp [e7], rfl, rfl⟩, by simp [e8], rfl⟩
            | false =>
              rw [hx5] at e5
              simp [d31, e3, e5, e6, e7, e8, ml, mi, mr, ms, hget, hbl, htl, boolC_get]
              refine ⟨by omega, t' + 1, t', htl, rfl, ⟨by simp [e1], by simp [e3], ?_, by simp [e6], by simp [e7], rfl, rfl⟩, by simp [e8], rfl⟩
              rw [difN_succ, ← Bool.or_assoc, hx5]
              simp [bne]
          · rintro ⟨e, ds⟩ H5 ⟨t2, t3, ht2, hj2, ⟨g1, g3, g5, g6, g7, rfl, rfl⟩, g8, htt2⟩
            dsimp only at g1 g3 g5 g6 g7 g8
            refine CW.walk1 hX mixed d31 rfl ?_
            simp [g8]
            exact ⟨u.regs.toNat - (t' + 1), by omega, t2, t2, ht2, hj2, ⟨by simp [g1], by simp [g3], by simp [g5], by simp [g6], by simp [g7], rfl, rfl⟩, by simp; rw [wrapI (by omega) (by omega)]; omega, rfl⟩
        · clear e1 e3 e5 e6
          rintro ⟨e, ds⟩ H4 ⟨e1, e3, e5, e6, e7, rfl, rfl⟩
          dsimp only at e1 e3 e5 e6 e7
          refine CW.walk1 hX mixed d31 rfl ?_
          simp [e3, e6, e7, ml, mi, hbl]
          refine ⟨by rw [refsC_len]; omega, ?_⟩
          rw [refsC_set hbl]
          exact ⟨b, _, _, _, by omega, rfl, by simp [e1], by simp [e3], by simp [e5], by simp [e6], rfl, hN.step hr hbl, hV.step hu hbl difN_iff⟩
      · rintro ⟨e, ds⟩ H3 ⟨_, I2, σ', a', hi', rfl, g1, g3, g5, g6, rfl, hN', hV'⟩
        dsimp only at g1 g3 g5 g6
        rw [show ((b : Int) - 1 + (1 : Nat)) = (b : Int) by omega] at g6
        refine CW.walk1 hX mixed d31 rfl ?_
        simp [g6]
        exact ⟨b, by omega, b, I2, σ', a', hi', rfl, by simp [g1], by simp [g3], by simp [g5], by simp; rw [wrapI (by omega) (by omega)], rfl, hN', hV'⟩
    · rintro x s' H' ⟨rfl, ⟨I', σ', a, g1, g3, g5, g6, hO, hV⟩⟩
      refine ⟨2 * gapL u I' + (if a = true then 1 else 0), ?_, I', σ', a, rfl, g1, g3, g5, g6, hO, hV.low, hV.up, hV.bnd, fun ha => ?_⟩
      · cases a with
        | true => have := hV.gt rfl; simp; omega
        | false => obtain ⟨rfl, _⟩ := hV.same rfl; simp
      · obtain ⟨rfl, h⟩ := hV.same ha
        exact fun b hb => h b (Nat.zero_le _) hb
  rintro ⟨e, ds⟩ H3 ⟨I, σ, e3, rfl, hle3, hll, hbnd, hL⟩
  dsimp only at e3
  refine CW.walk1 hX mixed d31 rfl ?_
  simp [e3]
  exact ⟨lp, rp, ri, ci, σ, ex, p, c, I, rfl, hle3, hpl, hll, hbnd, hL⟩
end Go.Cl
