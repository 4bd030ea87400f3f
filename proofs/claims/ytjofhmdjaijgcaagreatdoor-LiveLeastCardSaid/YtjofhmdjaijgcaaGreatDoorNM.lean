/- DERIVED HERE. What is live in a unit: the ground for New. DERIVED HERE. live.New. -/
import Derived.Test.YtjofhmdjaijgcaaGreatDoorPD
set_option linter.unusedSimpArgs false
set_option linter.unusedVariables false
namespace Go.Cl
open Go.Proofs
variable {W : World} {G : Nat → CV}
set_option maxRecDepth 8000
theorem Own.grow {H0 H : Hp} {v : CV} {sz : Nat} {xs : List (List CV)} {r : Nat} {o : Ob} (h : Own H0 H v sz xs) (hr : H r = none) : Own (H0.set r o) (H.set r o) v sz xs := by
  refine ⟨Le.set h.1, h.2.1, ?_⟩
  rcases h.2.2 with h' | ⟨q, c, ex, h1, h2, h3, h4⟩
  · exact .inl h'
  · have hne : q ≠ r := fun e => by rw [← e, h3] at hr; cases hr
    exact .inr ⟨q, c, ex, h1, by simp [Hp.set, hne, h2], by simp [Hp.set, hne, h3], h4⟩
theorem Own.setBase {H0 H : Hp} {v : CV} {sz : Nat} {xs : List (List CV)} {r : Nat} {o : Ob} (h : Own H0 H v sz xs) (hr : H0 r ≠ none) : Own (H0.set r o) (H.set r o) v sz xs := by
  refine ⟨Le.set h.1, h.2.1, ?_⟩
  rcases h.2.2 with h' | ⟨q, c, ex, h1, h2, h3, h4⟩
  · exact .inl h'
  · have hne : q ≠ r := fun e => hr (by rw [← e, h2])
    exact .inr ⟨q, c, ex, h1, by simp [Hp.set, hne, h2], by simp [Hp.set, hne, h3], h4⟩
theorem hun_one {H : Hp} {r : Nat} {o : Ob} (h : H r = none) : hun H (Hp.set (fun _ => none) r o) = H.set r o := by
  funext i
  simp only [hun, Hp.set]
  by_cases e : i = r
  · subst e; simp [h]
  · simp [e]
theorem fz_set {H : Hp} {r m c : Nat} {f : Nat → Bool} (h : H r = some (.cells (setC m f))) (hc : m ≤ c) : Fz H (.ref r 0 m c) (.sl 1 (setS m f)) := by
  refine .ref r 0 m c 1 _ _ h (by simp) hc (fun i e he => ?_) (fun i _ => .int .u64 (word f i)) (fun i j hi hj => ?_) (fun i j e x he hx => ?_)
  · rw [setS_gets] at he; rw [← he.2]; rfl
  · have : j = 0 := by omega
    subst this
    rw [show 0 + (i * 1 + 0) = i by omega, setC_get hi]
  · rw [setS_gets] at he
    rw [← he.2] at hx
    cases j with
    | zero => simp at hx; subst hx; exact .same _
    | succ j => simp at hx
theorem fz_bool {H : Hp} {r m c : Nat} {f : Nat → Bool} (h : H r = some (.cells (boolC m f))) (hc : m ≤ c) : Fz H (.ref r 0 m c) (.sl 1 (boolS m f)) := by
  refine .ref r 0 m c 1 _ _ h (by simp) hc (fun i e he => ?_) (fun i _ => .bool (f i)) (fun i j hi hj => ?_) (fun i j e x he hx => ?_)
  · rw [boolS_gets] at he; rw [← he.2]; rfl
  · have : j = 0 := by omega
    subst this
    rw [show 0 + (i * 1 + 0) = i by omega, boolC_get hi]
  · rw [boolS_gets] at he
    rw [← he.2] at hx
    cases j with
    | zero => simp at hx; subst hx; exact .same _
    | succ j => simp at hx
def refsC (n m : Nat) (σ : Nat → Nat) : List CV := (List.range n).map fun b => .ref (σ b) 0 m m
theorem refsC_get {n m : Nat} {σ : Nat → Nat} {i : Nat} (h : i < n) : (refsC n m σ)[i]? = some (.ref (σ i) 0 m m) := by simp [refsC, h]
theorem refsC_len {n m : Nat} {σ : Nat → Nat} : (refsC n m σ).length = n := by simp [refsC]
/-- A Live, as it lies. -/
structure LH (H : Hp) (lp rr rc ri ci : Nat) (σ : Nat → Nat) (ex : List CV) (u : UUnit) (p c : Nat → Bool) (I : Nat → Nat → Bool) : Prop where
  l : H lp = some (.cells (unitC u ++ [.ref rr 0 u.regs.toNat u.regs.toNat, .ref rc 0 u.spill.toNat u.spill.toNat, .ref ri 0 u.blocks.length ci]))
  r : H rr = some (.cells (boolC u.regs.toNat p))
  c : H rc = some (.cells (boolC u.spill.toNat c))
  i : H ri = some (.cells (refsC u.blocks.length (mOf u) σ ++ ex))
  n : u.blocks.length ≤ ci
  s : ∀ b, b < u.blocks.length → H (σ b) = some (.cells (setC (mOf u) (I b)))
theorem LH.mono {H H' : Hp} {lp rr rc ri ci : Nat} {σ : Nat → Nat} {ex : List CV} {u : UUnit} {p c : Nat → Bool} {I : Nat → Nat → Bool} (h : LH H lp rr rc ri ci σ ex u p c I) (hl : Le H H') : LH H' lp rr rc ri ci σ ex u p c I :=
  ⟨hl _ _ h.l, hl _ _ h.r, hl _ _ h.c, hl _ _ h.i, h.n, fun b hb => hl _ _ (h.s b hb)⟩
theorem LH.fzIn {H : Hp} {lp rr rc ri ci : Nat} {σ : Nat → Nat} {ex : List CV} {u : UUnit} {p c : Nat → Bool} {I : Nat → Nat → Bool} (h : LH H lp rr rc ri ci σ ex u p c I) : Fz H (.ref ri 0 u.blocks.length ci) (.sl 1 (liveS u.blocks.length (mOf u) I)) := by
  refine .ref ri 0 _ ci 1 _ _ h.i (by simp [liveS]) h.n (fun i e he => ?_) (fun i _ => .ref (σ i) 0 (mOf u) (mOf u)) (fun i j hi hj => ?_) (fun i j e x he hx => ?_)
  · simp only [liveS, List.getElem?_map] at he
    cases hr : (List.range u.blocks.length)[i]? with
    | none => rw [hr] at he; simp at he
    | some b => rw [hr] at he; simp at he; rw [← he]; rfl
  · have : j = 0 := by omega
    subst this
    rw [show 0 + (i * 1 + 0) = i by omega, List.getElem?_append_left (by rw [refsC_len]; exact hi), refsC_get hi]
  · have hi : i < u.blocks.length := by have := (List.getElem?_eq_some_iff.1 he).1; simpa [liveS] using this
    simp only [liveS, List.getElem?_map, List.getElem?_range hi] at he
    simp at he
    rw [← he] at hx
    cases j with
    | zero => simp at hx; subst hx; exact fz_set (h.s i hi) (Nat.le_refl _)
    | succ j => simp at hx
theorem LH.fz {H : Hp} {lp rr rc ri ci : Nat} {σ : Nat → Nat} {ex : List CV} {u : UUnit} {p c : Nat → Bool} {I : Nat → Nat → Bool} (h : LH H lp rr rc ri ci σ ex u p c I) : Fz H (.ptr lp 0) (.iptr (liveC u u.regs.toNat p u.spill.toNat c I)) := by
  refine .ptr lp 0 _ _ h.l (fun j => (unitC u ++ [CV.ref rr 0 u.regs.toNat u.regs.toNat, CV.ref rc 0 u.spill.toNat u.spill.toNat, CV.ref ri 0 u.blocks.length ci]).getD j .any) (fun j hj => ?_) (fun j x hx => ?_)
  · have hj : j < 9 := by simpa [liveC, unitC, mayC] using hj
    rw [Nat.zero_add, List.getD_eq_getElem?_getD, List.getElem?_eq_getElem (by simp [unitC]; omega)]
    rfl
  · simp only [liveC, unitC, mayC] at hx ⊢
    rcases j with _|_|_|_|_|_|_|_|_|j
    all_goals simp at hx ⊢
    all_goals subst hx
    all_goals first
      | exact .same _
      | exact fz_bool h.r (Nat.le_refl _)
      | exact fz_bool h.c (Nat.le_refl _)
      | exact h.fzIn
/-! ### What is live is a register -/
def Bnd (u : UUnit) (I : Nat → Nat → Bool) : Prop := ∀ b x, I b x = true → x < 64 * mOf u
theorem FP_bnd {u : UUnit} (hu : wfU u = true) {p : Nat → Bool} {I : Nat → Nat → Bool} (hI : Bnd u I) {b : Nat} (hb : b < u.blocks.length) {x : Nat} (h : FP u p I b x = true) : x < 64 * mOf u := by
  obtain ⟨f1, f2, f3, f4, f5, f6, f7, f8, f9, f10, f11⟩ := wfU_facts hu
  have hm : mOf u = (u.regs.toNat + 63) / 64 := rfl
  have hk : u.blocks[b]? = some (blkAt u b) := by simp [blkAt, List.getD_eq_getElem?_getD, List.getElem?_eq_getElem hb]
  obtain ⟨g1, g2, g3, g4⟩ := wfB_facts hu hk
  obtain ⟨w1, w2, w3, w4, w5⟩ := wfE_facts g4
  simp only [FP] at h
  generalize blkAt u b = k at *
  have hc : ∀ y, catchP u I k y = true → y < 64 * mOf u := fun y hy => by
    simp only [catchP, Bool.and_eq_true] at hy
    exact hI _ _ hy.2.2
  have he : ∀ y, endP u p I k y = true → y < 64 * mOf u := fun y hy => by
    simp only [endP, Bool.or_eq_true, Bool.and_eq_true, decide_eq_true_eq, beq_iff_eq] at hy
    rcases hy with ((hy | hy) | hy) | hy
    · exact hI _ _ hy.2
    · exact hI _ _ hy.2
    · exact hc _ hy.2
    · have := w3 hy.1; omega
  have hs : ∀ l, (∀ o ∈ l, wfOp u o = true) → ∀ y, beforeP u p I k l y = true → y < 64 * mOf u := by
    intro l
    induction l with
    | nil => exact fun _ => he
    | cons o l ih =>
      intro hl y hy
      obtain ⟨o1, o2, o3, o4, o5, o6, o7, o8, o9⟩ := wfO_facts (hl o (List.mem_cons_self ..)) f3
      have hy : stepP u p I k o (beforeP u p I k l) y = true := hy
      simp only [stepP, Bool.or_eq_true, Bool.and_eq_true, List.any_eq_true, beq_iff_eq] at hy
      rcases hy with ((hy | hy) | hy) | ⟨z, hz, rfl⟩
      · exact ih (fun o ho => hl o (List.mem_cons_of_mem _ ho)) y hy.1
      · exact hI _ _ hy.2
      · exact hc _ hy.2
      · have := o3 z hz; omega
  exact hs _ g3 x h
def prs (u : UUnit) : List (Nat × Nat) := (List.range u.blocks.length).flatMap fun b => (List.range (64 * mOf u)).map fun x => (b, x)
def gapL (u : UUnit) (I : Nat → Nat → Bool) : Nat := gap (prs u) fun z => I z.1 z.2
theorem gapL_le {u : UUnit} {I J : Nat → Nat → Bool} (h : Sub2 I J) : gapL u J ≤ gapL u I := gap_le fun z hz => h _ _ hz
theorem gapL_lt {u : UUnit} {I J : Nat → Nat → Bool} (h : Sub2 I J) {b x : Nat} (hb : b < u.blocks.length) (hx : x < 64 * mOf u) (h1 : I b x = false) (h2 : J b x = true) : gapL u J < gapL u I :=
  gap_lt (x := (b, x)) (fun z hz => h _ _ hz) (by simp [prs, hb, hx]) h1 h2
theorem FP_blk {u : UUnit} {p : Nat → Bool} {I : Nat → Nat → Bool} {b : Nat} {k : UBlk} (h : u.blocks[b]? = some k) : FP u p I b = beforeP u p I k k.ops := by
  have : blkAt u b = k := by simp [blkAt, List.getD_eq_getElem?_getD, h]
  simp [FP, this]
/-- at, on a Live as it lies. -/
theorem at_h (hX : CxOk (cx W G)) (hG : G 0 = .iptr formsC) (u : UUnit) (hu : wfU u = true) {H : Hp} {lp rr rc ri ci : Nat} {σ : Nat → Nat} {ex : List CV} {p c : Nat → Bool} {I : Nat → Nat → Bool} (hL : LH H lp rr rc ri ci σ ex u p c I) (b : Nat) (k : UBlk) (hb : u.blocks[b]? = some k) (i : Nat) (hi : i ≤ k.ops.length) :
    CC Tryz.prog W 44 [.ptr lp 0, .int .i64 b, .int .i64 i] H fun x H' => ∃ r, H r = none ∧ x = .ret (.ref r 0 (mOf u) (mOf u)) ∧ H' = H.set r (.cells (setC (mOf u) (beforeP u p I k (k.ops.drop i)))) := by
  refine (CC.freeze2 (args' := [.iptr (liveC u u.regs.toNat p u.spill.toNat c I), .int .i64 b, .int .i64 i]) (R := fun x H' => ∃ r, x = .ret (.ref r 0 (mOf u) (mOf u)) ∧ H' = Hp.set (fun _ => none) r (.cells (setC (mOf u) (beforeP u p I k (k.ops.drop i))))) (by rfl) ?_ ?_ ?_).mono ?_
  · intro j x y hx hy
    rcases j with _|_|_|j
    · simp at hx hy; subst hx; subst hy; exact hL.fz
    · simp at hx hy; subst hx; subst hy; exact .same _
    · simp at hx hy; subst hx; subst hy; exact .same _
    · simp at hx
  · rintro x H' ⟨r, rfl, rfl⟩
    refine ⟨.ref _ _ _ _, fun q o hq => ?_⟩
    simp only [Hp.set] at hq
    split at hq
    · injection hq with hq
      subst hq
      intro j y hy
      rw [setC_gets] at hy
      rw [← hy.2]
      exact .int _ _
    · cases hq
  · intro w hw
    exact (at_c (W := w) (CxOk.later hX hw) hG u hu p u.spill.toNat c I b k hb i hi _).mono fun x H' ⟨r, _, h1, h2⟩ => ⟨r, h1, h2⟩
  · rintro x H2 ⟨H', ⟨r, rfl, rfl⟩, hnew, rfl⟩
    have hr := hnew r _ (by simp [Hp.set]; rfl)
    exact ⟨r, hr, rfl, hun_one hr⟩
/-- Equal, on sets as they lie. -/
theorem equal_h (hX : CxOk (cx W G)) (m r r2 c c2 : Nat) (f g : Nat → Bool) (hm : m ≤ 64) (hc : m ≤ c) (hc2 : m ≤ c2) {H : Hp} (hr : H r = some (.cells (setC m f))) (hr2 : H r2 = some (.cells (setC m g))) : CC Tryz.prog W 94 [.ref r 0 m c, .ref r2 0 m c2] H fun x H' => ∃ b : Bool, x = .ret (.bool b) ∧ H' = H ∧ (b = true ↔ ∀ x, x < 64 * m → f x = g x) := by
  refine (CC.freeze (args' := [.sl 1 (setS m f), .sl 1 (setS m g)]) (R := fun v => ∃ b : Bool, v = .bool b ∧ (b = true ↔ ∀ x, x < 64 * m → f x = g x)) (by rfl) ?_ ?_ ?_).mono ?_
  · intro j x y hx hy
    rcases j with _|_|j
    · simp at hx hy; subst hx; subst hy; exact fz_set hr hc
    · simp at hx hy; subst hx; subst hy; exact fz_set hr2 hc2
    · simp at hx
  · rintro v ⟨b, rfl, _⟩; simp [plainV]
  · intro w hw
    exact (equal_c (W := w) (CxOk.later hX hw) m f g hm _).mono fun x H' ⟨b, h1, _, h2⟩ => ⟨_, h1, b, rfl, h2⟩
  · rintro x H2 ⟨v, rfl, ⟨b, rfl, hb⟩, rfl⟩
    exact ⟨b, rfl, rfl, hb⟩
end Go.Cl
set_option linter.unusedSimpArgs false
set_option linter.unusedVariables false
namespace Go.Cl
open Go.Proofs
variable {W : World} {G : Nat → CV}
set_option maxRecDepth 8000
/-- What New holds while it makes the empty sets. -/
structure N1 (H B : Hp) (u : UUnit) (p c : Nat → Bool) (q1 q3 lp rr rc : Nat) (i : Nat) (v : CV) (σ : Nat → Nat) : Prop where
  base : Le H B
  h1 : B q1 = some (.cells (unitC u))
  h3 : B q3 = some (.cells [.ptr lp 0])
  l : B lp = some (.cells (unitC u ++ [.ref rr 0 u.regs.toNat u.regs.toNat, .ref rc 0 u.spill.toNat u.spill.toNat, v]))
  r : B rr = some (.cells (boolC u.regs.toNat p))
  c : B rc = some (.cells (boolC u.spill.toNat c))
  s : ∀ b, b < i → B (σ b) = some (.cells (setC (mOf u) fun _ => false))
  n1 : lp ≠ q1
  n3 : lp ≠ q3
  nr : lp ≠ rr
  nc : lp ≠ rc
  ns : ∀ b, b < i → lp ≠ σ b
  hl : H lp = none
def N1I (H : Hp) (u : UUnit) (p c : Nat → Bool) (q1 q3 lp rr rc : Nat) (j : Nat) (s' : CA) (H' : Hp) : Prop := ∃ i v σ B, i ≤ u.blocks.length ∧ j = u.blocks.length - i ∧ s'.env 1 = .ptr q1 0 ∧ s'.env 3 = .ptr q3 0 ∧ s'.env 14 = .int .i64 u.blocks.length ∧ s'.env 15 = .int .i64 i ∧ s'.ds = [] ∧ N1 H B u p c q1 q3 lp rr rc i v σ ∧ Own B H' v 1 ((refsC i (mOf u) σ).map fun x => [x])
def N1E (H : Hp) (u : UUnit) (p c : Nat → Bool) (q1 q3 lp rr rc : Nat) (s' : CA) (H' : Hp) : Prop := ∃ v σ B, s'.env 1 = .ptr q1 0 ∧ s'.env 3 = .ptr q3 0 ∧ s'.ds = [] ∧ N1 H B u p c q1 q3 lp rr rc u.blocks.length v σ ∧ Own B H' v 1 ((refsC u.blocks.length (mOf u) σ).map fun x => [x])
theorem refsC_succ {i m : Nat} {σ : Nat → Nat} {r : Nat} : refsC (i + 1) m (fun b => if b = i then r else σ b) = refsC i m σ ++ [.ref r 0 m m] := by
  simp only [refsC, List.range_succ, List.map_append, List.map_cons, List.map_nil, if_true]
  congr 1
  apply List.map_congr_left
  intro b hb
  have := List.mem_range.1 hb
  rw [if_neg (by omega)]
/-- What New holds while it looks again and again. -/
structure N2 (H B : Hp) (u : UUnit) (p c : Nat → Bool) (q1 q3 q4 lp rr rc ri ci : Nat) (σ : Nat → Nat) (ex : List CV) (I : Nat → Nat → Bool) (a : Bool) : Prop where
  base : Le H B
  h1 : B q1 = some (.cells (unitC u))
  h3 : B q3 = some (.cells [.ptr lp 0])
  h4 : B q4 = some (.cells [.bool a])
  L : LH B lp rr rc ri ci σ ex u p c I
  a1 : q4 ≠ q1
  a3 : q4 ≠ q3
  al : q4 ≠ lp
  ar : q4 ≠ rr
  ac : q4 ≠ rc
  ai : q4 ≠ ri
  as' : ∀ b, b < u.blocks.length → q4 ≠ σ b
  i1 : ri ≠ q1
  i3 : ri ≠ q3
  il : ri ≠ lp
  ir : ri ≠ rr
  ic : ri ≠ rc
  is : ∀ b, b < u.blocks.length → ri ≠ σ b
  hi : H ri = none
  h4n : H q4 = none
theorem N2.set4 {H B : Hp} {u : UUnit} {p c : Nat → Bool} {q1 q3 q4 lp rr rc ri ci : Nat} {σ : Nat → Nat} {ex : List CV} {I : Nat → Nat → Bool} {a : Bool} (h : N2 H B u p c q1 q3 q4 lp rr rc ri ci σ ex I a) (b : Bool) : N2 H (B.set q4 (.cells [.bool b])) u p c q1 q3 q4 lp rr rc ri ci σ ex I b :=
  ⟨h.base.put h.h4n, by simp [Ne.symm h.a1, h.h1], by simp [Ne.symm h.a3, h.h3], by simp, ⟨by simp [Ne.symm h.al, h.L.l], by simp [Ne.symm h.ar, h.L.r], by simp [Ne.symm h.ac, h.L.c], by simp [Ne.symm h.ai, h.L.i], h.L.n, fun b hb => by simp [Ne.symm (h.as' b hb), h.L.s b hb]⟩, h.a1, h.a3, h.al, h.ar, h.ac, h.ai, h.as', h.i1, h.i3, h.il, h.ir, h.ic, h.is, h.hi, h.h4n⟩
theorem N2.more {H B : Hp} {u : UUnit} {p c : Nat → Bool} {q1 q3 q4 lp rr rc ri ci : Nat} {σ : Nat → Nat} {ex : List CV} {I : Nat → Nat → Bool} {a : Bool} (h : N2 H B u p c q1 q3 q4 lp rr rc ri ci σ ex I a) {q : Nat} {o : Ob} (hq : B q = none) : N2 H (B.set q o) u p c q1 q3 q4 lp rr rc ri ci σ ex I a := by
  have hl : Le B (B.set q o) := Le.set_new hq
  exact ⟨h.base.trans hl, hl _ _ h.h1, hl _ _ h.h3, hl _ _ h.h4, h.L.mono hl, h.a1, h.a3, h.al, h.ar, h.ac, h.ai, h.as', h.i1, h.i3, h.il, h.ir, h.ic, h.is, h.hi, h.h4n⟩
theorem N2.swap {H B : Hp} {u : UUnit} {p c : Nat → Bool} {q1 q3 q4 lp rr rc ri ci : Nat} {σ : Nat → Nat} {ex : List CV} {I : Nat → Nat → Bool} {a : Bool} (h : N2 H B u p c q1 q3 q4 lp rr rc ri ci σ ex I a) {q5 : Nat} (hq : B q5 = none) : N2 H ((cutH B q4).set q5 (.cells [.bool a])) u p c q1 q3 q5 lp rr rc ri ci σ ex I a := by
  have k : ∀ q o, B q = some o → q5 ≠ q := fun q o h e => by rw [← e, hq] at h; cases h
  have g : ∀ q o, B q = some o → q ≠ q4 → ((cutH B q4).set q5 (.cells [.bool a])) q = some o := fun q o hb hne => by
    simp only [Hp.set, cutH]
    rw [if_neg (Ne.symm (k q o hb)), if_neg hne, hb]
  refine ⟨fun i o hi => g i o (h.base i o hi) (fun e => by rw [e, h.h4n] at hi; cases hi), g _ _ h.h1 (Ne.symm h.a1), g _ _ h.h3 (Ne.symm h.a3), by simp, ⟨g _ _ h.L.l (Ne.symm h.al), g _ _ h.L.r (Ne.symm h.ar), g _ _ h.L.c (Ne.symm h.ac), g _ _ h.L.i (Ne.symm h.ai), h.L.n, fun b hb => g _ _ (h.L.s b hb) (Ne.symm (h.as' b hb))⟩, k _ _ h.h1, k _ _ h.h3, k _ _ h.L.l, k _ _ h.L.r, k _ _ h.L.c, k _ _ h.L.i, fun b hb => k _ _ (h.L.s b hb), h.i1, h.i3, h.il, h.ir, h.ic, h.is, h.hi, h.base.none hq⟩
theorem refsC_set {n m i r : Nat} {σ : Nat → Nat} {ex : List CV} (h : i < n) : (refsC n m σ ++ ex).take i ++ CV.ref r 0 m m :: (refsC n m σ ++ ex).drop (i + 1) = refsC n m (fun b => if b = i then r else σ b) ++ ex := by
  rw [take_drop_set (by rw [List.length_append, refsC_len]; omega), List.set_append_left _ _ (by rw [refsC_len]; exact h)]
  congr 1
  apply List.ext_getElem?
  intro j
  rw [List.getElem?_set]
  simp only [refsC, List.length_map, List.length_range, List.getElem?_map]
  by_cases hj : i = j
  · subst hj; simp [h]
  · rw [if_neg hj]
    rcases Nat.lt_or_ge j n with h2 | h2
    · rw [List.getElem?_range h2]; simp [Ne.symm hj]
    · rw [List.getElem?_eq_none (by simpa using h2)]; rfl
theorem N2.step {H B : Hp} {u : UUnit} {p c : Nat → Bool} {q1 q3 q4 lp rr rc ri ci : Nat} {σ : Nat → Nat} {ex : List CV} {I : Nat → Nat → Bool} {a : Bool} (h : N2 H B u p c q1 q3 q4 lp rr rc ri ci σ ex I a) {r i : Nat} {f : Nat → Bool} (hr : B r = none) (hi : i < u.blocks.length) :
    N2 H (((B.set r (.cells (setC (mOf u) f))).set ri (.cells (refsC u.blocks.length (mOf u) (fun b => if b = i then r else σ b) ++ ex))).set q4 (.cells [.bool true])) u p c q1 q3 q4 lp rr rc ri ci (fun b => if b = i then r else σ b) ex (setAt I i f) true := by
  have k : ∀ q o, B q = some o → q ≠ r := fun q o hq e => by rw [e, hr] at hq; cases hq
  have k1 := k _ _ h.h1
  have k3 := k _ _ h.h3
  have k4 := k _ _ h.h4
  have kl := k _ _ h.L.l
  have kr := k _ _ h.L.r
  have kc := k _ _ h.L.c
  have ki := k _ _ h.L.i
  have hB : N2 H ((B.set r (.cells (setC (mOf u) f))).set ri (.cells (refsC u.blocks.length (mOf u) (fun b => if b = i then r else σ b) ++ ex))) u p c q1 q3 q4 lp rr rc ri ci (fun b => if b = i then r else σ b) ex (setAt I i f) a := by
    refine ⟨(h.base.trans (Le.set_new hr)).put h.hi, by simp [Ne.symm h.i1, k1, h.h1], by simp [Ne.symm h.i3, k3, h.h3], by simp [h.ai, k4, h.h4], ⟨by simp [Ne.symm h.il, kl, h.L.l], by simp [Ne.symm h.ir, kr, h.L.r], by simp [Ne.symm h.ic, kc, h.L.c], by simp, h.L.n, fun b hb => ?_⟩, h.a1, h.a3, h.al, h.ar, h.ac, h.ai, fun b hb => ?_, h.i1, h.i3, h.il, h.ir, h.ic, fun b hb => ?_, h.hi, h.h4n⟩
    · by_cases hbi : b = i
      · subst hbi; simp [Ne.symm ki, setAt]
      · have := k _ _ (h.L.s b hb)
        simp [hbi, Ne.symm (h.is b hb), this, h.L.s b hb, setAt]
    · by_cases hbi : b = i
      · subst hbi; simpa using k4
      · simpa [hbi] using h.as' b hb
    · by_cases hbi : b = i
      · subst hbi; simpa using ki
      · simpa [hbi] using h.is b hb
  exact hB.set4 true
def N2I (H : Hp) (u : UUnit) (p c : Nat → Bool) (q1 q3 lp rr rc ri ci : Nat) (ex : List CV) (j : Nat) (s' : CA) (H' : Hp) : Prop := ∃ I σ a q4 B, j = 2 * gapL u I + (if a = true then 1 else 0) ∧ s'.env 1 = .ptr q1 0 ∧ s'.env 3 = .ptr q3 0 ∧ s'.env 4 = .ptr q4 0 ∧ N2 H B u p c q1 q3 q4 lp rr rc ri ci σ ex I a ∧ LLow u p I ∧ LUp u p I ∧ Bnd u I ∧ (a = false → ∀ b, b < u.blocks.length → ∀ x, x < 64 * mOf u → FP u p I b x = I b x) ∧ MarksOk s'.ds H' B
def N2J (H : Hp) (u : UUnit) (p c : Nat → Bool) (q1 q3 q4 lp rr rc ri ci qo : Nat) (ex : List CV) (ds : List CD) (I : Nat → Nat → Bool) (k : Nat) (H1 : Hp) : Prop := ∃ I' σ a B, N2 H B u p c q1 q3 q4 lp rr rc ri ci σ ex I' a ∧ LLow u p I' ∧ LUp u p I' ∧ Bnd u I' ∧ Sub2 I I' ∧ (a = true → gapL u I' < gapL u I) ∧ (a = false → I' = I ∧ ∀ b, u.blocks.length ≤ b + k → b < u.blocks.length → ∀ x, x < 64 * mOf u → FP u p I b x = I b x) ∧ B qo = some (.cells [.sl 6 (u.blocks.map blkC)]) ∧ MarksOk ds H1 B
def N2M (H : Hp) (u : UUnit) (p c : Nat → Bool) (q1 q3 q4 lp rr rc ri ci : Nat) (ex : List CV) (I : Nat → Nat → Bool) (s' : CA) (H' : Hp) : Prop := s'.env 1 = .ptr q1 0 ∧ s'.env 3 = .ptr q3 0 ∧ s'.env 4 = .ptr q4 0 ∧ ∃ qo, N2J H u p c q1 q3 q4 lp rr rc ri ci qo ex s'.ds I u.blocks.length H'
def N3 (H : Hp) (u : UUnit) (p c : Nat → Bool) (q3 lp rr rc ri ci : Nat) (ex : List CV) (s' : CA) (H' : Hp) : Prop := ∃ I σ, s'.env 3 = .ptr q3 0 ∧ PLeast (opsOf u) p c ∧ LLeast u p I ∧ Bnd u I ∧ ∃ B, Le H B ∧ B q3 = some (.cells [.ptr lp 0]) ∧ LH B lp rr rc ri ci σ ex u p c I ∧ MarksOk s'.ds H' B
theorem backward_blocks (hX : CxOk (cx W G)) (xs : List (List CV)) (H : Hp) : CC Tryz.prog W 93 [.sl 6 xs] H fun x H' => ∃ q, H q = none ∧ x = .ret (.func (.func 130) [] [.ptr q 0]) ∧ H' = H.set q (.cells [.sl 6 xs]) := by
  refine CC.of_ev hX mixed d93 Tryz.func93 rfl rfl (Nat.le_of_ble_eq_true rfl) d93_ok ?_
  simp [Tryz.f93, d93]
  exact fun r hr => ⟨r, hr, rfl, rfl⟩
theorem Own.isRef {H0 H : Hp} {v : CV} {sz : Nat} {xs : List (List CV)} (h : Own H0 H v sz xs) (hne : xs ≠ []) : ∃ r c, v = .ref r 0 xs.length c := by
  obtain ⟨_, _, ⟨_, hx⟩ | ⟨q, c, ex, rfl, _⟩⟩ := h
  · exact absurd hx hne
  · exact ⟨q, c, rfl⟩
theorem new_c (hX : CxOk (cx W G)) (hG : G 0 = .iptr formsC) (u : UUnit) (hu : wfU u = true) (H : Hp) :
    CC Tryz.prog W 54 [.agg (unitC u)] H fun x H' => ∃ lp rr rc ri ci σ ex p c I, x = .ret (.ptr lp 0) ∧ Le H H' ∧ PLeast (opsOf u) p c ∧ LLeast u p I ∧ Bnd u I ∧ LH H' lp rr rc ri ci σ ex u p c I := by
  obtain ⟨f1, f2, f3, f4, f5, f6, f7, f8, f9, f10, f11⟩ := wfU_facts hu
  obtain ⟨n, hn⟩ := Int.eq_ofNat_of_zero_le (show 0 ≤ u.regs by omega)
  have hmn : mOf u = (n + 63) / 64 := by simp [mOf, hn]
  refine CC.of_cw hX Tryz.func54 rfl rfl (Nat.le_of_ble_eq_true rfl) ?_
  refine CW.walk hX mixed d54 rfl ?_
  simp
  intro q1 hq1
  refine CW.walk hX mixed d54 rfl ?_
  simp [d54, unitC]
  refine (poisoned_c hX hG u hu _).k ?_
  rintro x H1 ⟨p, c, rr, rc, rfl, hrc, hr, hc, hle, hpl⟩
  simp [cfill]
  refine ⟨stabI_le rfl hle, fun lp hlp q3 h3l hl3 hq3 => ?_⟩
  have hH1 : Le H H1 := (Le.set_new hq1).trans hle
  have h11 : H1 q1 = some (.cells (unitC u)) := hle q1 _ (by simp [unitC])
  have hl1 : lp ≠ q1 := fun e => by rw [e, h11] at hlp; cases hlp
  have hlr : lp ≠ rr := fun e => by rw [e, hr] at hlp; cases hlp
  have hlc : lp ≠ rc := fun e => by rw [e, hc] at hlp; cases hlp
  have h31 : q3 ≠ q1 := fun e => by rw [e, h11] at hq3; cases hq3
  have h3r : q3 ≠ rr := fun e => by rw [e, hr] at hq3; cases hq3
  have h3c : q3 ≠ rc := fun e => by rw [e, hc] at hq3; cases hq3
  refine CW.cut (N1E H u p c q1 q3 lp rr rc) ?_ ?_
  · refine CW.walk hX mixed d54 rfl ?_
    simp [Ne.symm h31, Ne.symm hl1, h11, unitC]
    refine CW.walk1 hX mixed d54 rfl ?_
    simp
    have hB : N1 H ((H1.set lp (.cells (unitC u ++ [.ref rr 0 u.regs.toNat u.regs.toNat, .ref rc 0 u.spill.toNat u.spill.toNat, .nilsl]))).set q3 (.cells [.ptr lp 0])) u p c q1 q3 lp rr rc 0 .nilsl (fun _ => 0) :=
      ⟨hH1.trans ((Le.set_new hlp).trans (Le.set_new (by simp [h3l, hl3, hq3]))), by simp [Ne.symm h31, Ne.symm hl1, h11], by simp, by simp [hl3], by simp [Ne.symm h3r, Ne.symm hlr, hr], by simp [Ne.symm h3c, Ne.symm hlc, hc], fun b hb => absurd hb (by omega), hl1, hl3, hlr, hlc, fun b hb => absurd hb (by omega), hH1.none hlp⟩
    refine CW.loop (N1I H u p c q1 q3 lp rr rc) ?_ (m := u.blocks.length) ⟨0, .nilsl, fun _ => 0, _, by omega, by omega, by simp, by simp, by simp, by simp, rfl, hB, by simp [refsC]; exact Own.nil (Le.refl _)⟩
    rintro j ⟨e, ds⟩ H2 ⟨i, v, σ, B, hi, rfl, e1, e3, e14, e15, rfl, hN, hown⟩
    dsimp only at e1 e3 e14 e15
    have m1 := hown.le _ _ hN.h1
    have m3 := hown.le _ _ hN.h3
    have ml := hown.le _ _ hN.l
    simp only [unitC] at m1 ml
    refine vw_sound hX mixed (D := d54) _ _ _ _ (by kernel_rfl) ?_
    simp [e1, e3, e14, e15, m1, m3, ml, d54, hn]
    refine ⟨fun hil => ?_, fun hil => ?_⟩
    · refine (newSet_c hX n (by omega) H2).k ?_
      rintro x H3 ⟨r, hr0, rfl, rfl⟩
      rw [← hmn]
      simp [cfill, -vcAppend]
      refine ⟨⟨stabI_le rfl (Le.set_new hr0), stabI_le rfl (Le.set_new hr0), stabI_le rfl (Le.set_new hr0)⟩, fun q hqr hrq hq => ?_⟩
      have hkB : ∀ z o, B z = some o → z ≠ r := fun z o hz e => by have := hown.le z o hz; rw [e, hr0] at this; cases this
      have hg := (hown.grow (o := .cells (setC (mOf u) fun _ => false)) hr0).more (r := q) (o := .cells [.ref r 0 (mOf u) (mOf u)]) (by simp [hqr, hq])
      refine hg.append (ys := [[.ref r 0 (mOf u) (mOf u)]]) (by simp) (by simp [refsC_len]; omega) (src_one set_at rfl) fun v' H3 how3 _ => ?_
      have k3 : H3 q3 = some (.cells [.ptr lp 0]) := how3.le _ _ (by simp [hkB q3 _ hN.h3, hN.h3])
      have kl := how3.le lp _ (show _ = some _ by simp only [Hp.set, if_neg (hkB lp _ hN.l)]; exact hN.l)
      simp only [unitC] at kl
      have q3q : q3 ≠ q := fun e => by rw [← e, m3] at hq; cases hq
      refine ⟨⟨by simp [stabI, Stab, IsV, e3, hkB q3 _ hN.h3, q3q, m3, k3], trivial⟩, ?_⟩
      obtain ⟨qv, cv, hv'⟩ := how3.isRef (by simp)
      have hlen : ((refsC i (mOf u) σ).map (fun x => [x]) ++ [[CV.ref r 0 (mOf u) (mOf u)]]).length = i + 1 := by simp [refsC_len]
      rw [hlen] at hv'
      subst hv'
      simp [e1, e3, e14, e15, k3, kl]
      refine ⟨u.blocks.length - (i + 1), by omega, i + 1, .ref qv 0 (i + 1) cv, fun b => if b = i then r else σ b, (B.set r (.cells (setC (mOf u) fun _ => false))).set lp (.cells (unitC u ++ [.ref rr 0 u.regs.toNat u.regs.toNat, .ref rc 0 u.spill.toNat u.spill.toNat, .ref qv 0 (i + 1) cv])), by omega, rfl, by simp [e1], by simp [e3], by simp [e14], by simp; rw [wrapI (by omega) (by omega)], rfl, ?_, ?_⟩
      · have hBr := hown.le.none hr0
        have g1 := hkB q1 _ hN.h1
        have g3 := hkB q3 _ hN.h3
        have gr := hkB rr _ hN.r
        have gc := hkB rc _ hN.c
        have gl := hkB lp _ hN.l
        refine ⟨?_, by simp [Ne.symm hN.n1, g1, hN.h1], by simp [Ne.symm hN.n3, g3, hN.h3], by simp, by simp [Ne.symm hN.nr, gr, hN.r], by simp [Ne.symm hN.nc, gc, hN.c], fun b hb => ?_, hN.n1, hN.n3, hN.nr, hN.nc, fun b hb => ?_, hN.hl⟩
        · exact ((hN.base.trans (Le.set_new hBr)).put hN.hl)
        · by_cases hbi : b = i
          · subst hbi; simp [Ne.symm gl]
          · have hbl : b < i := by omega
            have := hkB _ _ (hN.s b hbl)
            simp [hbi, Ne.symm (hN.ns b hbl), this, hN.s b hbl]
        · by_cases hbi : b = i
          · subst hbi; simpa using gl
          · simpa [hbi] using hN.ns b (by omega)
      · rw [refsC_succ, List.map_append]
        have := how3.setBase (r := lp) (o := .cells (unitC u ++ [.ref rr 0 u.regs.toNat u.regs.toNat, .ref rc 0 u.spill.toNat u.spill.toNat, .ref qv 0 (i + 1) cv])) (by simp [hkB lp _ hN.l, hN.l])
        simpa [unitC, hn] using this
    · have : i = u.blocks.length := by omega
      subst this
      exact ⟨v, σ, B, by simp [e1], by simp [e3], rfl, hN, hown⟩
  rintro ⟨e, ds⟩ H2 ⟨v, σ, B, e1, e3, rfl, hN, hown⟩
  dsimp only at e1 e3
  obtain ⟨ri, ci, ex, rfl, hri, hri2, hci⟩ : ∃ ri ci ex, v = .ref ri 0 u.blocks.length ci ∧ B ri = none ∧ H2 ri = some (.cells (refsC u.blocks.length (mOf u) σ ++ ex)) ∧ u.blocks.length ≤ ci := by
    obtain ⟨_, _, ⟨_, hx⟩ | ⟨q, c, ex, rfl, h1, h2, _, h4⟩⟩ := hown
    · have := congrArg List.length hx
      simp [refsC_len] at this
      rw [this] at f7
      simp at f7
    · refine ⟨q, c, ex, by simp [refsC_len], h1, ?_, by simpa [refsC_len] using h4⟩
      rw [h2]
      congr 3
      simp [List.flatten_eq_flatMap, List.flatMap_map]
  have kB : ∀ z o, B z = some o → ri ≠ z := fun z o hz e => by rw [← e, hri] at hz; cases hz
  refine CW.cut (N3 H u p c q3 lp rr rc ri ci ex) ?_ ?_
  · refine CW.walk hX mixed d54 rfl ?_
    simp
    intro q4 hq4
    have k4 : ∀ z o, H2 z = some o → q4 ≠ z := fun z o hz e => by rw [← e, hq4] at hz; cases hz
    have hle2 : Le (B.set ri (.cells (refsC u.blocks.length (mOf u) σ ++ ex))) H2 := by
      intro z o hz
      simp only [Hp.set] at hz
      split at hz
      · rename_i e; subst e; injection hz with hz; rw [← hz]; exact hri2
      · exact hown.le z o hz
    have hN2 : N2 H ((B.set ri (.cells (refsC u.blocks.length (mOf u) σ ++ ex))).set q4 (.cells [.bool true])) u p c q1 q3 q4 lp rr rc ri ci σ ex (fun _ _ => false) true := by
      have hB : N2 H ((B.set ri (.cells (refsC u.blocks.length (mOf u) σ ++ ex))).set q4 (.cells [.bool true])) u p c q1 q3 q4 lp rr rc ri ci σ ex (fun _ _ => false) true := by
        have g1 := hown.le _ _ hN.h1
        have g3 := hown.le _ _ hN.h3
        have gl := hown.le _ _ hN.l
        have gr := hown.le _ _ hN.r
        have gc := hown.le _ _ hN.c
        refine ⟨(hN.base.trans (Le.set_new hri)).trans (Le.set_new (hle2.none hq4)), by simp [Ne.symm (k4 _ _ g1), Ne.symm (kB _ _ hN.h1), hN.h1], by simp [Ne.symm (k4 _ _ g3), Ne.symm (kB _ _ hN.h3), hN.h3], by simp, ⟨by simp [Ne.symm (k4 _ _ gl), Ne.symm (kB _ _ hN.l), hN.l], by simp [Ne.symm (k4 _ _ gr), Ne.symm (kB _ _ hN.r), hN.r], by simp [Ne.symm (k4 _ _ gc), Ne.symm (kB _ _ hN.c), hN.c], by simp [Ne.symm (k4 _ _ hri2)], hci, fun b hb => ?_⟩, k4 _ _ g1, k4 _ _ g3, k4 _ _ gl, k4 _ _ gr, k4 _ _ gc, k4 _ _ hri2, fun b hb => k4 _ _ (hown.le _ _ (hN.s b hb)), kB _ _ hN.h1, kB _ _ hN.h3, kB _ _ hN.l, kB _ _ hN.r, kB _ _ hN.c, fun b hb => kB _ _ (hN.s b hb), hN.base.none hri, (hN.base.trans hown.le).none hq4⟩
        have gs := hown.le _ _ (hN.s b hb)
        simp [Ne.symm (k4 _ _ gs), Ne.symm (kB _ _ (hN.s b hb)), hN.s b hb]
      exact hB
    refine CW.walk1 hX mixed d54 rfl ?_
    simp
    refine CW.loop (N2I H u p c q1 q3 lp rr rc ri ci ex) ?_ (m := 2 * gapL u (fun _ _ => false) + 1) ⟨fun _ _ => false, σ, true, q4, _, rfl, by simp [e1], by simp [e3], by simp, hN2, LLow.empty u p, fun b x hx => by simp at hx, fun b x hx => by simp at hx, by simp, Le.set hle2⟩
    clear hN2 hle2 k4 hq4 kB hci hri2 hri hown hN e1 e3
    clear q4 B σ e H2
    rintro j ⟨e, ds⟩ H2 ⟨I, σ, a, q4, B, rfl, e1, e3, e4, hN, hlow, hup, hbnd, heq, hM⟩
    dsimp only at e1 e3 e4 hM
    have m4 := hM.get hN.h4
    refine CW.walk hX mixed d54 rfl ?_
    simp [e1, e3, e4, m4]
    refine ⟨fun ha => ?_, fun ha => ?_⟩
    · subst ha
      refine CW.cut (N2M H u p c q1 q3 q4 lp rr rc ri ci ex I) ?_ ?_
      · refine CW.walk1 hX mixed d54 rfl ?_
        have m1 := hM.get hN.h1
        simp only [unitC] at m1
        simp [e1, e3, e4, m4, Ne.symm hN.a1, m1]
        refine (backward_blocks hX _ _).k ?_
        rintro x H3 ⟨qo, hqo, rfl, rfl⟩
        simp
        have hM4 := hM.set (q := q4) (o := .cells [.bool false]) (.inr (by rw [hN.h4]; simp))
        have hN4 := hN.set4 false
        have hBo := hM4.le.none hqo
        have hMo := hM4.set (q := qo) (o := .cells [.sl 6 (u.blocks.map blkC)]) (.inl hqo)
        have hNo := hN4.more hBo (o := .cells [.sl 6 (u.blocks.map blkC)])
        refine CW.range hX (X := cx W G) (f := 130) (fs := []) (cap := [.ptr qo 0]) (ys := backYs (u.blocks.map blkC)) (by simp) (back_blocks hX qo _ (by simp [blkC]) (by simp; omega)) boxed_up (by simp) (by simp [backYs]) (N2J H u p c q1 q3 q4 lp rr rc ri ci qo ex ds I) (fun _ _ => False) ?_ ?_ ?_ ?_ (fun _ _ _ h => h.elim)
        · rintro k H1 ⟨I', σ', a', B', _, _, _, _, _, _, _, hqo', hM'⟩
          exact hM'.get hqo'
        · exact ⟨I, σ, false, _, hNo, hlow, hup, hbnd, fun b => Sub.refl _, by simp, fun _ => ⟨rfl, fun b h1 h2 => absurd h2 (by omega)⟩, by simp, hMo⟩
        · rintro l k args H1 hk ⟨I', σ', a', B', hN', hlow', hup', hbnd', hsub, hgt, hcl, hqo', hM'⟩
          have hkl : k < u.blocks.length := by have := (List.getElem?_eq_some_iff.1 hk).1; simpa [backYs] using this
          rw [backYs_get (by simpa using hkl)] at hk
          injection hk with hk
          subst hk
          obtain ⟨b, hb⟩ : ∃ b, b = u.blocks.length - 1 - k := ⟨_, rfl⟩
          have hbl : b < u.blocks.length := by omega
          have hbi : (((u.blocks.map blkC).length : Int) - 1 - (k : Nat)) = ((b : Nat) : Int) := by rw [List.length_map]; omega
          obtain ⟨kb, hkb⟩ : ∃ kb, u.blocks[b]? = some kb := ⟨_, List.getElem?_eq_getElem hbl⟩
          rw [hbi]
          have n4 := hM'.get hN'.h4
          have n3 := hM'.get hN'.h3
          have nL := hN'.L.mono hM'.le
          have nl := nL.l
          simp only [unitC] at nl
          refine CW.walk1 hX mixed d54 rfl ?_
          simp
          refine CW.walk1 hX mixed d54 rfl ?_
          simp [e3, n3]
          have hat := at_h hX hG u hu nL b kb hkb 0 (Nat.zero_le _)
          simp only [List.drop_zero] at hat
          rw [← FP_blk hkb] at hat
          refine hat.k ?_
          rintro x H3 ⟨r, hr, rfl, rfl⟩
          have kr : ∀ z o, H1 z = some o → z ≠ r := fun z o hz e => by rw [e, hr] at hz; cases hz
          have n3r := kr _ _ n3
          have nlr := kr _ _ nl
          have nir := kr _ _ nL.i
          have n4r := kr _ _ n4
          have hget : (refsC u.blocks.length (mOf u) σ' ++ ex)[b]? = some (.ref (σ' b) 0 (mOf u) (mOf u)) := by rw [List.getElem?_append_left (by rw [refsC_len]; exact hbl), refsC_get hbl]
          simp [e3, n3, n3r, nl, nlr, nL.i, nir, hget, hbl]
          have nsr := kr _ _ (nL.s b hbl)
          refine (equal_h hX (mOf u) r (σ' b) (mOf u) (mOf u) _ _ f10 (Nat.le_refl _) (Nat.le_refl _) set_at (by simp [nsr]; exact nL.s b hbl)).k ?_
          rintro x H3 ⟨eqb, rfl, rfl, heqb⟩
          simp [e3, e4, n3, n3r, nl, nlr, nL.i, nir, hbl]
          have hBr : B' r = none := hM'.le.none hr
          refine ⟨fun hf => ⟨by rw [refsC_len]; omega, _, by simp [hN'.ai, n4r]; exact n4, by simp, ?_⟩, fun ht => ?_⟩
          · rw [refsC_set hbl]
            have hqr : qo ≠ r := fun e => by rw [e, hBr] at hqo'; cases hqo'
            have hqi : qo ≠ ri := fun e => by
              have := hN'.L.i
              rw [← e, hqo'] at this
              injection this with this
              injection this with this
              have h0 : [CV.sl 6 (u.blocks.map blkC)][0]? = (refsC u.blocks.length (mOf u) σ' ++ ex)[0]? := by rw [this]
              rw [List.getElem?_append_left (by rw [refsC_len]; omega), refsC_get (by omega)] at h0
              simp at h0
            have hq4 : qo ≠ q4 := fun e => by
              have := hN'.h4
              rw [← e, hqo'] at this
              simp at this
            have hneq : ∃ x, x < 64 * mOf u ∧ FP u p I' b x ≠ I' b x := by
              refine Classical.byContradiction fun hno => ?_
              have : eqb = true := heqb.2 fun x hx => Classical.byContradiction fun h => hno ⟨x, hx, h⟩
              rw [hf] at this
              cases this
            obtain ⟨x, hx, hxne⟩ := hneq
            have hI0 : I' b x = false ∧ FP u p I' b x = true := by
              cases h1 : I' b x with
              | false => rw [h1] at hxne; simpa using hxne
              | true => have := hup' b x h1; rw [this, h1] at hxne; exact absurd rfl hxne
            refine ⟨setAt I' b (FP u p I' b), fun z => if z = b then r else σ' z, true, _, hN'.step hBr hbl, hlow'.step hbl, hup'.step b, fun z x hx => ?_, fun z => (hsub z).trans (setAt_up hup' b z), fun _ => ?_, by simp, by simp [hqr, hqi, hq4, hqo'], ?_⟩
            · simp only [setAt] at hx
              split at hx
              · rename_i hz; subst hz; exact FP_bnd hu hbnd' hbl hx
              · exact hbnd' z x hx
            · exact Nat.lt_of_lt_of_le (gapL_lt (setAt_up hup' b) hbl hx hI0.1 (by simp [setAt, hI0.2])) (gapL_le hsub)
            · refine MarksOk.set (MarksOk.set (hM'.set (.inl hr)) (.inr ?_)) (.inr ?_)
              · rw [hset_ne nir, hN'.L.i]; simp
              · rw [hset_ne hN'.ai, hset_ne n4r, hN'.h4]; simp
          · refine ⟨I', σ', a', B', hN', hlow', hup', hbnd', hsub, hgt, fun ha => ⟨(hcl ha).1, fun z hz1 hz2 x hx => ?_⟩, hqo', hM'.mono (Le.set_new hr)⟩
            obtain ⟨rfl, hcl2⟩ := hcl ha
            rcases Nat.lt_or_ge (z + k) u.blocks.length with h | h
            · have : z = b := by omega
              subst this
              exact heqb.1 ht x hx
            · exact hcl2 z h hz2 x hx
        · rintro d H1 hJ hdn
          obtain ⟨I', σ', a', B', hN', hlow', hup', hbnd', hsub, hgt, hcl, hqo', hM'⟩ := hJ
          simp [backYs] at hcl
          simp
          exact ⟨by simp [e1], by simp [e3], by simp [e4], qo, I', σ', a', B', hN', hlow', hup', hbnd', hsub, hgt, fun ha => ⟨(hcl ha).1, fun b _ h2 => (hcl ha).2 b h2⟩, hqo', hM'.push hdn⟩
      rintro ⟨e, ds⟩ H3 ⟨e1, e3, e4, qo, I', σ', a', B', hN', hlow', hup', hbnd', hsub, hgt, hcl, hqo', hM'⟩
      dsimp only at e1 e3 e4 hM'
      have n4 := hM'.get hN'.h4
      refine CW.walk1 hX mixed d54 rfl ?_
      simp [e1, e3, e4, n4]
      intro q5 hq5
      have hB5 := hM'.le.none hq5
      refine ⟨2 * gapL u I' + (if a' = true then 1 else 0), ?_, I', σ', a', q5, _, rfl, by simp [e1], by simp [e3], by simp, hN'.swap hB5, hlow', hup', hbnd', fun ha b hb x hx => ?_, ?_⟩
      · cases a' with
        | true => have := hgt rfl; simp; omega
        | false => obtain ⟨rfl, _⟩ := hcl rfl; simp
      · obtain ⟨rfl, h⟩ := hcl ha
        exact h b (by omega) hb x hx
      · refine (hM'.less (B' := cutH B' q4) fun i o hi => ?_).set (.inl hq5)
        simp only [cutH] at hi
        split at hi
        · cases hi
        · exact hi
    · subst ha
      refine ⟨I, σ, by simp [e3], hpl, ⟨fun b hb x hx => ?_, hlow⟩, hbnd, B, hN.base, hN.h3, hN.L, hM⟩
      rw [← heq rfl b hb x (FP_bnd hu hbnd hb hx)]
      exact hx
  rintro ⟨e, ds⟩ H2 ⟨I, σ, e3, hpl, hll, hbnd, B, hbase, h3, hL, hM⟩
  dsimp only at e3 hM
  have m3 := hM.get h3
  refine CW.walk1 hX mixed d54 rfl ?_
  simp [e3, m3]
  refine leave_marks (B := B) ?_ hM
  intro H3 hle3
  simp
  exact ⟨hbase.trans hle3, rr, rc, ri, ci, σ, ex, p, c, hpl, I, hll, hbnd, hL.mono hle3⟩
end Go.Cl
