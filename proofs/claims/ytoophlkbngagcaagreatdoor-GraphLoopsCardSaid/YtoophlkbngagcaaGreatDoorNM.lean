/- DERIVED HERE. What is live in a unit: the ground for New. DERIVED HERE. live.New. -/
import Derived.Test.YtoophlkbngagcaaGreatDoorPD
set_option linter.unusedSimpArgs false
set_option linter.unusedVariables false
namespace Go.Cl
open Go.Proofs
variable {W : World} {G : Nat → CV}
set_option maxRecDepth 8000
theorem Own.grow {H0 H : Hp} {v : CV} {sz : Nat} {xs : List (List CV)} {r : Nat} {o : Ob} (h : Own H0 H v sz xs) (hr : H r = none) : Own (H0.set r o) (H.set r o) v sz xs := by
  refine ⟨Le.set h.1, h.2.1, ?_⟩
  rcases h.2.2 with h' | ⟨q, c, ex, h1, h2, h3, h4⟩
  · exact .inl h'
  · have hne : q ≠ r := fun e => by rw [← e, h3] at hr; cases hr
    exact .inr ⟨q, c, ex, h1, by simp [Hp.set, hne, h2], by simp [Hp.set, hne, h3], h4⟩
theorem Own.setBase {H0 H : Hp} {v : CV} {sz : Nat} {xs : List (List CV)} {r : Nat} {o : Ob} (h : Own H0 H v sz xs) (hr : H0 r ≠ none) : Own (H0.set r o) (H.set r o) v sz xs := by
  refine ⟨Le.set h.1, h.2.1, ?_⟩
  rcases h.2.2 with h' | ⟨q, c, ex, h1, h2, h3, h4⟩
  · exact .inl h'
  · have hne : q ≠ r := fun e => hr (by rw [← e, h2])
    exact .inr ⟨q, c, ex, h1, by simp [Hp.set, hne, h2], by simp [Hp.set, hne, h3], h4⟩
theorem hun_one {H : Hp} {r : Nat} {o : Ob} (h : H r = none) : hun H (Hp.set (fun _ => none) r o) = H.set r o := by
  funext i
  simp only [hun, Hp.set]
  by_cases e : i = r
  · subst e; simp [h]
  · simp [e]
theorem fz_set {H : Hp} {r m c : Nat} {f : Nat → Bool} (h : H r = some (.cells (setC m f))) (hc : m ≤ c) : Fz H (.ref r 0 m c) (.sl 1 (setS m f)) := by
  refine .ref r 0 m c 1 _ _ h (by simp) hc (fun i e he => ?_) (fun i _ => .int .u64 (word f i)) (fun i j hi hj => ?_) (fun i j e x he hx => ?_)
  · rw [setS_gets] at he; rw [← he.2]; rfl
  · have : j = 0 := by omega
    subst this
    rw [show 0 + (i * 1 + 0) = i by omega, setC_get hi]
  · rw [setS_gets] at he
    rw [← he.2] at hx
    cases j with
    | zero => simp at hx; subst hx; exact .same _
    | succ j => simp at hx
theorem fz_bool {H : Hp} {r m c : Nat} {f : Nat → Bool} (h : H r = some (.cells (boolC m f))) (hc : m ≤ c) : Fz H (.ref r 0 m c) (.sl 1 (boolS m f)) := by
  refine .ref r 0 m c 1 _ _ h (by simp) hc (fun i e he => ?_) (fun i _ => .bool (f i)) (fun i j hi hj => ?_) (fun i j e x he hx => ?_)
  · rw [boolS_gets] at he; rw [← he.2]; rfl
  · have : j = 0 := by omega
    subst this
    rw [show 0 + (i * 1 + 0) = i by omega, boolC_get hi]
  · rw [boolS_gets] at he
    rw [← he.2] at hx
    cases j with
    | zero => simp at hx; subst hx; exact .same _
    | succ j => simp at hx
def refsC (n m : Nat) (σ : Nat → Nat) : List CV := (List.range n).map fun b => .ref (σ b) 0 m m
theorem refsC_get {n m : Nat} {σ : Nat → Nat} {i : Nat} (h : i < n) : (refsC n m σ)[i]? = some (.ref (σ i) 0 m m) := by simp [refsC, h]
theorem refsC_len {n m : Nat} {σ : Nat → Nat} : (refsC n m σ).length = n := by simp [refsC]
/-- A Live, as it lies. -/
structure LH (H : Hp) (lp rr rc ri ci : Nat) (σ : Nat → Nat) (ex : List CV) (u : UUnit) (p c : Nat → Bool) (I : Nat → Nat → Bool) : Prop where
  l : H lp = some (.cells (unitC u ++ [.ref rr 0 u.regs.toNat u.regs.toNat, .ref rc 0 u.spill.toNat u.spill.toNat, .ref ri 0 u.blocks.length ci]))
  r : H rr = some (.cells (boolC u.regs.toNat p))
  c : H rc = some (.cells (boolC u.spill.toNat c))
  i : H ri = some (.cells (refsC u.blocks.length (mOf u) σ ++ ex))
  n : u.blocks.length ≤ ci
  s : ∀ b, b < u.blocks.length → H (σ b) = some (.cells (setC (mOf u) (I b)))
theorem LH.mono {H H' : Hp} {lp rr rc ri ci : Nat} {σ : Nat → Nat} {ex : List CV} {u : UUnit} {p c : Nat → Bool} {I : Nat → Nat → Bool} (h : LH H lp rr rc ri ci σ ex u p c I) (hl : Le H H') : LH H' lp rr rc ri ci σ ex u p c I :=
  ⟨hl _ _ h.l, hl _ _ h.r, hl _ _ h.c, hl _ _ h.i, h.n, fun b hb => hl _ _ (h.s b hb)⟩
theorem LH.fzIn {H : Hp} {lp rr rc ri ci : Nat} {σ : Nat → Nat} {ex : List CV} {u : UUnit} {p c : Nat → Bool} {I : Nat → Nat → Bool} (h : LH H lp rr rc ri ci σ ex u p c I) : Fz H (.ref ri 0 u.blocks.length ci) (.sl 1 (liveS u.blocks.length (mOf u) I)) := by
  refine .ref ri 0 _ ci 1 _ _ h.i (by simp [liveS]) h.n (fun i e he => ?_) (fun i _ => .ref (σ i) 0 (mOf u) (mOf u)) (fun i j hi hj => ?_) (fun i j e x he hx => ?_)
  · simp only [liveS, List.getElem?_map] at he
    cases hr : (List.range u.blocks.length)[i]? with
    | none => rw [hr] at he; simp at he
    | some b => rw [hr] at he; simp at he; rw [← he]; rfl
  · have : j = 0 := by omega
    subst this
    rw [show 0 + (i * 1 + 0) = i by omega, List.getElem?_append_left (by rw [refsC_len]; exact hi), refsC_get hi]
  · have hi : i < u.blocks.length := by have := (List.getElem?_eq_some_iff.1 he).1; simpa [liveS] using this
    simp only [liveS, List.getElem?_map, List.getElem?_range hi] at he
    simp at he
    rw [← he] at hx
    cases j with
    | zero => simp at hx; subst hx; exact fz_set (h.s i hi) (Nat.le_refl _)
    | succ j => simp at hx
theorem LH.fz {H : Hp} {lp rr rc ri ci : Nat} {σ : Nat → Nat} {ex : List CV} {u : UUnit} {p c : Nat → Bool} {I : Nat → Nat → Bool} (h : LH H lp rr rc ri ci σ ex u p c I) : Fz H (.ptr lp 0) (.iptr (liveC u u.regs.toNat p u.spill.toNat c I)) := by
  refine .ptr lp 0 _ _ h.l (fun j => (unitC u ++ [CV.ref rr 0 u.regs.toNat u.regs.toNat, CV.ref rc 0 u.spill.toNat u.spill.toNat, CV.ref ri 0 u.blocks.length ci]).getD j .any) (fun j hj => ?_) (fun j x hx => ?_)
  · have hj : j < 9 := by simpa [liveC, unitC, mayC] using hj
    rw [Nat.zero_add, List.getD_eq_getElem?_getD, List.getElem?_eq_getElem (by simp [unitC]; omega)]
    rfl
  · simp only [liveC, unitC, mayC] at hx ⊢
    rcases j with _|_|_|_|_|_|_|_|_|j
    all_goals simp at hx ⊢
    all_goals subst hx
    all_goals first
      | exact .same _
      | exact fz_bool h.r (Nat.le_refl _)
      | exact fz_bool h.c (Nat.le_refl _)
      | exact h.fzIn
/-! ### What is live is a register -/
def Bnd (u : UUnit) (I : Nat → Nat → Bool) : Prop := ∀ b x, I b x = true → x < 64 * mOf u
theorem FP_bnd {u : UUnit} (hu : wfU u = true) {p : Nat → Bool} {I : Nat → Nat → Bool} (hI : Bnd u I) {b : Nat} (hb : b < u.blocks.length) {x : Nat} (h : FP u p I b x = true) : x < 64 * mOf u := by
  obtain ⟨f1, f2, f3, f4, f5, f6, f7, f8, f9, f10, f11⟩ := wfU_facts hu
  have hm : mOf u = (u.regs.toNat + 63) / 64 := rfl
  have hk : u.blocks[b]? = some (blkAt u b) := by simp [blkAt, List.getD_eq_getElem?_getD, List.getElem?_eq_getElem hb]
  obtain ⟨g1, g2, g3, g4⟩ := wfB_facts hu hk
  obtain ⟨w1, w2, w3, w4, w5⟩ := wfE_facts g4
  simp only [FP] at h
  generalize blkAt u b = k at *
  have hc : ∀ y, catchP u I k y = true → y < 64 * mOf u := fun y hy => by
    simp only [catchP, Bool.and_eq_true] at hy
    exact hI _ _ hy.2.2
  have he : ∀ y, endP u p I k y = true → y < 64 * mOf u := fun y hy => by
    simp only [endP, Bool.or_eq_true, Bool.and_eq_true, decide_eq_true_eq, beq_iff_eq] at hy
    rcases hy with ((hy | hy) | hy) | hy
    · exact hI _ _ hy.2
    · exact hI _ _ hy.2
    · exact hc _ hy.2
    · have := w3 hy.1; omega
  have hs : ∀ l, (∀ o ∈ l, wfOp u o = true) → ∀ y, beforeP u p I k l y = true → y < 64 * mOf u := by
    intro l
    induction l with
    | nil => exact fun _ => he
    | cons o l ih =>
      intro hl y hy
      obtain ⟨o1, o2, o3, o4, o5, o6, o7, o8, o9⟩ := wfO_facts (hl o (List.mem_cons_self ..)) f3
      have hy : stepP u p I k o (beforeP u p I k l) y = true := hy
      simp only [stepP, Bool.or_eq_true, Bool.and_eq_true, List.any_eq_true, beq_iff_eq] at hy
      rcases hy with ((hy | hy) | hy) | ⟨z, hz, rfl⟩
      · exact ih (fun o ho => hl o (List.mem_cons_of_mem _ ho)) y hy.1
      · exact hI _ _ hy.2
      · exact hc _ hy.2
      · have := o3 z hz; omega
  exact hs _ g3 x h
def prs (u : UUnit) : List (Nat × Nat) := (List.range u.blocks.length).flatMap fun b => (List.range (64 * mOf u)).map fun x => (b, x)
def gapL (u : UUnit) (I : Nat → Nat → Bool) : Nat := gap (prs u) fun z => I z.1 z.2
theorem gapL_le {u : UUnit} {I J : Nat → Nat → Bool} (h : Sub2 I J) : gapL u J ≤ gapL u I := gap_le fun z hz => h _ _ hz
theorem gapL_lt {u : UUnit} {I J : Nat → Nat → Bool} (h : Sub2 I J) {b x : Nat} (hb : b < u.blocks.length) (hx : x < 64 * mOf u) (h1 : I b x = false) (h2 : J b x = true) : gapL u J < gapL u I :=
  gap_lt (x := (b, x)) (fun z hz => h _ _ hz) (by simp [prs, hb, hx]) h1 h2
theorem FP_blk {u : UUnit} {p : Nat → Bool} {I : Nat → Nat → Bool} {b : Nat} {k : UBlk} (h : u.blocks[b]? = some k) : FP u p I b = beforeP u p I k k.ops := by
  have : blkAt u b = k := by simp [blkAt, List.getD_eq_getElem?_getD, h]
  simp [FP, this]
end Go.Cl
set_option linter.unusedSimpArgs false
set_option linter.unusedVariables false
namespace Go.Cl
open Go.Proofs
variable {W : World} {G : Nat → CV}
set_option maxRecDepth 8000
/-- What New holds while it makes the empty sets. -/
structure N1 (H B : Hp) (u : UUnit) (p c : Nat → Bool) (q1 q3 lp rr rc : Nat) (i : Nat) (v : CV) (σ : Nat → Nat) : Prop where
  base : Le H B
  h1 : B q1 = some (.cells (unitC u))
  h3 : B q3 = some (.cells [.ptr lp 0])
  l : B lp = some (.cells (unitC u ++ [.ref rr 0 u.regs.toNat u.regs.toNat, .ref rc 0 u.spill.toNat u.spill.toNat, v]))
  r : B rr = some (.cells (boolC u.regs.toNat p))
  c : B rc = some (.cells (boolC u.spill.toNat c))
  s : ∀ b, b < i → B (σ b) = some (.cells (setC (mOf u) fun _ => false))
  n1 : lp ≠ q1
  n3 : lp ≠ q3
  nr : lp ≠ rr
  nc : lp ≠ rc
  ns : ∀ b, b < i → lp ≠ σ b
  hl : H lp = none
def N1I (H : Hp) (u : UUnit) (p c : Nat → Bool) (q1 q3 lp rr rc : Nat) (j : Nat) (s' : CA) (H' : Hp) : Prop := ∃ i v σ B, i ≤ u.blocks.length ∧ j = u.blocks.length - i ∧ s'.env 1 = .ptr q1 0 ∧ s'.env 3 = .ptr q3 0 ∧ s'.env 14 = .int .i64 u.blocks.length ∧ s'.env 15 = .int .i64 i ∧ s'.ds = [] ∧ N1 H B u p c q1 q3 lp rr rc i v σ ∧ Own B H' v 1 ((refsC i (mOf u) σ).map fun x => [x])
def N1E (H : Hp) (u : UUnit) (p c : Nat → Bool) (q1 q3 lp rr rc : Nat) (s' : CA) (H' : Hp) : Prop := ∃ v σ B, s'.env 1 = .ptr q1 0 ∧ s'.env 3 = .ptr q3 0 ∧ s'.ds = [] ∧ N1 H B u p c q1 q3 lp rr rc u.blocks.length v σ ∧ Own B H' v 1 ((refsC u.blocks.length (mOf u) σ).map fun x => [x])
theorem refsC_succ {i m : Nat} {σ : Nat → Nat} {r : Nat} : refsC (i + 1) m (fun b => if b = i then r else σ b) = refsC i m σ ++ [.ref r 0 m m] := by
  simp only [refsC, List.range_succ, List.map_append, List.map_cons, List.map_nil, if_true]
  congr 1
  apply List.map_congr_left
  intro b hb
  have := List.mem_range.1 hb
  rw [if_neg (by omega)]
/-- What New holds while it looks again and again. -/
structure N2 (H B : Hp) (u : UUnit) (p c : Nat → Bool) (q1 q3 q4 lp rr rc ri ci : Nat) (σ : Nat → Nat) (ex : List CV) (I : Nat → Nat → Bool) (a : Bool) : Prop where
  base : Le H B
  h1 : B q1 = some (.cells (unitC u))
  h3 : B q3 = some (.cells [.ptr lp 0])
  h4 : B q4 = some (.cells [.bool a])
  L : LH B lp rr rc ri ci σ ex u p c I
  a1 : q4 ≠ q1
  a3 : q4 ≠ q3
  al : q4 ≠ lp
  ar : q4 ≠ rr
  ac : q4 ≠ rc
  ai : q4 ≠ ri
  as' : ∀ b, b < u.blocks.length → q4 ≠ σ b
  i1 : ri ≠ q1
  i3 : ri ≠ q3
  il : ri ≠ lp
  ir : ri ≠ rr
  ic : ri ≠ rc
  is : ∀ b, b < u.blocks.length → ri ≠ σ b
  hi : H ri = none
  h4n : H q4 = none
theorem N2.set4 {H B : Hp} {u : UUnit} {p c : Nat → Bool} {q1 q3 q4 lp rr rc ri ci : Nat} {σ : Nat → Nat} {ex : List CV} {I : Nat → Nat → Bool} {a : Bool} (h : N2 H B u p c q1 q3 q4 lp rr rc ri ci σ ex I a) (b : Bool) : N2 H (B.set q4 (.cells [.bool b])) u p c q1 q3 q4 lp rr rc ri ci σ ex I b :=
  ⟨h.base.put h.h4n, by simp [Ne.symm h.a1, h.h1], by simp [Ne.symm h.a3, h.h3], by simp, ⟨by simp [Ne.symm h.al, h.L.l], by simp [Ne.symm h.ar, h.L.r], by simp [Ne.symm h.ac, h.L.c], by simp [Ne.symm h.ai, h.L.i], h.L.n, fun b hb => by simp [Ne.symm (h.as' b hb), h.L.s b hb]⟩, h.a1, h.a3, h.al, h.ar, h.ac, h.ai, h.as', h.i1, h.i3, h.il, h.ir, h.ic, h.is, h.hi, h.h4n⟩
theorem N2.more {H B : Hp} {u : UUnit} {p c : Nat → Bool} {q1 q3 q4 lp rr rc ri ci : Nat} {σ : Nat → Nat} {ex : List CV} {I : Nat → Nat → Bool} {a : Bool} (h : N2 H B u p c q1 q3 q4 lp rr rc ri ci σ ex I a) {q : Nat} {o : Ob} (hq : B q = none) : N2 H (B.set q o) u p c q1 q3 q4 lp rr rc ri ci σ ex I a := by
  have hl : Le B (B.set q o) := Le.set_new hq
  exact ⟨h.base.trans hl, hl _ _ h.h1, hl _ _ h.h3, hl _ _ h.h4, h.L.mono hl, h.a1, h.a3, h.al, h.ar, h.ac, h.ai, h.as', h.i1, h.i3, h.il, h.ir, h.ic, h.is, h.hi, h.h4n⟩
theorem N2.swap {H B : Hp} {u : UUnit} {p c : Nat → Bool} {q1 q3 q4 lp rr rc ri ci : Nat} {σ : Nat → Nat} {ex : List CV} {I : Nat → Nat → Bool} {a : Bool} (h : N2 H B u p c q1 q3 q4 lp rr rc ri ci σ ex I a) {q5 : Nat} (hq : B q5 = none) : N2 H ((cutH B q4).set q5 (.cells [.bool a])) u p c q1 q3 q5 lp rr rc ri ci σ ex I a := by
  have k : ∀ q o, B q = some o → q5 ≠ q := fun q o h e => by rw [← e, hq] at h; cases h
  have g : ∀ q o, B q = some o → q ≠ q4 → ((cutH B q4).set q5 (.cells [.bool a])) q = some o := fun q o hb hne => by
    simp only [Hp.set, cutH]
    rw [if_neg (Ne.symm (k q o hb)), if_neg hne, hb]
  refine ⟨fun i o hi => g i o (h.base i o hi) (fun e => by rw [e, h.h4n] at hi; cases hi), g _ _ h.h1 (Ne.symm h.a1), g _ _ h.h3 (Ne.symm h.a3), by simp, ⟨g _ _ h.L.l (Ne.symm h.al), g _ _ h.L.r (Ne.symm h.ar), g _ _ h.L.c (Ne.symm h.ac), g _ _ h.L.i (Ne.symm h.ai), h.L.n, fun b hb => g _ _ (h.L.s b hb) (Ne.symm (h.as' b hb))⟩, k _ _ h.h1, k _ _ h.h3, k _ _ h.L.l, k _ _ h.L.r, k _ _ h.L.c, k _ _ h.L.i, fun b hb => k _ _ (h.L.s b hb), h.i1, h.i3, h.il, h.ir, h.ic, h.is, h.hi, h.base.none hq⟩
theorem refsC_set {n m i r : Nat} {σ : Nat → Nat} {ex : List CV} (h : i < n) : (refsC n m σ ++ ex).take i ++ CV.ref r 0 m m :: (refsC n m σ ++ ex).drop (i + 1) = refsC n m (fun b => if b = i then r else σ b) ++ ex := by
  rw [take_drop_set (by rw [List.length_append, refsC_len]; omega), List.set_append_left _ _ (by rw [refsC_len]; exact h)]
  congr 1
  apply List.ext_getElem?
  intro j
  rw [List.getElem?_set]
  simp only [refsC, List.length_map, List.length_range, List.getElem?_map]
  by_cases hj : i = j
  · subst hj; simp [h]
  · rw [if_neg hj]
    rcases Nat.lt_or_ge j n with h2 | h2
    · rw [List.getElem?_range h2]; simp [Ne.symm hj]
    · rw [List.getElem?_eq_none (by simpa using h2)]; rfl
theorem N2.step {H B : Hp} {u : UUnit} {p c : Nat → Bool} {q1 q3 q4 lp rr rc ri ci : Nat} {σ : Nat → Nat} {ex : List CV} {I : Nat → Nat → Bool} {a : Bool} (h : N2 H B u p c q1 q3 q4 lp rr rc ri ci σ ex I a) {r i : Nat} {f : Nat → Bool} (hr : B r = none) (hi : i < u.blocks.length) :
    N2 H (((B.set r (.cells (setC (mOf u) f))).set ri (.cells (refsC u.blocks.length (mOf u) (fun b => if b = i then r else σ b) ++ ex))).set q4 (.cells [.bool true])) u p c q1 q3 q4 lp rr rc ri ci (fun b => if b = i then r else σ b) ex (setAt I i f) true := by
  have k : ∀ q o, B q = some o → q ≠ r := fun q o hq e => by rw [e, hr] at hq; cases hq
  have k1 := k _ _ h.h1
  have k3 := k _ _ h.h3
  have k4 := k _ _ h.h4
  have kl := k _ _ h.L.l
  have kr := k _ _ h.L.r
  have kc := k _ _ h.L.c
  have ki := k _ _ h.L.i
  have hB : N2 H ((B.set r (.cells (setC (mOf u) f))).set ri (.cells (refsC u.blocks.length (mOf u) (fun b => if b = i then r else σ b) ++ ex))) u p c q1 q3 q4 lp rr rc ri ci (fun b => if b = i then r else σ b) ex (setAt I i f) a := by
    refine ⟨(h.base.trans (Le.set_new hr)).put h.hi, by simp [Ne.symm h.i1, k1, h.h1], by simp [Ne.symm h.i3, k3, h.h3], by simp [h.ai, k4, h.h4], ⟨by simp [Ne.symm h.il, kl, h.L.l], by simp [Ne.symm h.ir, kr, h.L.r], by simp [Ne.symm h.ic, kc, h.L.c], by simp, h.L.n, fun b hb => ?_⟩, h.a1, h.a3, h.al, h.ar, h.ac, h.ai, fun b hb => ?_, h.i1, h.i3, h.il, h.ir, h.ic, fun b hb => ?_, h.hi, h.h4n⟩
    · by_cases hbi : b = i
      · subst hbi; simp [Ne.symm ki, setAt]
      · have := k _ _ (h.L.s b hb)
        simp [hbi, Ne.symm (h.is b hb), this, h.L.s b hb, setAt]
    · by_cases hbi : b = i
      · subst hbi; simpa using k4
      · simpa [hbi] using h.as' b hb
    · by_cases hbi : b = i
      · subst hbi; simpa using ki
      · simpa [hbi] using h.is b hb
  exact hB.set4 true
def N2I (H : Hp) (u : UUnit) (p c : Nat → Bool) (q1 q3 lp rr rc ri ci : Nat) (ex : List CV) (j : Nat) (s' : CA) (H' : Hp) : Prop := ∃ I σ a q4 B, j = 2 * gapL u I + (if a = true then 1 else 0) ∧ s'.env 1 = .ptr q1 0 ∧ s'.env 3 = .ptr q3 0 ∧ s'.env 4 = .ptr q4 0 ∧ N2 H B u p c q1 q3 q4 lp rr rc ri ci σ ex I a ∧ LLow u p I ∧ LUp u p I ∧ Bnd u I ∧ (a = false → ∀ b, b < u.blocks.length → ∀ x, x < 64 * mOf u → FP u p I b x = I b x) ∧ MarksOk s'.ds H' B
def N2J (H : Hp) (u : UUnit) (p c : Nat → Bool) (q1 q3 q4 lp rr rc ri ci qo : Nat) (ex : List CV) (ds : List CD) (I : Nat → Nat → Bool) (k : Nat) (H1 : Hp) : Prop := ∃ I' σ a B, N2 H B u p c q1 q3 q4 lp rr rc ri ci σ ex I' a ∧ LLow u p I' ∧ LUp u p I' ∧ Bnd u I' ∧ Sub2 I I' ∧ (a = true → gapL u I' < gapL u I) ∧ (a = false → I' = I ∧ ∀ b, u.blocks.length ≤ b + k → b < u.blocks.length → ∀ x, x < 64 * mOf u → FP u p I b x = I b x) ∧ B qo = some (.cells [.sl 6 (u.blocks.map blkC)]) ∧ MarksOk ds H1 B
def N2M (H : Hp) (u : UUnit) (p c : Nat → Bool) (q1 q3 q4 lp rr rc ri ci : Nat) (ex : List CV) (I : Nat → Nat → Bool) (s' : CA) (H' : Hp) : Prop := s'.env 1 = .ptr q1 0 ∧ s'.env 3 = .ptr q3 0 ∧ s'.env 4 = .ptr q4 0 ∧ ∃ qo, N2J H u p c q1 q3 q4 lp rr rc ri ci qo ex s'.ds I u.blocks.length H'
def N3 (H : Hp) (u : UUnit) (p c : Nat → Bool) (q3 lp rr rc ri ci : Nat) (ex : List CV) (s' : CA) (H' : Hp) : Prop := ∃ I σ, s'.env 3 = .ptr q3 0 ∧ PLeast (opsOf u) p c ∧ LLeast u p I ∧ Bnd u I ∧ ∃ B, Le H B ∧ B q3 = some (.cells [.ptr lp 0]) ∧ LH B lp rr rc ri ci σ ex u p c I ∧ MarksOk s'.ds H' B
theorem Own.isRef {H0 H : Hp} {v : CV} {sz : Nat} {xs : List (List CV)} (h : Own H0 H v sz xs) (hne : xs ≠ []) : ∃ r c, v = .ref r 0 xs.length c := by
  obtain ⟨_, _, ⟨_, hx⟩ | ⟨q, c, ex, rfl, _⟩⟩ := h
  · exact absurd hx hne
  · exact ⟨q, c, rfl⟩
end Go.Cl
