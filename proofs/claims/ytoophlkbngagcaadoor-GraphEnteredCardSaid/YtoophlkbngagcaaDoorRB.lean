/- DERIVED HERE. The reference's Check: it says what the program's Check says. DERIVED HERE. The reference's small functions on operations and sets; behind, aside. DERIVED HERE. The reference's Live: behind, aside, Before. DERIVED HERE. The reference's Live: Before. DERIVED HERE. The reference's Poisons. DERIVED HERE. The reference's Of: what is live in a unit. DERIVED HERE. The reference's Throws. -/
import Derived.Test.YtoophlkbngagcaaDoorEB
import Derived.Test.YtoophlkbngagcaaDoorLenK
import Derived.Test.YtoophlkbngagcaaDoorPD
import Derived.Test.YtoophlkbngagcaaDoorNM
set_option linter.unusedSimpArgs false
set_option linter.unusedVariables false
namespace Go.Cl
open Go.Proofs Dd
variable {W : World} {G : Nat → CV}
set_option maxRecDepth 8000
set_option maxHeartbeats 4000000
def isCell (k : Int) : Bool := decide (k = 18) || decide (k = 19)
def hN (k : Int) : Bool := decide (k = 1) || isArr k || isCell k || decide (k = 21)
def hD (k : Int) : Bool := decide (k ≠ 17) && decide (k ≠ 19) && decide (k ≠ 20) && decide (k ≠ 21) && decide (k ≠ 22)
theorem has_bits2 {k : Int} (h : isKind k = true) : hD k = uBit k 0 ∧ hN k = (uBit k 4 || uBit k 5 || uBit k 6 || uBit k 7) ∧ isArr k = uBit k 5 ∧ isCell k = uBit k 6 ∧ decide (k = 21) = uBit k 7 := by
  simp only [isKind, Bool.and_eq_true, decide_eq_true_eq] at h
  have kinds : k = 1 ∨ k = 2 ∨ k = 3 ∨ k = 4 ∨ k = 5 ∨ k = 6 ∨ k = 7 ∨ k = 8 ∨ k = 9 ∨ k = 10 ∨ k = 11 ∨ k = 12 ∨ k = 13 ∨ k = 14 ∨ k = 15 ∨ k = 16 ∨ k = 17 ∨ k = 18 ∨ k = 19 ∨ k = 20 ∨ k = 21 ∨ k = 22 ∨ k = 23 ∨ k = 24 ∨ k = 25 := by omega
  rcases kinds with k | k | k | k | k | k | k | k | k | k | k | k | k | k | k | k | k | k | k | k | k | k | k | k | k <;> subst k <;> exact ⟨rfl, rfl, rfl, rfl, rfl⟩
def regAt (o : UOp) (i : Nat) : Int := [o.dst, o.a, o.b, o.c].getD i 0
/-- The loops of op: round i, nothing found so far. -/
structure opI (H2 : Hp) (okf : Nat → Bool) (q2 q3 : Nat) (r5 r6 t d : Nat) (mt : Option Int) (j : Nat) (s' : CA) (H' : Hp) : Prop where
  ex : ∃ i it : Nat, i ≤ 4 ∧ j = 4 - i ∧ s'.env 2 = .ptr q2 0 ∧ s'.env 3 = .ptr q3 0 ∧ s'.env 5 = .ref r5 0 4 4 ∧ s'.env 6 = .ref r6 0 4 4 ∧ (∀ m, mt = some m → s'.env 8 = ci m) ∧ s'.env t = .int .i64 it ∧ it + d = i ∧ s'.ds = [] ∧ H' = H2 ∧ ∀ k, k < i → okf k = true
structure opE' (H2 : Hp) (okf : Nat → Bool) (q2 q3 : Nat) (r5 r6 : Nat) (mt : Option Int) (s' : CA) (H' : Hp) : Prop where
  ex : s'.env 2 = .ptr q2 0 ∧ s'.env 3 = .ptr q3 0 ∧ s'.env 5 = .ref r5 0 4 4 ∧ s'.env 6 = .ref r6 0 4 4 ∧ (∀ m, mt = some m → s'.env 8 = ci m) ∧ s'.ds = [] ∧ H' = H2 ∧ ∀ k, k < 4 → okf k = true
end Go.Cl
set_option linter.unusedSimpArgs false
set_option linter.unusedVariables false
namespace Go.Cl
open Go.Proofs Dd
variable {W : World} {G : Nat → CV}
set_option maxRecDepth 8000
set_option maxHeartbeats 4000000
theorem SlN.src {H0 H : Hp} {v : CV} {l : List Int} (h : SlN H0 H v l) : ∀ K' : Nat → List CV → Prop, K' (ints l).length (ints l).flatten → srcC H 1 v K' := by
  intro K' hK
  rcases h with ⟨rfl, rfl⟩ | ⟨q, c, cs, rfl, _, hq, hcs⟩
  · exact hK
  · have hl : l.length ≤ cs.length := by
      rcases Nat.lt_or_ge cs.length l.length with h | h
      · have h1 : cs.length < l.length := h
        have := hcs cs.length _ (List.getElem?_eq_getElem h1)
        have := (List.getElem?_eq_some_iff.1 this).1
        omega
      · exact h
    refine ⟨cs, hq, by omega, ?_⟩
    have ht : (cs.drop 0).take (l.length * 1) = (ints l).flatten := by
      rw [ints_flat, List.drop_zero, Nat.mul_one]
      apply List.ext_getElem?
      intro k
      rw [List.getElem?_take, List.getElem?_map]
      by_cases hk : k < l.length
      · rw [if_pos hk, hcs k _ (List.getElem?_eq_getElem hk), List.getElem?_eq_getElem hk]; rfl
      · rw [if_neg hk, List.getElem?_eq_none (by omega)]; rfl
    rw [ht]
    simpa [ints] using hK
structure rdM (H1 : Hp) (q1 : Nat) (L : List Int) (s' : CA) (H' : Hp) : Prop where
  ex : ∃ v, s'.env 1 = .ptr q1 0 ∧ s'.env 3 = v ∧ s'.ds = [] ∧ Own H1 H' v 1 (ints L)
theorem boolC_put {n i : Nat} (f : Nat → Bool) (b : Bool) (h : i < n) : (boolC n f).take i ++ .bool b :: (boolC n f).drop (i + 1) = boolC n (fun x => if x = i then b else f x) := by
  rw [take_drop_set (by rw [boolC_len]; exact h)]
  apply List.ext_getElem?
  intro j
  rw [List.getElem?_set]
  simp only [boolC, List.length_map, List.length_range, List.getElem?_map]
  by_cases hj : i = j
  · subst hj; simp [h]
  · rw [if_neg hj]
    rcases Nat.lt_or_ge j n with h2 | h2
    · rw [List.getElem?_range h2]; simp [Ne.symm hj]
    · rw [List.getElem?_eq_none (by simpa using h2)]; rfl
theorem boolC_congr {n : Nat} {f g : Nat → Bool} (h : ∀ x, x < n → f x = g x) : boolC n f = boolC n g := by
  simp only [boolC]
  exact List.map_congr_left fun x hx => by rw [h x (List.mem_range.1 hx)]
/-- A slice of truths: frozen, or in a block that is not r. -/
def SrcB (H : Hp) (r : Nat) (v : CV) (n : Nat) (g : Nat → Bool) : Prop := v = .sl 1 (boolS n g) ∨ ∃ q c, v = .ref q 0 n c ∧ H q = some (.cells (boolC n g)) ∧ q ≠ r
structure jnI (H : Hp) (n r : Nat) (f g : Nat → Bool) (but : Int) (v : CV) (d : Nat) (j : Nat) (s' : CA) (H' : Hp) : Prop where
  ex : ∃ i i6 : Nat, i ≤ n ∧ j = n - i ∧ s'.env 0 = .ref r 0 n n ∧ s'.env 1 = v ∧ s'.env 2 = ci but ∧ s'.env 6 = .int .i64 i6 ∧ i6 + d = i ∧ s'.ds = [] ∧ H' = H.set r (.cells (boolC n fun x => if x < i then f x || (g x && decide ((x : Int) ≠ but)) else f x))
end Go.Cl
set_option linter.unusedSimpArgs false
set_option linter.unusedVariables false
namespace Go.Cl
open Go.Proofs Dd
variable {W : World} {G : Nat → CV}
set_option maxRecDepth 8000
set_option maxHeartbeats 4000000
def insS (m n : Nat) (I : Nat → Nat → Bool) : List (List CV) := (List.range m).map fun i => [.sl 1 (boolS n (I i))]
theorem insS_len {m n : Nat} {I : Nat → Nat → Bool} : (insS m n I).length = m := by simp [insS]
theorem insS_get {m n i : Nat} {I : Nat → Nat → Bool} (h : i < m) : (insS m n I)[i]? = some [.sl 1 (boolS n (I i))] := by simp [insS, h]
theorem insS_ex {m n i : Nat} {I : Nat → Nat → Bool} {P : List CV → Prop} : (∃ e, (insS m n I)[i]? = some e ∧ P e) = (i < m ∧ P [.sl 1 (boolS n (I i))]) := by
  simp only [insS, List.getElem?_map, eq_iff_iff]
  rcases Nat.lt_or_ge i m with h | h
  · rw [List.getElem?_range h]; simp [h]
  · rw [List.getElem?_eq_none (by simpa using h)]; simp; intro h2; omega
attribute [simp ↓] insS_ex
attribute [simp] insS_len
def refC (u : UUnit) (p : Nat → Bool) (I : Nat → Nat → Bool) : List CV := unitC u ++ [.sl 1 (boolS u.regs.toNat p), .sl 1 (insS u.blocks.length u.regs.toNat I)]
theorem zeroB (n : Nat) : (List.range n).map (fun i => ([CV.bool false][i % 1]?).getD CV.any) = boolC n fun _ => false := by
  simp only [boolC]
  exact List.map_congr_left fun x hx => by simp [Nat.mod_one]
/-- What is live where a block's End may go. -/
def behP (u : UUnit) (p : Nat → Bool) (I : Nat → Nat → Bool) (b : UBlk) : Nat → Bool := fun r => (goes b.en && I b.en.to.toNat r) || (branches b.en && I b.en.els.toNat r) || (mayEnd p b.en && catchP u I b r)
def asideP (u : UUnit) (p : Nat → Bool) (I : Nat → Nat → Bool) (b : UBlk) (o : UOp) : Nat → Bool := fun r => (decide (o.kind = 21) && I o.n.toNat r) || (mayTrap p o && catchP u I b r)
structure bhM (Hb : Hp) (cs : List CV) (b r5 r6 n : Nat) (f : Nat → Bool) (s' : CA) (H' : Hp) : Prop where
  ex : s'.env 0 = .iptr cs ∧ s'.env 1 = .int .i64 b ∧ s'.env 5 = .ptr r5 0 ∧ s'.env 6 = .ref r6 0 n n ∧ s'.ds = [] ∧ H' = Hb.set r6 (.cells (boolC n f))
structure asM (Hb : Hp) (cs : List CV) (b t r7 r8 r9 n : Nat) (f : Nat → Bool) (s' : CA) (H' : Hp) : Prop where
  ex : s'.env 0 = .iptr cs ∧ s'.env 1 = .int .i64 b ∧ s'.env 2 = .int .i64 t ∧ s'.env 7 = .ptr r7 0 ∧ s'.env 8 = .ptr r8 0 ∧ s'.env 9 = .ref r9 0 n n ∧ s'.ds = [] ∧ H' = Hb.set r9 (.cells (boolC n f))
end Go.Cl
set_option linter.unusedSimpArgs false
set_option linter.unusedVariables false
namespace Go.Cl
open Go.Proofs Dd
variable {W : World} {G : Nat → CV}
set_option maxRecDepth 8000
set_option maxHeartbeats 4000000
theorem CW.condE {X : Cx} {N : Nat} {ρ : Option Nat} {Q : CP} {s : CA} {H : Hp} (hX : CxOk X) {o : Operand} {x y : Code} {b : Bool} (h : evC X N s.env o = .bool b) (ht : b = true → CW X.P X.W N ρ x Q s H) (hf : b = false → CW X.P X.W N ρ y Q s H) : CW X.P X.W N ρ (.cond o x y) Q s H :=
  CW.cond (fun a hr => by
    have := ev_rep hX hr o
    rw [h] at this
    generalize a.eval o = v at this ⊢
    cases this
    rfl) ht hf
theorem Own.new {B H : Hp} {v : CV} {sz : Nat} {xs : List (List CV)} (h : Own B H v sz xs) {r o l c : Nat} (hv : v = .ref r o l c) : B r = none := by
  obtain ⟨_, _, ⟨h1, _⟩ | ⟨q, c', ex, h1, h2, h3, _⟩⟩ := h
  · rw [h1] at hv; cases hv
  · rw [h1] at hv; injection hv with e1; subst e1; exact h2
theorem le_set_of {H H' : Hp} {r : Nat} {o : Ob} (h : Le H H') (hr : H' r = some o) : Le (H.set r o) H' := fun i x hi => by
  simp only [Hp.set] at hi
  split at hi
  · rename_i e; injection hi with hi; rw [e, hr, hi]
  · exact h i x hi
def anyOf (l : List Int) : Nat → Bool := fun x => l.any fun y => x == y.toNat
theorem anyOf_take {l : List Int} {i : Nat} {y : Int} (h : l[i]? = some y) (x : Nat) : anyOf (l.take (i + 1)) x = (anyOf (l.take i) x || x == y.toNat) := by
  obtain ⟨hi, he⟩ := List.getElem?_eq_some_iff.1 h
  simp only [anyOf]
  rw [List.take_add_one, h, List.any_append]
  simp
structure bfM (H : Hp) (cs : List CV) (b t r7 r8 n : Nat) (bl : List CV) (f : Nat → Bool) (s' : CA) (H' : Hp) : Prop where
  ex : s'.env 0 = .iptr cs ∧ s'.env 1 = .int .i64 b ∧ s'.env 2 = .int .i64 t ∧ s'.env 7 = .ptr r7 0 ∧ s'.env 8 = .ref r8 0 n n ∧ s'.ds = [] ∧ Le H H' ∧ H r8 = none ∧ H' r8 = some (.cells (boolC n f)) ∧ H' r7 = some (.cells bl)
structure bfL (H : Hp) (cs : List CV) (b t r7 r8 n tl ti : Nat) (bl : List CV) (v : CV) (l : List Int) (f : Nat → Bool) (d : Nat) (j : Nat) (s' : CA) (H' : Hp) : Prop where
  ex : ∃ i i' : Nat, i ≤ l.length ∧ j = l.length - i ∧ bfM H cs b t r7 r8 n bl (fun x => f x || anyOf (l.take i) x) s' H' ∧ s'.env tl = v ∧ s'.env ti = .int .i64 i' ∧ i' + d = i ∧ SlF H' v l ∧ (∀ o m c, v ≠ .ref r8 o m c)
end Go.Cl
set_option linter.unusedSimpArgs false
set_option linter.unusedVariables false
namespace Go.Cl
open Go.Proofs Dd
variable {W : World} {G : Nat → CV}
set_option maxRecDepth 8000
set_option maxHeartbeats 4000000
/-- What one look at all operations has made so far. -/
structure PV (u : UUnit) (p c : Nat → Bool) (D : List UOp) (p' c' : Nat → Bool) (a : Bool) : Prop where
  low : PLow (opsOf u) p' c'
  gt : a = true → gapP u.regs.toNat u.spill.toNat p' c' < gapP u.regs.toNat u.spill.toNat p c
  same : a = false → p' = p ∧ c' = c ∧ ∀ o ∈ D, spreadN o p c = false
theorem PV.step {u : UUnit} (hu : wfU u = true) {p c : Nat → Bool} {D : List UOp} {p' c' : Nat → Bool} {a : Bool} (h : PV u p c D p' c' a) {o : UOp} (ho : o ∈ opsOf u) : PV u p c (D ++ [o]) (spreadR o p' c') (spreadC o p' c') (a || spreadN o p' c') := by
  have hge : gapP u.regs.toNat u.spill.toNat p' c' ≤ gapP u.regs.toNat u.spill.toNat p c := by
    cases a with
    | true => exact Nat.le_of_lt (h.gt rfl)
    | false => obtain ⟨rfl, rfl, _⟩ := h.same rfl; exact Nat.le_refl _
  refine ⟨h.low.spread ho, fun ha => ?_, fun ha => ?_⟩
  · cases hs : spreadN o p' c' with
    | true => have := spread_gap hu (wf_ops hu ho) hs; omega
    | false => rw [spreadR_same hs, spreadC_same hs]; rw [hs, Bool.or_false] at ha; exact h.gt ha
  · simp only [Bool.or_eq_false_iff] at ha
    obtain ⟨h1, h2, h3⟩ := h.same ha.1
    rw [spreadR_same ha.2, spreadC_same ha.2]
    refine ⟨h1, h2, fun o' ho' => ?_⟩
    rcases List.mem_append.1 ho' with h4 | h4
    · exact h3 o' h4
    · simp at h4; subst h4; rw [← h1, ← h2]; exact ha.2
/-- Where the sets lie. -/
structure psS (H : Hp) (u : UUnit) (r1 rr rc : Nat) (p c : Nat → Bool) (a : Bool) (s' : CA) (H' : Hp) : Prop where
  ex : s'.env 1 = .ptr r1 0 ∧ s'.env 3 = .ref rr 0 u.regs.toNat u.regs.toNat ∧ s'.env 4 = .ref rc 0 u.spill.toNat u.spill.toNat ∧ s'.env 5 = .bool a ∧ s'.ds = [] ∧ Le H H' ∧ H rr = none ∧ H rc = none ∧ rr ≠ rc ∧ H' rr = some (.cells (boolC u.regs.toNat p)) ∧ H' rc = some (.cells (boolC u.spill.toNat c)) ∧ H' r1 = some (.cells (unitC u)) ∧ r1 ≠ rr ∧ r1 ≠ rc
structure psL (H : Hp) (u : UUnit) (r1 rr rc : Nat) (j : Nat) (s' : CA) (H' : Hp) : Prop where
  ex : ∃ p c a, j = 2 * gapP u.regs.toNat u.spill.toNat p c + (if a = true then 1 else 0) ∧ psS H u r1 rr rc p c a s' H' ∧ PLow (opsOf u) p c ∧ (a = false → PCl (opsOf u) p c)
structure psI (H : Hp) (u : UUnit) (r1 rr rc : Nat) (p c : Nat → Bool) (d : Nat) (j : Nat) (s' : CA) (H' : Hp) : Prop where
  ex : ∃ (i i6 : Nat) (p' c' : Nat → Bool) (a : Bool), i ≤ u.blocks.length ∧ j = u.blocks.length - i ∧ psS H u r1 rr rc p' c' a s' H' ∧ s'.env 6 = .int .i64 i6 ∧ i6 + d = i ∧ PV u p c ((u.blocks.take i).flatMap (·.ops)) p' c' a
structure psK (H : Hp) (u : UUnit) (k : UBlk) (r1 rr rc i : Nat) (p c : Nat → Bool) (d : Nat) (j : Nat) (s' : CA) (H' : Hp) : Prop where
  ex : ∃ (t t7 : Nat) (p' c' : Nat → Bool) (a : Bool), t ≤ k.ops.length ∧ j = k.ops.length - t ∧ psS H u r1 rr rc p' c' a s' H' ∧ s'.env 6 = .int .i64 i ∧ s'.env 7 = .int .i64 t7 ∧ t7 + d = t ∧ PV u p c ((u.blocks.take i).flatMap (·.ops) ++ k.ops.take t) p' c' a
structure psO (H : Hp) (u : UUnit) (r1 rr rc : Nat) (p c : Nat → Bool) (s' : CA) (H' : Hp) : Prop where
  ex : ∃ p' c' a, psS H u r1 rr rc p' c' a s' H' ∧ PV u p c (opsOf u) p' c' a
structure psF (H : Hp) (u : UUnit) (r1 rr rc : Nat) (s' : CA) (H' : Hp) : Prop where
  ex : ∃ p c, psS H u r1 rr rc p c false s' H' ∧ PLow (opsOf u) p c ∧ PCl (opsOf u) p c
structure psX (u : UUnit) (r1 rr rc r8 i t : Nat) (a b : Bool) (H6 : Hp) (s' : CA) (H' : Hp) : Prop where
  ex : s'.env 1 = .ptr r1 0 ∧ s'.env 3 = .ref rr 0 u.regs.toNat u.regs.toNat ∧ s'.env 4 = .ref rc 0 u.spill.toNat u.spill.toNat ∧ s'.env 5 = .bool a ∧ s'.env 6 = .int .i64 i ∧ s'.env 7 = .int .i64 t ∧ s'.env 8 = .ptr r8 0 ∧ s'.env 9 = .bool b ∧ s'.ds = [] ∧ H' = H6
structure psY (u : UUnit) (r1 rr rc r8 i t : Nat) (a : Bool) (p : Nat → Bool) (v : CV) (l : List Int) (H6 : Hp) (d : Nat) (j : Nat) (s' : CA) (H' : Hp) : Prop where
  ex : ∃ m m' : Nat, m ≤ l.length ∧ j = l.length - m ∧ psX u r1 rr rc r8 i t a ((l.take m).any fun r => p r.toNat) H6 s' H' ∧ s'.env 10 = v ∧ s'.env 11 = .int .i64 m' ∧ m' + d = m
end Go.Cl
set_option linter.unusedSimpArgs false
set_option linter.unusedVariables false
namespace Go.Cl
open Go.Proofs Dd
variable {W : World} {G : Nat → CV}
set_option maxRecDepth 8000
set_option maxHeartbeats 4000000
def BndN (u : UUnit) (I : Nat → Nat → Bool) : Prop := ∀ b x, I b x = true → x < u.regs.toNat
theorem FP_bndN {u : UUnit} (hu : wfU u = true) {p : Nat → Bool} {I : Nat → Nat → Bool} (hI : BndN u I) {b : Nat} (hb : b < u.blocks.length) {x : Nat} (h : FP u p I b x = true) : x < u.regs.toNat := by
  obtain ⟨f1, f2, f3, f4, f5, f6, f7, f8, f9, f10, f11⟩ := wfU_facts hu
  have hk : u.blocks[b]? = some (blkAt u b) := by simp [blkAt, List.getD_eq_getElem?_getD, List.getElem?_eq_getElem hb]
  obtain ⟨g1, g2, g3, g4⟩ := wfB_facts hu hk
  obtain ⟨w1, w2, w3, w4, w5⟩ := wfE_facts g4
  simp only [FP] at h
  generalize blkAt u b = k at *
  have hc : ∀ y, catchP u I k y = true → y < u.regs.toNat := fun y hy => by
    simp only [catchP, Bool.and_eq_true] at hy
    exact hI _ _ hy.2.2
  have he : ∀ y, endP u p I k y = true → y < u.regs.toNat := fun y hy => by
    simp only [endP, Bool.or_eq_true, Bool.and_eq_true, decide_eq_true_eq, beq_iff_eq] at hy
    rcases hy with ((hy | hy) | hy) | hy
    · exact hI _ _ hy.2
    · exact hI _ _ hy.2
    · exact hc _ hy.2
    · have := w3 hy.1; omega
  have hs : ∀ l, (∀ o ∈ l, wfOp u o = true) → ∀ y, beforeP u p I k l y = true → y < u.regs.toNat := by
    intro l
    induction l with
    | nil => exact fun _ => he
    | cons o l ih =>
      intro hl y hy
      obtain ⟨o1, o2, o3, o4, o5, o6, o7, o8, o9⟩ := wfO_facts (hl o (List.mem_cons_self ..)) f3
      have hy : stepP u p I k o (beforeP u p I k l) y = true := hy
      simp only [stepP, Bool.or_eq_true, Bool.and_eq_true, List.any_eq_true, beq_iff_eq] at hy
      rcases hy with ((hy | hy) | hy) | ⟨z, hz, rfl⟩
      · exact ih (fun o ho => hl o (List.mem_cons_of_mem _ ho)) y hy.1
      · exact hI _ _ hy.2
      · exact hc _ hy.2
      · have := o3 z hz; omega
  exact hs _ g3 x h
/-- What one look at all blocks, from the last on, has made so far. -/
structure LV (u : UUnit) (p : Nat → Bool) (I : Nat → Nat → Bool) (i : Nat) (I' : Nat → Nat → Bool) (a : Bool) : Prop where
  low : LLow u p I'
  up : LUp u p I'
  bnd : BndN u I'
  gt : a = true → gapL u I' < gapL u I
  same : a = false → I' = I ∧ ∀ b, i ≤ b → b < u.blocks.length → FP u p I b = I b
theorem LV.step {u : UUnit} (hu : wfU u = true) {p : Nat → Bool} {I I' : Nat → Nat → Bool} {i : Nat} {a : Bool} (h : LV u p I (i + 1) I' a) (hi : i < u.blocks.length) {diff : Bool} (hd : diff = true ↔ ∃ x, x < u.regs.toNat ∧ FP u p I' i x ≠ I' i x) : LV u p I i (setAt I' i (FP u p I' i)) (a || diff) := by
  have hm : mOf u = (u.regs.toNat + 63) / 64 := rfl
  have hge : gapL u I' ≤ gapL u I := by
    cases a with
    | true => exact Nat.le_of_lt (h.gt rfl)
    | false => obtain ⟨rfl, _⟩ := h.same rfl; exact Nat.le_refl _
  have hsub := setAt_up h.up i
  have hle := gapL_le (u := u) hsub
  refine ⟨h.low.step hi, h.up.step i, fun b x hx => ?_, fun ha => ?_, fun ha => ?_⟩
  · simp only [setAt] at hx
    split at hx
    · rename_i e; subst e; exact FP_bndN hu h.bnd hi hx
    · exact h.bnd b x hx
  · simp only [Bool.or_eq_true] at ha
    rcases ha with ha | ha
    · have := h.gt ha; omega
    · obtain ⟨x, hx, hne⟩ := hd.1 ha
      have h1 : I' i x = false := by
        cases hc : I' i x
        · rfl
        · rw [h.up i x hc, hc] at hne; exact absurd rfl hne
      have h2 : FP u p I' i x = true := by
        cases hc : FP u p I' i x
        · rw [hc, h1] at hne; exact absurd rfl hne
        · rfl
      have := gapL_lt (u := u) hsub hi (x := x) (by omega) h1 (by simp [setAt, h2])
      omega
  · simp only [Bool.or_eq_false_iff] at ha
    obtain ⟨h1, h2⟩ := h.same ha.1
    have hfix : FP u p I' i = I' i := by
      funext x
      rcases Nat.lt_or_ge x u.regs.toNat with hx | hx
      · refine Classical.byContradiction fun hne => ?_
        have := hd.2 ⟨x, hx, hne⟩
        rw [ha.2] at this
        cases this
      · have e1 : FP u p I' i x = false := by
          cases hc : FP u p I' i x
          · rfl
          · have := FP_bndN hu h.bnd hi hc; omega
        have e2 : I' i x = false := by
          cases hc : I' i x
          · rfl
          · have := h.bnd i x hc; omega
        rw [e1, e2]
    have hset : setAt I' i (FP u p I' i) = I' := by
      funext b
      simp only [setAt]
      split
      · rename_i e; subst e; exact hfix
      · rfl
    rw [hset]
    refine ⟨h1, fun b hb hbl => ?_⟩
    by_cases hbi : b = i
    · subst hbi; rw [← h1]; exact hfix
    · exact h2 b (by omega) hbl
/-- A Live of the reference, as it lies. -/
structure LR (H : Hp) (lp rp ri ci : Nat) (σ : Nat → Nat) (ex : List CV) (u : UUnit) (p : Nat → Bool) (I : Nat → Nat → Bool) : Prop where
  l : H lp = some (.cells (unitC u ++ [.ref rp 0 u.regs.toNat u.regs.toNat, .ref ri 0 u.blocks.length ci]))
  r : H rp = some (.cells (boolC u.regs.toNat p))
  i : H ri = some (.cells (refsC u.blocks.length u.regs.toNat σ ++ ex))
  n : u.blocks.length ≤ ci
  s : ∀ b, b < u.blocks.length → H (σ b) = some (.cells (boolC u.regs.toNat (I b)))
section
variable {H H' : Hp} {lp rp ri ci : Nat} {σ : Nat → Nat} {ex : List CV} {u : UUnit} {p : Nat → Bool} {I : Nat → Nat → Bool}
theorem LR.mono (h : LR H lp rp ri ci σ ex u p I) (hl : Le H H') : LR H' lp rp ri ci σ ex u p I :=
  ⟨hl _ _ h.l, hl _ _ h.r, hl _ _ h.i, h.n, fun b hb => hl _ _ (h.s b hb)⟩
theorem LR.fzIn (h : LR H lp rp ri ci σ ex u p I) : Fz H (.ref ri 0 u.blocks.length ci) (.sl 1 (insS u.blocks.length u.regs.toNat I)) := by
  refine .ref ri 0 _ ci 1 _ _ h.i insS_len h.n (fun i e he => ?_) (fun i _ => .ref (σ i) 0 u.regs.toNat u.regs.toNat) (fun i j hi hj => ?_) (fun i j e x he hx => ?_)
  · simp only [insS, List.getElem?_map] at he
    cases hr : (List.range u.blocks.length)[i]? with
    | none => rw [hr] at he; simp at he
    | some b => rw [hr] at he; simp at he; rw [← he]; rfl
  · have : j = 0 := by omega
    subst this
    rw [show 0 + (i * 1 + 0) = i by omega, List.getElem?_append_left (by rw [refsC_len]; exact hi), refsC_get hi]
  · have hi : i < u.blocks.length := by have := (List.getElem?_eq_some_iff.1 he).1; simpa [insS] using this
    rw [insS_get hi] at he
    injection he with he
    rw [← he] at hx
    cases j with
    | zero => simp at hx; subst hx; exact fz_bool (h.s i hi) (Nat.le_refl _)
    | succ j => simp at hx
theorem LR.fz (h : LR H lp rp ri ci σ ex u p I) : Fz H (.ptr lp 0) (.iptr (refC u p I)) := by
  refine .ptr lp 0 _ _ h.l (fun j => (unitC u ++ [CV.ref rp 0 u.regs.toNat u.regs.toNat, CV.ref ri 0 u.blocks.length ci]).getD j .any) (fun j hj => ?_) (fun j x hx => ?_)
  · have hj : j < 8 := by simpa [refC, unitC] using hj
    rw [Nat.zero_add, List.getD_eq_getElem?_getD, List.getElem?_eq_getElem (by simp [unitC]; omega)]
    rfl
  · simp only [refC, unitC] at hx ⊢
    rcases j with _|_|_|_|_|_|_|_|j
    all_goals simp at hx ⊢
    all_goals subst hx
    all_goals first
      | exact .same _
      | exact fz_bool h.r (Nat.le_refl _)
      | exact h.fzIn
end
theorem Own.putB {B H : Hp} {v : CV} {sz : Nat} {xs : List (List CV)} (h : Own B H v sz xs) {q : Nat} {o : Ob} (hq : B q ≠ none) : Own (B.set q o) (H.set q o) v sz xs := by
  obtain ⟨h1, h2, h3⟩ := h
  refine ⟨h1.set, h2, ?_⟩
  rcases h3 with h3 | ⟨r, c, ex, rfl, h4, h5, h6⟩
  · exact .inl h3
  · have hne : r ≠ q := fun e => hq (by rw [← e]; exact h4)
    exact .inr ⟨r, c, ex, rfl, by rw [hset_ne hne]; exact h4, by rw [hset_ne hne]; exact h5, h6⟩
/-- What Of holds while it makes the empty sets. -/
structure O1 (H B : Hp) (u : UUnit) (p : Nat → Bool) (q1 lp rp : Nat) (i : Nat) (v : CV) (σ : Nat → Nat) : Prop where
  base : Le H B
  h1 : B q1 = some (.cells (unitC u))
  l : B lp = some (.cells (unitC u ++ [.ref rp 0 u.regs.toNat u.regs.toNat, v]))
  r : B rp = some (.cells (boolC u.regs.toNat p))
  s : ∀ b, b < i → B (σ b) = some (.cells (boolC u.regs.toNat fun _ => false))
  n1 : lp ≠ q1
  nr : lp ≠ rp
  ns : ∀ b, b < i → lp ≠ σ b
  hl : H lp = none
structure O1I (H : Hp) (u : UUnit) (p : Nat → Bool) (q1 lp rp : Nat) (d : Nat) (j : Nat) (s' : CA) (H' : Hp) : Prop where
  ex : ∃ i i17 v σ B, i ≤ u.blocks.length ∧ j = u.blocks.length - i ∧ s'.env 1 = .ptr q1 0 ∧ s'.env 3 = .ptr lp 0 ∧ s'.env 16 = .int .i64 u.blocks.length ∧ s'.env 17 = .int .i64 (i17 : Nat) ∧ i17 + d = i ∧ s'.ds = [] ∧ O1 H B u p q1 lp rp i v σ ∧ Own B H' v 1 ((refsC i u.regs.toNat σ).map fun x => [x])
structure O1E (H : Hp) (u : UUnit) (p : Nat → Bool) (q1 lp rp : Nat) (s' : CA) (H' : Hp) : Prop where
  ex : ∃ v σ B, s'.env 1 = .ptr q1 0 ∧ s'.env 3 = .ptr lp 0 ∧ s'.ds = [] ∧ O1 H B u p q1 lp rp u.blocks.length v σ ∧ Own B H' v 1 ((refsC u.blocks.length u.regs.toNat σ).map fun x => [x])
/-- What Of holds while it looks again and again. -/
structure O2 (H B : Hp) (u : UUnit) (p : Nat → Bool) (q1 lp rp ri ci : Nat) (σ : Nat → Nat) (ex : List CV) (I : Nat → Nat → Bool) : Prop where
  base : Le H B
  h1 : B q1 = some (.cells (unitC u))
  L : LR B lp rp ri ci σ ex u p I
  i1 : ri ≠ q1
  il : ri ≠ lp
  ir : ri ≠ rp
  is : ∀ b, b < u.blocks.length → ri ≠ σ b
  hi : H ri = none
section
variable {H B : Hp} {u : UUnit} {p : Nat → Bool} {q1 lp rp ri ci : Nat} {σ : Nat → Nat} {ex : List CV} {I : Nat → Nat → Bool}
theorem O2.more (h : O2 H B u p q1 lp rp ri ci σ ex I) {q : Nat} {o : Ob} (hq : B q = none) : O2 H (B.set q o) u p q1 lp rp ri ci σ ex I := by
  have hl : Le B (B.set q o) := Le.set_new hq
  exact ⟨h.base.trans hl, hl _ _ h.h1, h.L.mono hl, h.i1, h.il, h.ir, h.is, h.hi⟩
theorem O2.step (h : O2 H B u p q1 lp rp ri ci σ ex I) {r i : Nat} {f : Nat → Bool} (hr : B r = none) (hi : i < u.blocks.length) :
    O2 H ((B.set r (.cells (boolC u.regs.toNat f))).set ri (.cells (refsC u.blocks.length u.regs.toNat (fun b => if b = i then r else σ b) ++ ex))) u p q1 lp rp ri ci (fun b => if b = i then r else σ b) ex (setAt I i f) := by
  have k : ∀ q o, B q = some o → q ≠ r := fun q o hq e => by rw [e, hr] at hq; cases hq
  have k1 := k _ _ h.h1
  have kl := k _ _ h.L.l
  have kr := k _ _ h.L.r
  have ki := k _ _ h.L.i
  refine ⟨(h.base.trans (Le.set_new hr)).put h.hi, by simp [Ne.symm h.i1, k1, h.h1], ⟨by simp [Ne.symm h.il, kl, h.L.l], by simp [Ne.symm h.ir, kr, h.L.r], by simp, h.L.n, fun b hb => ?_⟩, h.i1, h.il, h.ir, fun b hb => ?_, h.hi⟩
  · by_cases hbi : b = i
    · subst hbi; simp [Ne.symm ki, setAt]
    · have := k _ _ (h.L.s b hb)
      simp [hbi, Ne.symm (h.is b hb), this, h.L.s b hb, setAt]
  · by_cases hbi : b = i
    · subst hbi; simpa using ki
    · simpa [hbi] using h.is b hb
end
structure O2I (H : Hp) (u : UUnit) (p : Nat → Bool) (q1 lp rp ri ci : Nat) (ex : List CV) (j : Nat) (s' : CA) (H' : Hp) : Prop where
  ex : ∃ I σ a, j = 2 * gapL u I + (if a = true then 1 else 0) ∧ s'.env 1 = .ptr q1 0 ∧ s'.env 3 = .ptr lp 0 ∧ s'.env 5 = .bool a ∧ s'.ds = [] ∧ O2 H H' u p q1 lp rp ri ci σ ex I ∧ LLow u p I ∧ LUp u p I ∧ BndN u I ∧ (a = false → ∀ b, b < u.blocks.length → FP u p I b = I b)
structure O2J (H : Hp) (u : UUnit) (p : Nat → Bool) (q1 lp rp ri ci : Nat) (ex : List CV) (I : Nat → Nat → Bool) (d : Nat) (j : Nat) (s' : CA) (H' : Hp) : Prop where
  ex : ∃ i I' σ a, i ≤ u.blocks.length ∧ j = i ∧ s'.env 1 = .ptr q1 0 ∧ s'.env 3 = .ptr lp 0 ∧ s'.env 5 = .bool a ∧ s'.env 6 = .int .i64 ((i : Int) - 1 + d) ∧ s'.ds = [] ∧ O2 H H' u p q1 lp rp ri ci σ ex I' ∧ LV u p I i I' a
structure O2M (H : Hp) (u : UUnit) (p : Nat → Bool) (q1 lp rp ri ci : Nat) (ex : List CV) (I : Nat → Nat → Bool) (s' : CA) (H' : Hp) : Prop where
  ex : ∃ I' σ a, s'.env 1 = .ptr q1 0 ∧ s'.env 3 = .ptr lp 0 ∧ s'.env 5 = .bool a ∧ s'.ds = [] ∧ O2 H H' u p q1 lp rp ri ci σ ex I' ∧ LV u p I 0 I' a
def difN (f g : Nat → Bool) (t : Nat) : Bool := (List.range t).any fun x => f x != g x
theorem difN_iff {f g : Nat → Bool} {t : Nat} : difN f g t = true ↔ ∃ x, x < t ∧ f x ≠ g x := by
  simp [difN]
theorem difN_succ {f g : Nat → Bool} {t : Nat} : difN f g (t + 1) = (difN f g t || (f t != g t)) := by
  simp [difN, List.range_succ]
structure O2X (q1 lp r7 n b : Nat) (x5 : Bool) (H6 : Hp) (s' : CA) (H' : Hp) : Prop where
  ex : s'.env 1 = .ptr q1 0 ∧ s'.env 3 = .ptr lp 0 ∧ s'.env 5 = .bool x5 ∧ s'.env 6 = .int .i64 b ∧ s'.env 7 = .ref r7 0 n n ∧ s'.ds = [] ∧ H' = H6
structure O2Y (q1 lp r7 n b : Nat) (a : Bool) (f g : Nat → Bool) (H6 : Hp) (d : Nat) (j : Nat) (s' : CA) (H' : Hp) : Prop where
  ex : ∃ t t' : Nat, t ≤ n ∧ j = n - t ∧ O2X q1 lp r7 n b (a || difN f g t) H6 s' H' ∧ s'.env 8 = .int .i64 t' ∧ t' + d = t
structure O2Z (H : Hp) (u : UUnit) (p : Nat → Bool) (lp rp ri ci : Nat) (ex : List CV) (s' : CA) (H' : Hp) : Prop where
  ex : ∃ I σ, s'.env 3 = .ptr lp 0 ∧ s'.ds = [] ∧ Le H H' ∧ LLeast u p I ∧ BndN u I ∧ LR H' lp rp ri ci σ ex u p I
/-- What Of gives. -/
structure OfR (H : Hp) (u : UUnit) (x : CE) (H' : Hp) : Prop where
  ex : ∃ lp rp ri ci σ ex p c I, x = .ret (.ptr lp 0) ∧ Le H H' ∧ PLeast (opsOf u) p c ∧ LLeast u p I ∧ BndN u I ∧ LR H' lp rp ri ci σ ex u p I
end Go.Cl
set_option linter.unusedSimpArgs false
set_option linter.unusedVariables false
namespace Go.Cl
open Go.Proofs Dd
variable {W : World} {G : Nat → CV}
set_option maxRecDepth 8000
set_option maxHeartbeats 4000000
def throwsB (p : Nat → Bool) (k : UBlk) : Bool := mayEnd p k.en || k.ops.any (mayTrap p)
def thrL (p : Nat → Bool) (l : List UBlk) : List (List CV) := l.map fun k => [.bool (throwsB p k)]
structure thI (H H1 : Hp) (u : UUnit) (p : Nat → Bool) (q1 rr : Nat) (d : Nat) (j : Nat) (s' : CA) (H' : Hp) : Prop where
  ex : ∃ (i i5 : Nat) (v : CV), i ≤ u.blocks.length ∧ j = u.blocks.length - i ∧ s'.env 1 = .ptr q1 0 ∧ s'.env 3 = .ref rr 0 u.regs.toNat u.regs.toNat ∧ s'.env 4 = v ∧ s'.env 5 = .int .i64 i5 ∧ i5 + d = i ∧ s'.ds = [] ∧ Own H1 H' v 1 (thrL p (u.blocks.take i))
structure thE (H H1 : Hp) (u : UUnit) (p : Nat → Bool) (s' : CA) (H' : Hp) : Prop where
  ex : ∃ (v : CV), s'.env 4 = v ∧ s'.ds = [] ∧ Own H1 H' v 1 (thrL p u.blocks)
structure thX (q1 rr n r6 i : Nat) (v : CV) (b : Bool) (H6 : Hp) (s' : CA) (H' : Hp) : Prop where
  ex : s'.env 1 = .ptr q1 0 ∧ s'.env 3 = .ref rr 0 n n ∧ s'.env 4 = v ∧ s'.env 5 = .int .i64 i ∧ s'.env 6 = .ptr r6 0 ∧ s'.env 7 = .bool b ∧ s'.ds = [] ∧ H' = H6
structure thY (q1 rr n r6 i : Nat) (v : CV) (p : Nat → Bool) (k : UBlk) (H6 : Hp) (d : Nat) (j : Nat) (s' : CA) (H' : Hp) : Prop where
  ex : ∃ t t8 : Nat, t ≤ k.ops.length ∧ j = k.ops.length - t ∧ thX q1 rr n r6 i v (mayEnd p k.en || (k.ops.take t).any (mayTrap p)) H6 s' H' ∧ s'.env 8 = .int .i64 t8 ∧ t8 + d = t
structure ThR (H : Hp) (u : UUnit) (x : CE) (H' : Hp) : Prop where
  ex : ∃ v p c H1, x = .ret v ∧ Le H H1 ∧ PLeast (opsOf u) p c ∧ Own H1 H' v 1 (thrL p u.blocks)
end Go.Cl
