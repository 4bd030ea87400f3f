/- DERIVED HERE. The reference's small functions on kinds; Math; Do. DERIVED HERE. The reference's Operands. -/
import Derived.Test.YtfkdjajpopocpaaDoorTM
import Derived.Test.YtfkdjajpopocpaaDoorDead
set_option linter.unusedSimpArgs false
set_option linter.unusedVariables false
namespace Go.Cl
open Go.Proofs Dd
variable {W : World} {G : Nat → CV}
set_option maxRecDepth 8000
theorem hasDo_c (hX : CxOk (cx W G)) (k : Int) (H : Hp) : CC Tryd.prog W 45 [ci k] H fun x H' => x = .ret (.bool (isDo k)) ∧ H' = H := by
  refine CC.at0 ?_ H
  refine CC.of_ev hX mixed d45 Tryd.func45 rfl rfl (Nat.le_of_ble_eq_true rfl) d45_ok ?_
  simp [Tryd.f45, d45]
  simp only [isDo]
  repeat' (first | intro _ | apply And.intro)
  all_goals (rw [Bool.eq_iff_iff]; simp; omega)
theorem isArr_c (hX : CxOk (cx W G)) (k : Int) (H : Hp) : CC Tryd.prog W 47 [ci k] H fun x H' => x = .ret (.bool (isArr k)) ∧ H' = H := by
  refine CC.at0 ?_ H
  refine CC.of_ev hX mixed d47 Tryd.func47 rfl rfl (Nat.le_of_ble_eq_true rfl) d47_ok ?_
  simp [Tryd.f47, d47]
  simp only [isArr]
  repeat' (first | intro _ | apply And.intro)
  all_goals (rw [Bool.eq_iff_iff]; simp; omega)
theorem endA_c (hX : CxOk (cx W G)) (k : Int) (H : Hp) : CC Tryd.prog W 48 [ci k] H fun x H' => x = .ret (.bool (decide (k ≠ 1))) ∧ H' = H := by
  refine CC.at0 ?_ H
  refine CC.of_ev hX mixed d48 Tryd.func48 rfl rfl (Nat.le_of_ble_eq_true rfl) d48_ok ?_
  simp [Tryd.f48, d48, decide_bne]
def hA (k : Int) : Bool := decide (k ≠ 1) && decide (k ≠ 18)
theorem hasA_c (hX : CxOk (cx W G)) (k : Int) (H : Hp) : CC Tryd.prog W 72 [ci k] H fun x H' => x = .ret (.bool (hA k)) ∧ H' = H := by
  refine CC.at0 ?_ H
  refine CC.of_ev hX mixed d72 Tryd.func72 rfl rfl (Nat.le_of_ble_eq_true rfl) d72_ok ?_
  simp [Tryd.f72, d72]
  simp only [hA]
  repeat' (first | intro _ | apply And.intro)
  all_goals (rw [Bool.eq_iff_iff]; simp; try omega)


def hB (k : Int) : Bool := (decide (3 ≤ k) && decide (k ≤ 15)) || decide (k = 17) || decide (k = 23) || decide (k = 24)
theorem hasB_c (hX : CxOk (cx W G)) (k : Int) (H : Hp) : CC Tryd.prog W 73 [ci k] H fun x H' => x = .ret (.bool (hB k)) ∧ H' = H := by
  refine CC.at0 ?_ H
  refine CC.of_ev hX mixed d73 Tryd.func73 rfl rfl (Nat.le_of_ble_eq_true rfl) d73_ok ?_
  simp [Tryd.f73, d73]
  simp only [hB]
  repeat' (first | intro _ | apply And.intro)
  all_goals (rw [Bool.eq_iff_iff]; simp; try omega)
def hC (k : Int) : Bool := decide (k = 12)
theorem hasC_c (hX : CxOk (cx W G)) (k : Int) (H : Hp) : CC Tryd.prog W 74 [ci k] H fun x H' => x = .ret (.bool (hC k)) ∧ H' = H := by
  refine CC.at0 ?_ H
  refine CC.of_ev hX mixed d74 Tryd.func74 rfl rfl (Nat.le_of_ble_eq_true rfl) d74_ok ?_
  simp [Tryd.f74, d74, decide_beq, hC]
theorem has_bits {k : Int} (h : isKind k = true) : hA k = uBit k 1 ∧ hB k = uBit k 2 ∧ hC k = uBit k 3 := by
  simp only [isKind, Bool.and_eq_true, decide_eq_true_eq] at h
  have kinds : k = 1 ∨ k = 2 ∨ k = 3 ∨ k = 4 ∨ k = 5 ∨ k = 6 ∨ k = 7 ∨ k = 8 ∨ k = 9 ∨ k = 10 ∨ k = 11 ∨ k = 12 ∨ k = 13 ∨ k = 14 ∨ k = 15 ∨ k = 16 ∨ k = 17 ∨ k = 18 ∨ k = 19 ∨ k = 20 ∨ k = 21 ∨ k = 22 ∨ k = 23 ∨ k = 24 ∨ k = 25 := by omega
  rcases kinds with k | k | k | k | k | k | k | k | k | k | k | k | k | k | k | k | k | k | k | k | k | k | k | k | k <;> subst k <;> exact ⟨rfl, rfl, rfl⟩
theorem one_c (hX : CxOk (cx W G)) (b : Bool) (H : Hp) : CC Tryd.prog W 102 [.bool b] H fun x H' => x = .ret (ci (if b then 1 else 0)) ∧ H' = H := by
  refine CC.of_ev hX mixed d102 Tryd.func102 rfl rfl (Nat.le_of_ble_eq_true rfl) d102_ok ?_
  cases b <;> simp [Tryd.f102, d102]
def sh63 (b : Int) : Int := IntKind.u64.wrap (zAnd .i64 b 63)
def mathM : MathF := fun k a b =>
  if k = 3 then (IntKind.i64.wrap (a + b), 0) else if k = 4 then (IntKind.i64.wrap (a - b), 0) else if k = 5 then (zAnd .i64 a b, 0) else if k = 6 then (zOr .i64 a b, 0) else if k = 7 then (zXor .i64 a b, 0)
  else if k = 8 then (zShl .i64 a (sh63 b), 0) else if k = 9 then (zShr .i64 a (sh63 b), 0) else if k = 10 then (if a < b then 1 else 0, 0) else if k = 11 then (if a = b then 1 else 0, 0) else if k = 13 then (IntKind.i64.wrap (a * b), 0)
  else if k = 14 then (if b = 0 then (0, -2) else (IntKind.i64.wrap (a.tdiv b), 0)) else if k = 15 then (if b = 0 then (0, -2) else (a.tmod b, 0)) else (0, 0)
theorem mathM_trap (k a b : Int) (h : (mathM k a b).2 ≠ 0) : k = 14 ∨ k = 15 := by
  by_cases h14 : k = 14
  · exact .inl h14
  by_cases h15 : k = 15
  · exact .inr h15
  refine absurd ?_ h
  simp only [mathM, if_neg h14, if_neg h15]
  repeat' split
  all_goals rfl
theorem u64_nonneg (x : Int) : 0 ≤ IntKind.u64.wrap x := by
  have h : IntKind.u64.wrap x = x % 18446744073709551616 := by simp [IntKind.wrap, IntKind.signed, IntKind.bits]
  rw [h]
  omega
theorem math_c (hX : CxOk (cx W G)) (k a b : Int) (H : Hp) : CC Tryd.prog W 75 [ci k, ci a, ci b] H fun x H' => (∃ bo, x = .ret (.tuple [ci (mathM k a b).1, ci (mathM k a b).2, .bool bo])) ∧ H' = H := by
  refine CC.of_ev hX mixed d75 Tryd.func75 rfl rfl (Nat.le_of_ble_eq_true rfl) d75_ok ?_
  have h63 : 0 ≤ IntKind.u64.wrap (zAnd .i64 b 63) := u64_nonneg _
  simp [Tryd.f75, d75, decide_beq, h63]
  refine ⟨fun h => by simp [mathM, h], fun h3 => ⟨fun h => by simp [mathM, h], fun h4 => ⟨fun h => by simp [mathM, h], fun h5 => ⟨fun h => by simp [mathM, h], fun h6 => ⟨fun h => by simp [mathM, h], fun h7 => ⟨fun h => by simp [mathM, h, sh63], fun h8 => ⟨fun h => by simp [mathM, h, sh63], fun h9 => ⟨fun h => ?_, fun h10 => ⟨fun h => ?_, fun h11 => ⟨fun h => by simp [mathM, h], fun h13 => ⟨fun h => ?_, fun h14 => ⟨fun h => ?_, fun h15 => by simp [mathM, h3, h4, h5, h6, h7, h8, h9, h10, h11, h13, h14, h15]⟩⟩⟩⟩⟩⟩⟩⟩⟩⟩⟩⟩
  · refine (one_c hX _ H).k ?_
    rintro x H' ⟨rfl, rfl⟩
    simp [mathM, h]
  · refine (one_c hX _ H).k ?_
    rintro x H' ⟨rfl, rfl⟩
    simp [mathM, h]
  · by_cases hb : b = 0 <;> simp [mathM, h, hb]
  · by_cases hb : b = 0 <;> simp [mathM, h, hb]
/-! ### Do -/
def valC (v : Val) : List CV := [ci v.num, ci v.bad]
structure doM (r0 r1 r2 r4 : Nat) (H1 : Hp) (B : Int) (x11 x12 x13 : Option CV) (s' : CA) (H' : Hp) : Prop where
  e4 : s'.env 4 = .ptr r0 0
  e5 : s'.env 5 = .ptr r1 0
  e6 : s'.env 6 = .ptr r2 0
  e8 : s'.env 8 = .ptr r4 0
  e10 : s'.env 10 = ci B
  e11 : ∀ v, x11 = some v → s'.env 11 = v
  e12 : ∀ v, x12 = some v → s'.env 12 = v
  e13 : ∀ v, x13 = some v → s'.env 13 = v
  ds : s'.ds = []
  H : H' = H1
theorem do_c (hX : CxOk (cx W G)) (o : UOp) (a b d : Val) (H : Hp) : CC Tryd.prog W 46 [.agg (opC o), .agg (valC a), .agg (valC b), .agg (valC d)] H fun x H' => x = .ret (.tuple [.agg (valC (doV mathM o a b d).1), ci (doV mathM o a b d).2]) ∧ H' = H := by
  refine CC.shrink ?_
  refine CC.of_cw hX Tryd.func46 rfl rfl (Nat.le_of_ble_eq_true rfl) ?_
  refine CW.walk hX mixed d46 rfl ?_
  simp (config := {contextual := true}) [opC, valC]
  intro r0 n0 r1 a10 a01 n1 r2 a21 a12 a20 a02 n2 r3 a32 a23 a31 a13 a30 a03 n3 r4 a43 a34 a42 a24 a41 a14 a40 a04 n4
  generalize hH1 : ((((H.set r0 _).set r1 _).set r2 _).set r3 _).set r4 _ = H1
  have m0 : H1 r0 = some (.cells (opC o)) := by rw [← hH1]; simp [a01, a02, a03, a04, opC]
  have m1 : H1 r1 = some (.cells (valC a)) := by rw [← hH1]; simp [a12, a13, a14, valC]
  have m2 : H1 r2 = some (.cells (valC b)) := by rw [← hH1]; simp [a23, a24, valC]
  have m3 : H1 r3 = some (.cells (valC d)) := by rw [← hH1]; simp [a34, valC]
  have m4 : H1 r4 = some (.cells [ci 0, ci 0]) := by rw [← hH1]; simp
  have hle : Le H H1 := by rw [← hH1]; exact (((((Le.refl H).put n0).put n1).put n2).put n3).put n4
  clear hH1 n0 n1 n2 n3 a10 a01 a21 a12 a20 a02 a32 a23 a31 a13 a30 a03
  simp only [opC] at m0
  simp only [valC] at m1 m2 m3
  have put : ∀ x, Le H (H1.set r4 x) := fun x => hle.put n4
  by_cases h1 : o.kind = 1
  · refine CW.walk1 hX mixed d46 rfl ?_
    simp [m0, m1, m2, m3, m4, a40, a41, a42, a43, a04, a14, a24, a34, h1, doV, cfill, put]
  by_cases h2 : o.kind = 2
  · refine CW.walk1 hX mixed d46 rfl ?_
    simp [m0, m1, m2, m3, m4, a40, a41, a42, a43, a04, a14, a24, a34, h1, h2, doV, cfill, put]
  by_cases h12 : o.kind = 12
  · refine CW.walk1 hX mixed d46 rfl ?_
    simp [m0, m1, m2, m3, m4, a40, a41, a42, a43, a04, a14, a24, a34, h1, h2, h12, doV, cfill, put]
    by_cases hb : a.bad = 0 <;> by_cases hn : a.num = 0 <;> simp [hb, hn]
  have hdo : doV mathM o a b d = arithV mathM o.kind a b := by simp [doV, h1, h2, h12]
  rw [hdo]
  generalize hkk : o.kind = k at *
  refine CW.walk hX mixed d46 rfl ?_
  simp [m0, h1, h2, h12, decide_beq]
  refine CW.walk hX mixed d46 rfl ?_
  simp [m1]
  refine CW.cut (doM r0 r1 r2 r4 H1 (bad2 a b) none none none) ?_ ?_
  · refine CW.walk1 hX mixed d46 rfl ?_
    by_cases hb : a.bad = 0
    · simp [hb, m2]
      exact ⟨by simp, by simp, by simp, by simp, by simp [bad2, hb], by simp, by simp, by simp, rfl, rfl⟩
    · simp [hb, m2]
      exact ⟨by simp, by simp, by simp, by simp, by simp [bad2, hb], by simp, by simp, by simp, rfl, rfl⟩
  rintro ⟨e, ds⟩ H2 ⟨e4, e5, e6, e8, e10, _, _, _, rfl, rfl⟩
  dsimp only at e4 e5 e6 e8 e10
  refine CW.walk hX mixed d46 rfl ?_
  simp [e4, m0]
  refine CW.cut (doM r0 r1 r2 r4 H2 (bad2 a b) (some (ci k)) (some (.bool (Dd.early k))) none) ?_ ?_
  · refine CW.walk1 hX mixed d46 rfl ?_
    simp [decide_beq]
    refine ⟨fun h => ?_, fun h => ?_⟩
    · exact ⟨by simp [e4], by simp [e5], by simp [e6], by simp [e8], by simp [e10], by simp, by simp [Dd.early, h], by simp, rfl, rfl⟩
    · exact ⟨by simp [e4], by simp [e5], by simp [e6], by simp [e8], by simp [e10], by simp, by simp [Dd.early, h], by simp, rfl, rfl⟩
  clear e4 e5 e6 e8 e10
  rintro ⟨e, ds⟩ H2 ⟨e4, e5, e6, e8, e10, e11, e12, _, rfl, rfl⟩
  dsimp only at e4 e5 e6 e8 e10 e11 e12
  have e11 := e11 _ rfl
  have e12 := e12 _ rfl
  refine CW.cut (doM r0 r1 r2 r4 H2 (bad2 a b) (some (ci (baseK k))) (some (.bool (Dd.early k))) none) ?_ ?_
  · refine CW.walk1 hX mixed d46 rfl ?_
    by_cases hea : Dd.early k = true
    · have hkb : 14 ≤ k ∧ k ≤ 24 := by simp only [Dd.early, Bool.or_eq_true, decide_eq_true_eq] at hea; omega
      simp [e11, e12, hea]
      exact ⟨by simp [e4], by simp [e5], by simp [e6], by simp [e8], by simp [e10], by simp [baseK, hea]; rw [wrapI (by omega) (by omega)], by simp [e12, hea], by simp, rfl, rfl⟩
    · have hea : Dd.early k = false := by simpa using hea
      simp [e11, e12, hea]
      exact ⟨by simp [e4], by simp [e5], by simp [e6], by simp [e8], by simp [e10], by simp [baseK, hea, e11], by simp [e12, hea], by simp, rfl, rfl⟩
  clear e4 e5 e6 e8 e10 e11 e12
  rintro ⟨e, ds⟩ H2 ⟨e4, e5, e6, e8, e10, e11, e12, _, rfl, rfl⟩
  dsimp only at e4 e5 e6 e8 e10 e11 e12
  have e11 := e11 _ rfl
  have e12 := e12 _ rfl
  refine CW.cut (doM r0 r1 r2 r4 H2 (bad2 a b) (some (ci (baseK k))) (some (.bool (Dd.early k))) (some (.bool (decide (baseK k = 14) || decide (baseK k = 15))))) ?_ ?_
  · refine CW.walk1 hX mixed d46 rfl ?_
    simp [e11, decide_beq]
    refine ⟨fun h => ?_, fun h => ?_⟩
    · exact ⟨by simp [e4], by simp [e5], by simp [e6], by simp [e8], by simp [e10], by simp [e11], by simp [e12], by simp [h], rfl, rfl⟩
    · exact ⟨by simp [e4], by simp [e5], by simp [e6], by simp [e8], by simp [e10], by simp [e11], by simp [e12], by simp [h], rfl, rfl⟩
  clear e4 e5 e6 e8 e10 e11 e12
  rintro ⟨e, ds⟩ H2 ⟨e4, e5, e6, e8, e10, e11, e12, e13, rfl, rfl⟩
  dsimp only at e4 e5 e6 e8 e10 e11 e12 e13
  have e11 := e11 _ rfl
  have e12 := e12 _ rfl
  have e13 := e13 _ rfl
  by_cases hq : bad2 a b = 0 ∧ (mathM (baseK k) a.num b.num).2 = 0
  · refine CW.walk hX mixed d46 rfl ?_
    simp [e5, e6, e10, e11, hq.1, m1, m2]
    refine (math_c hX _ _ _ _).k ?_
    rintro x H3 ⟨⟨bo, rfl⟩, rfl⟩
    simp [hq.2, e8, m4, cfill, put, arithV, hq.1]
  refine CW.cut (doM r0 r1 r2 r4 H2 (if bad2 a b = 0 then (mathM (baseK k) a.num b.num).2 else bad2 a b) (some (ci (baseK k))) (some (.bool (Dd.early k))) (some (.bool (decide (baseK k = 14) || decide (baseK k = 15))))) ?_ ?_
  · refine CW.walk1 hX mixed d46 rfl ?_
    by_cases hb : bad2 a b = 0
    · simp [e5, e6, e10, e11, hb, m1, m2]
      refine (math_c hX _ _ _ _).k ?_
      rintro x H3 ⟨⟨bo, rfl⟩, rfl⟩
      by_cases ht : (mathM (baseK k) a.num b.num).2 = 0
      · exact absurd ⟨hb, ht⟩ hq
      · simp [ht]
        exact ⟨by simp [e4], by simp [e5], by simp [e6], by simp [e8], by simp [hb], by simp [e11], by simp [e12], by simp [e13], rfl, rfl⟩
    · simp [e10, hb]
      exact ⟨by simp [e4], by simp [e5], by simp [e6], by simp [e8], by simp [hb, e10], by simp [e11], by simp [e12], by simp [e13], rfl, rfl⟩
  clear e4 e5 e6 e8 e10 e11 e12 e13
  rintro ⟨e, ds⟩ H2 ⟨e4, e5, e6, e8, e10, e11, e12, e13, rfl, rfl⟩
  dsimp only at e4 e5 e6 e8 e10 e11 e12 e13
  have e12 := e12 _ rfl
  have e13 := e13 _ rfl
  refine CW.walk1 hX mixed d46 rfl ?_
  simp [e8, e10, e12, e13, m4, cfill, put, decide_beq]
  have har : arithV mathM k a b = finV k (if bad2 a b = 0 then (mathM (baseK k) a.num b.num).2 else bad2 a b) := by
    simp only [arithV]
    by_cases hb : bad2 a b = 0
    · have ht : (mathM (baseK k) a.num b.num).2 ≠ 0 := fun ht => hq ⟨hb, ht⟩
      simp [hb, ht]
    · simp [hb]
  rw [har]
  generalize (if bad2 a b = 0 then (mathM (baseK k) a.num b.num).2 else bad2 a b) = bad
  refine ⟨fun h => ⟨fun h2 => by simp [finV, h, h2, v0], fun h2 => by simp [finV, h2]⟩, fun h h2 => by simp [finV, h, h2]⟩
end Go.Cl
set_option linter.unusedSimpArgs false
set_option linter.unusedVariables false
namespace Go.Cl
open Go.Proofs Dd
variable {W : World} {G : Nat → CV}
set_option maxRecDepth 8000
theorem Own.slN {H0 H : Hp} {v : CV} {l : List Int} (h : Own H0 H v 1 (ints l)) : SlN H0 H v l := by
  obtain ⟨_, _, ⟨rfl, hx⟩ | ⟨q, c, ex, rfl, hq, hq2, _, hqc⟩⟩ := h
  · exact .inl ⟨rfl, by simpa [ints] using hx⟩
  · refine .inr ⟨q, c - l.length, _, by simp [ints] at hqc ⊢; omega, hq, hq2, fun k x hk => ?_⟩
    have := (List.getElem?_eq_some_iff.1 hk).1
    rw [ints_flat, List.getElem?_append_left (by simpa using this), List.getElem?_map, hk]
    rfl
structure oM (H1 : Hp) (r0 : Nat) (L : List Int) (s' : CA) (H' : Hp) : Prop where
  ex : ∃ v, s'.env 1 = .ptr r0 0 ∧ s'.env 3 = v ∧ s'.ds = [] ∧ Own H1 H' v 1 (ints L)
theorem operands_c (hX : CxOk (cx W G)) (o : UOp) (hk : isKind o.kind = true) (H : Hp) : CC Tryd.prog W 44 [.agg (opC o)] H fun x H' => ∃ v, x = .ret v ∧ Le H H' ∧ SlN H H' v (reads o) := by
  obtain ⟨kA, kB, kC⟩ := has_bits hk
  refine CC.of_cw hX Tryd.func44 rfl rfl (Nat.le_of_ble_eq_true rfl) ?_
  refine CW.walk hX mixed d44 rfl ?_
  simp [opC]
  intro r0 n0
  generalize hH1 : H.set r0 _ = H1
  have hle : Le H H1 := by rw [← hH1]; exact Le.set_new n0
  have m0 : H1 r0 = some (.cells (opC o)) := by rw [← hH1]; simp [opC]
  clear hH1
  simp only [opC] at m0
  refine CW.walk hX mixed d44 rfl ?_
  simp
  refine CW.cut (oM H1 r0 (if uBit o.kind 1 then [o.a] else [])) ?_ ?_
  · refine CW.walk1 hX mixed d44 rfl ?_
    simp [m0]
    refine (hasA_c hX _ _).k ?_
    rintro x H2 ⟨rfl, rfl⟩
    rw [kA]
    cases hu : uBit o.kind 1
    · simp
      exact ⟨.nilsl, by simp, by simp, rfl, Own.nil (Le.refl _)⟩
    · simp [m0, cfill, -vcAppend]
      intro r hr
      refine ((Own.nil (sz := 1) (Le.refl _)).more hr).append2 (ys := [[ci o.a]]) (by simp) (by simp) (src_one set_at rfl) fun v' H4 how4 _ => ?_
      simp
      exact ⟨v', by simp, by simp, rfl, by simpa [ints] using how4⟩
  rintro ⟨e, ds⟩ H2 ⟨v, e1, e3, rfl, how⟩
  dsimp only at e1 e3
  have m2 := how.le _ _ m0
  refine CW.cut (oM H1 r0 ((if uBit o.kind 1 then [o.a] else []) ++ (if uBit o.kind 2 then [o.b] else []))) ?_ ?_
  · refine CW.walk1 hX mixed d44 rfl ?_
    simp [e1, m2]
    refine (hasB_c hX _ _).k ?_
    rintro x H3 ⟨rfl, rfl⟩
    rw [kB]
    cases hu : uBit o.kind 2
    · simp
      exact ⟨v, by simp [e1], by simp [e3], rfl, by simpa using how⟩
    · simp [e1, e3, m2, cfill, -vcAppend]
      intro r hr
      refine (how.more hr).append2 (ys := [[ci o.b]]) (by simp) (by cases uBit o.kind 1 <;> simp [ints]) (src_one set_at rfl) fun v' H4 how4 _ => ?_
      simp
      exact ⟨v', by simp [e1], by simp, rfl, by simpa [ints] using how4⟩
  clear e1 e3 how m2
  rintro ⟨e, ds⟩ H2 ⟨v, e1, e3, rfl, how⟩
  dsimp only at e1 e3
  have m2 := how.le _ _ m0
  refine CW.cut (oM H1 r0 (reads o)) ?_ ?_
  · refine CW.walk1 hX mixed d44 rfl ?_
    simp [e1, m2]
    refine (hasC_c hX _ _).k ?_
    rintro x H3 ⟨rfl, rfl⟩
    rw [kC]
    cases hu : uBit o.kind 3
    · simp
      exact ⟨v, by simp [e1], by simp [e3], rfl, by simpa [reads, hu] using how⟩
    · simp [e1, e3, m2, cfill, -vcAppend]
      intro r hr
      refine (how.more hr).append2 (ys := [[ci o.c]]) (by simp) (by cases uBit o.kind 1 <;> cases uBit o.kind 2 <;> simp [ints]) (src_one set_at rfl) fun v' H4 how4 _ => ?_
      simp
      exact ⟨v', by simp [e1], by simp, rfl, by simpa [ints, reads, hu, List.append_assoc] using how4⟩
  clear e1 e3 how m2
  rintro ⟨e, ds⟩ H2 ⟨v, e1, e3, rfl, how⟩
  dsimp only at e1 e3
  refine CW.walk1 hX mixed d44 rfl ?_
  simp [e3]
  exact ⟨hle.trans how.le, (how.base hle).slN⟩
end Go.Cl
