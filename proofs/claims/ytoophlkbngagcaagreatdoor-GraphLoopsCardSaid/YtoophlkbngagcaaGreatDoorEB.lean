/- DERIVED HERE. The reference's small functions on kinds; Math; Do. DERIVED HERE. The reference's Operands. -/
import Derived.Test.YtoophlkbngagcaaGreatDoorTAq
import Derived.Test.YtoophlkbngagcaaGreatDoorDead
set_option linter.unusedSimpArgs false
set_option linter.unusedVariables false
namespace Go.Cl
open Go.Proofs Dd
variable {W : World} {G : Nat → CV}
theorem isArr_c (hX : CxOk (cx W G)) (k : Int) (H : Hp) : CC Tryz.prog W 87 [ci k] H fun x H' => x = .ret (.bool (isArr k)) ∧ H' = H := by
  refine CC.at0 ?_ H
  refine CC.of_ev hX mixed d87 Tryz.func87 rfl rfl (Nat.le_of_ble_eq_true rfl) d87_ok ?_
  simp [Tryz.f87, d87]
  simp only [isArr]
  repeat' (first | intro _ | apply And.intro)
  all_goals (rw [Bool.eq_iff_iff]; simp; omega)
theorem endA_c (hX : CxOk (cx W G)) (k : Int) (H : Hp) : CC Tryz.prog W 55 [ci k] H fun x H' => x = .ret (.bool (decide (k ≠ 1))) ∧ H' = H := by
  refine CC.at0 ?_ H
  refine CC.of_ev hX mixed d55 Tryz.func55 rfl rfl (Nat.le_of_ble_eq_true rfl) d55_ok ?_
  simp [Tryz.f55, d55, decide_bne]
def hA (k : Int) : Bool := decide (k ≠ 1) && decide (k ≠ 18)
theorem hasA_c (hX : CxOk (cx W G)) (k : Int) (H : Hp) : CC Tryz.prog W 52 [ci k] H fun x H' => x = .ret (.bool (hA k)) ∧ H' = H := by
  refine CC.at0 ?_ H
  refine CC.of_ev hX mixed d52 Tryz.func52 rfl rfl (Nat.le_of_ble_eq_true rfl) d52_ok ?_
  simp [Tryz.f52, d52]
  simp only [hA]
  repeat' (first | intro _ | apply And.intro)
  all_goals (rw [Bool.eq_iff_iff]; simp; try omega)


def hB (k : Int) : Bool := (decide (3 ≤ k) && decide (k ≤ 15)) || decide (k = 17) || decide (k = 23) || decide (k = 24)
theorem hasB_c (hX : CxOk (cx W G)) (k : Int) (H : Hp) : CC Tryz.prog W 53 [ci k] H fun x H' => x = .ret (.bool (hB k)) ∧ H' = H := by
  refine CC.at0 ?_ H
  refine CC.of_ev hX mixed d53 Tryz.func53 rfl rfl (Nat.le_of_ble_eq_true rfl) d53_ok ?_
  simp [Tryz.f53, d53]
  simp only [hB]
  repeat' (first | intro _ | apply And.intro)
  all_goals (rw [Bool.eq_iff_iff]; simp; try omega)
def hC (k : Int) : Bool := decide (k = 12)
theorem hasC_c (hX : CxOk (cx W G)) (k : Int) (H : Hp) : CC Tryz.prog W 54 [ci k] H fun x H' => x = .ret (.bool (hC k)) ∧ H' = H := by
  refine CC.at0 ?_ H
  refine CC.of_ev hX mixed d54 Tryz.func54 rfl rfl (Nat.le_of_ble_eq_true rfl) d54_ok ?_
  simp [Tryz.f54, d54, decide_beq, hC]
theorem has_bits {k : Int} (h : isKind k = true) : hA k = uBit k 1 ∧ hB k = uBit k 2 ∧ hC k = uBit k 3 := by
  simp only [isKind, Bool.and_eq_true, decide_eq_true_eq] at h
  have kinds : k = 1 ∨ k = 2 ∨ k = 3 ∨ k = 4 ∨ k = 5 ∨ k = 6 ∨ k = 7 ∨ k = 8 ∨ k = 9 ∨ k = 10 ∨ k = 11 ∨ k = 12 ∨ k = 13 ∨ k = 14 ∨ k = 15 ∨ k = 16 ∨ k = 17 ∨ k = 18 ∨ k = 19 ∨ k = 20 ∨ k = 21 ∨ k = 22 ∨ k = 23 ∨ k = 24 ∨ k = 25 := by omega
  rcases kinds with k | k | k | k | k | k | k | k | k | k | k | k | k | k | k | k | k | k | k | k | k | k | k | k | k <;> subst k <;> exact ⟨rfl, rfl, rfl⟩
/-! ### Do -/
end Go.Cl
set_option linter.unusedSimpArgs false
set_option linter.unusedVariables false
namespace Go.Cl
open Go.Proofs Dd
variable {W : World} {G : Nat → CV}
set_option maxRecDepth 8000
theorem Own.slN {H0 H : Hp} {v : CV} {l : List Int} (h : Own H0 H v 1 (ints l)) : SlN H0 H v l := by
  obtain ⟨_, _, ⟨rfl, hx⟩ | ⟨q, c, ex, rfl, hq, hq2, _, hqc⟩⟩ := h
  · exact .inl ⟨rfl, by simpa [ints] using hx⟩
  · refine .inr ⟨q, c - l.length, _, by simp [ints] at hqc ⊢; omega, hq, hq2, fun k x hk => ?_⟩
    have := (List.getElem?_eq_some_iff.1 hk).1
    rw [ints_flat, List.getElem?_append_left (by simpa using this), List.getElem?_map, hk]
    rfl
structure oM (H1 : Hp) (r0 : Nat) (L : List Int) (s' : CA) (H' : Hp) : Prop where
  ex : ∃ v, s'.env 1 = .ptr r0 0 ∧ s'.env 3 = v ∧ s'.ds = [] ∧ Own H1 H' v 1 (ints L)
theorem operands_c (hX : CxOk (cx W G)) (o : UOp) (hk : isKind o.kind = true) (H : Hp) : CC Tryz.prog W 92 [.agg (opC o)] H fun x H' => ∃ v, x = .ret v ∧ Le H H' ∧ SlN H H' v (reads o) := by
  obtain ⟨kA, kB, kC⟩ := has_bits hk
  refine CC.of_cw hX Tryz.func92 rfl rfl (Nat.le_of_ble_eq_true rfl) ?_
  refine CW.walk hX mixed d92 rfl ?_
  simp [opC]
  intro r0 n0
  generalize hH1 : H.set r0 _ = H1
  have hle : Le H H1 := by rw [← hH1]; exact Le.set_new n0
  have m0 : H1 r0 = some (.cells (opC o)) := by rw [← hH1]; simp [opC]
  clear hH1
  simp only [opC] at m0
  refine CW.walk hX mixed d92 rfl ?_
  simp
  refine CW.cut (oM H1 r0 (if uBit o.kind 1 then [o.a] else [])) ?_ ?_
  · refine CW.walk1 hX mixed d92 rfl ?_
    simp [m0]
    refine (hasA_c hX _ _).k ?_
    rintro x H2 ⟨rfl, rfl⟩
    rw [kA]
    cases hu : uBit o.kind 1
    · simp
      exact ⟨.nilsl, by simp, by simp, rfl, Own.nil (Le.refl _)⟩
    · simp [m0, cfill, -vcAppend]
      intro r hr
      refine ((Own.nil (sz := 1) (Le.refl _)).more hr).append2 (ys := [[ci o.a]]) (by simp) (by simp) (src_one set_at rfl) fun v' H4 how4 _ => ?_
      simp
      exact ⟨v', by simp, by simp, rfl, by simpa [ints] using how4⟩
  rintro ⟨e, ds⟩ H2 ⟨v, e1, e3, rfl, how⟩
  dsimp only at e1 e3
  have m2 := how.le _ _ m0
  refine CW.cut (oM H1 r0 ((if uBit o.kind 1 then [o.a] else []) ++ (if uBit o.kind 2 then [o.b] else []))) ?_ ?_
  · refine CW.walk1 hX mixed d92 rfl ?_
    simp [e1, m2]
    refine (hasB_c hX _ _).k ?_
    rintro x H3 ⟨rfl, rfl⟩
    rw [kB]
    cases hu : uBit o.kind 2
    · simp
      exact ⟨v, by simp [e1], by simp [e3], rfl, by simpa using how⟩
    · simp [e1, e3, m2, cfill, -vcAppend]
      intro r hr
      refine (how.more hr).append2 (ys := [[ci o.b]]) (by simp) (by cases uBit o.kind 1 <;> simp [ints]) (src_one set_at rfl) fun v' H4 how4 _ => ?_
      simp
      exact ⟨v', by simp [e1], by simp, rfl, by simpa [ints] using how4⟩
  clear e1 e3 how m2
  rintro ⟨e, ds⟩ H2 ⟨v, e1, e3, rfl, how⟩
  dsimp only at e1 e3
  have m2 := how.le _ _ m0
  refine CW.cut (oM H1 r0 (reads o)) ?_ ?_
  · refine CW.walk1 hX mixed d92 rfl ?_
    simp [e1, m2]
    refine (hasC_c hX _ _).k ?_
    rintro x H3 ⟨rfl, rfl⟩
    rw [kC]
    cases hu : uBit o.kind 3
    · simp
      exact ⟨v, by simp [e1], by simp [e3], rfl, by simpa [reads, hu] using how⟩
    · simp [e1, e3, m2, cfill, -vcAppend]
      intro r hr
      refine (how.more hr).append2 (ys := [[ci o.c]]) (by simp) (by cases uBit o.kind 1 <;> cases uBit o.kind 2 <;> simp [ints]) (src_one set_at rfl) fun v' H4 how4 _ => ?_
      simp
      exact ⟨v', by simp [e1], by simp, rfl, by simpa [ints, reads, hu, List.append_assoc] using how4⟩
  clear e1 e3 how m2
  rintro ⟨e, ds⟩ H2 ⟨v, e1, e3, rfl, how⟩
  dsimp only at e1 e3
  refine CW.walk1 hX mixed d92 rfl ?_
  simp [e3]
  exact ⟨hle.trans how.le, (how.base hle).slN⟩
end Go.Cl
