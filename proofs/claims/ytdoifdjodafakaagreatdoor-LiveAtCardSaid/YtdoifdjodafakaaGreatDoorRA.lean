/- DERIVED HERE. The reference's Check: it says what the program's Check says. -/
import Derived.Test.YtdoifdjodafakaaGreatDoorEB
import Derived.Test.YtdoifdjodafakaaGreatDoorLenK
set_option linter.unusedSimpArgs false
set_option linter.unusedVariables false
namespace Go.Cl
open Go.Proofs Dd
variable {W : World} {G : Nat → CV}
set_option maxRecDepth 8000
set_option maxHeartbeats 4000000
theorem one92_c (hX : CxOk (cx W G)) (k : Int) (H : Hp) : CC Tryz.prog W 84 [ci k] H fun x H' => x = .ret (.bool (isKind k)) ∧ H' = H := by
  refine CC.at0 ?_ H
  refine CC.of_ev hX mixed d84 Tryz.func84 rfl rfl (Nat.le_of_ble_eq_true rfl) d84_ok ?_
  simp [Tryz.f84, d84]
  simp only [isKind]
  repeat' (first | intro _ | apply And.intro)
  all_goals (rw [Bool.eq_iff_iff]; simp; try omega)
def isCell (k : Int) : Bool := decide (k = 18) || decide (k = 19)
theorem cell93_c (hX : CxOk (cx W G)) (k : Int) (H : Hp) : CC Tryz.prog W 90 [ci k] H fun x H' => x = .ret (.bool (isCell k)) ∧ H' = H := by
  refine CC.at0 ?_ H
  refine CC.of_ev hX mixed d90 Tryz.func90 rfl rfl (Nat.le_of_ble_eq_true rfl) d90_ok ?_
  simp [Tryz.f90, d90]
  simp only [isCell]
  repeat' (first | intro _ | apply And.intro)
  all_goals (rw [Bool.eq_iff_iff]; simp; try omega)
def hN (k : Int) : Bool := decide (k = 1) || isArr k || isCell k || decide (k = 21)
theorem hasN94_c (hX : CxOk (cx W G)) (k : Int) (H : Hp) : CC Tryz.prog W 91 [ci k] H fun x H' => x = .ret (.bool (hN k)) ∧ H' = H := by
  refine CC.of_ev hX mixed d91 Tryz.func91 rfl rfl (Nat.le_of_ble_eq_true rfl) d91_ok ?_
  by_cases h1 : k = 1
  · subst h1; simp [Tryz.f91, d91, hN]
  · simp [Tryz.f91, d91, h1]
    refine (isArr_c hX k H).k ?_
    rintro x H' ⟨rfl, rfl⟩
    by_cases h2 : isArr k = true
    · simp [h2, hN]
    · simp [h2]
      refine (cell93_c hX k _).k ?_
      rintro x H' ⟨rfl, rfl⟩
      by_cases h3 : isCell k = true
      · simp [h3, hN]
      · simp [h3, hN, h1, h2, decide_beq]
def hD (k : Int) : Bool := decide (k ≠ 17) && decide (k ≠ 19) && decide (k ≠ 20) && decide (k ≠ 21) && decide (k ≠ 22)
theorem hasDst64_c (hX : CxOk (cx W G)) (k : Int) (H : Hp) : CC Tryz.prog W 85 [ci k] H fun x H' => x = .ret (.bool (hD k)) ∧ H' = H := by
  refine CC.at0 ?_ H
  refine CC.of_ev hX mixed d85 Tryz.func85 rfl rfl (Nat.le_of_ble_eq_true rfl) d85_ok ?_
  simp [Tryz.f85, d85]
  simp only [hD]
  repeat' (first | intro _ | apply And.intro)
  all_goals (rw [Bool.eq_iff_iff]; simp; try omega)
theorem has_bits2 {k : Int} (h : isKind k = true) : hD k = uBit k 0 ∧ hN k = (uBit k 4 || uBit k 5 || uBit k 6 || uBit k 7) ∧ isArr k = uBit k 5 ∧ isCell k = uBit k 6 ∧ decide (k = 21) = uBit k 7 := by
  simp only [isKind, Bool.and_eq_true, decide_eq_true_eq] at h
  have kinds : k = 1 ∨ k = 2 ∨ k = 3 ∨ k = 4 ∨ k = 5 ∨ k = 6 ∨ k = 7 ∨ k = 8 ∨ k = 9 ∨ k = 10 ∨ k = 11 ∨ k = 12 ∨ k = 13 ∨ k = 14 ∨ k = 15 ∨ k = 16 ∨ k = 17 ∨ k = 18 ∨ k = 19 ∨ k = 20 ∨ k = 21 ∨ k = 22 ∨ k = 23 ∨ k = 24 ∨ k = 25 := by omega
  rcases kinds with k | k | k | k | k | k | k | k | k | k | k | k | k | k | k | k | k | k | k | k | k | k | k | k | k <;> subst k <;> exact ⟨rfl, rfl, rfl, rfl, rfl⟩
theorem reg58_c (hX : CxOk (cx W G)) (u : UUnit) (r : Int) (H : Hp) : CC Tryz.prog W 53 [.agg (unitC u), ci r] H fun x H' => x = .ret (.bool (inR r u.regs)) ∧ H' = H := by
  refine CC.shrink ?_
  refine CC.of_ev hX mixed d53 Tryz.func53 rfl rfl (Nat.le_of_ble_eq_true rfl) d53_ok ?_
  simp [Tryz.f53, d53, unitC]
  intro q hq
  have hle : Le H (H.set q (.cells (unitC u))) := Le.set_new hq
  simp only [unitC] at hle
  by_cases h : 0 ≤ r
  · simp [h, inR, hle]; omega
  · simp [h, inR, hle]
theorem there95_c (hX : CxOk (cx W G)) (u : UUnit) (r : Int) (H : Hp) : CC Tryz.prog W 92 [.agg (unitC u), ci r] H fun x H' => x = .ret (.bool (inR r u.blocks.length)) ∧ H' = H := by
  refine CC.shrink ?_
  refine CC.of_ev hX mixed d92 Tryz.func92 rfl rfl (Nat.le_of_ble_eq_true rfl) d92_ok ?_
  simp [Tryz.f92, d92, unitC]
  intro q hq
  have hle : Le H (H.set q (.cells (unitC u))) := Le.set_new hq
  simp only [unitC] at hle
  by_cases h : 0 ≤ r
  · simp [h, inR, hle]; omega
  · simp [h, inR, hle]
theorem end60_c (hX : CxOk (cx W G)) (u : UUnit) (e : UEnd) (H : Hp) : CC Tryz.prog W 55 [.agg (unitC u), .agg (endC e)] H fun x H' => x = .ret (ci (errEnd u e)) ∧ H' = H := by
  refine CC.shrink ?_
  refine CC.of_cw hX Tryz.func55 rfl rfl (Nat.le_of_ble_eq_true rfl) ?_
  refine CW.walk hX mixed d55 rfl ?_
  simp [unitC, endC]
  intro q2 n2 q3 p1 p2 n3
  generalize hH1 : Hp.set _ q3 _ = H1
  have hle : Le H H1 := by rw [← hH1]; exact (Le.set_new n2).trans (Le.set_new (by rw [hset_ne p1]; exact n3))
  have m3 : H1 q3 = some (.cells (endC e)) := by rw [← hH1]; exact set_at
  have m2 : H1 q2 = some (.cells (unitC u)) := by rw [← hH1]; simp [Hp.set, p2, unitC]
  clear hH1
  simp only [endC] at m3
  simp only [unitC] at m2
  have hreg := reg58_c hX u e.a H1
  have hto := there95_c hX u e.to H1
  have hels := there95_c hX u e.els H1
  simp only [unitC] at hreg hto hels
  by_cases hk : 1 ≤ e.kind ∧ e.kind ≤ 4
  rotate_left
  · have he : errEnd u e = 4 := by
      have : (decide (1 ≤ e.kind) && decide (e.kind ≤ 4)) = false := by simp; omega
      simp only [errEnd, this]; rfl
    rw [he]
    refine CW.walk hX mixed d55 rfl ?_
    simp [m3]
    exact ⟨fun _ => hle, fun q1 => ⟨fun _ => hle, fun q2 => absurd ⟨q1, q2⟩ hk⟩⟩
  have hkk : e.kind = 1 ∨ e.kind = 2 ∨ e.kind = 3 ∨ e.kind = 4 := by omega
  rcases hkk with k | k | k | k
  · refine CW.walk hX mixed d55 rfl ?_
    simp [m3, k]
    refine CW.walk hX mixed d55 rfl ?_
    simp [m3, m2, k]
    refine (endA_c hX _ _).k ?_
    rintro x H2 ⟨rfl, rfl⟩
    simp
    refine CW.walk hX mixed d55 rfl ?_
    simp [m3, m2, k]
    refine (endTo_c hX _ _).k ?_
    rintro x H3 ⟨rfl, rfl⟩
    simp [m2, m3]
    refine hto.k ?_
    rintro x H4 ⟨rfl, rfl⟩
    by_cases ht : inR e.to u.blocks.length = true
    rotate_left
    · simp [ht, errEnd, k, goes]
      exact hle
    simp [ht, m3, k]
    refine (endElse_c hX _ _).k ?_
    rintro x H5 ⟨rfl, rfl⟩
    simp
    refine CW.walk hX mixed d55 rfl ?_
    simp [m3, m2, k]
    refine (endA_c hX _ _).k ?_
    rintro x H6 ⟨rfl, rfl⟩
    by_cases ha : e.a = 0
    rotate_left
    · simp [m3, ha, errEnd, k, goes, branches, ht]
      exact hle
    simp [m3, ha, k]
    refine (endTo_c hX _ _).k ?_
    rintro x H7 ⟨rfl, rfl⟩
    simp [m3, k]
    refine (endElse_c hX _ _).k ?_
    rintro x H8 ⟨rfl, rfl⟩
    by_cases hl : e.els = 0
    · simp [m3, hl]
      refine CW.walk1 hX mixed d55 rfl ?_
      simp [errEnd, k, goes, branches, ht, ha, hl]
      exact hle
    · simp [m3, hl, errEnd, k, goes, branches, ht, ha]
      exact hle
  · refine CW.walk hX mixed d55 rfl ?_
    simp [m3, k]
    refine CW.walk hX mixed d55 rfl ?_
    simp [m3, m2, k]
    refine (endA_c hX _ _).k ?_
    rintro x H2 ⟨rfl, rfl⟩
    simp [m2, m3]
    refine hreg.k ?_
    rintro x H2 ⟨rfl, rfl⟩
    by_cases hr : inR e.a u.regs = true
    rotate_left
    · simp [hr, errEnd, k]
      exact hle
    simp [hr]
    refine CW.walk hX mixed d55 rfl ?_
    simp [m3, m2, k]
    refine (endTo_c hX _ _).k ?_
    rintro x H3 ⟨rfl, rfl⟩
    simp [m2, m3]
    refine hto.k ?_
    rintro x H4 ⟨rfl, rfl⟩
    by_cases ht : inR e.to u.blocks.length = true
    rotate_left
    · simp [ht, errEnd, k, goes, hr]
      exact hle
    simp [ht, m3, k]
    refine (endElse_c hX _ _).k ?_
    rintro x H5 ⟨rfl, rfl⟩
    simp [m2, m3]
    refine hels.k ?_
    rintro x H5 ⟨rfl, rfl⟩
    by_cases hel : inR e.els u.blocks.length = true
    rotate_left
    · simp [hel, errEnd, k, goes, branches, hr, ht]
      exact hle
    simp [hel]
    refine CW.walk hX mixed d55 rfl ?_
    simp [m3, m2, k]
    refine (endA_c hX _ _).k ?_
    rintro x H6 ⟨rfl, rfl⟩
    simp [m3, k]
    refine (endTo_c hX _ _).k ?_
    rintro x H7 ⟨rfl, rfl⟩
    simp [m3, k]
    refine (endElse_c hX _ _).k ?_
    rintro x H8 ⟨rfl, rfl⟩
    simp
    refine CW.walk1 hX mixed d55 rfl ?_
    simp [errEnd, k, goes, branches, ht, hr, hel]
    exact hle
  · refine CW.walk hX mixed d55 rfl ?_
    simp [m3, k]
    refine CW.walk hX mixed d55 rfl ?_
    simp [m3, m2, k]
    refine (endA_c hX _ _).k ?_
    rintro x H2 ⟨rfl, rfl⟩
    simp [m2, m3]
    refine hreg.k ?_
    rintro x H2 ⟨rfl, rfl⟩
    by_cases hr : inR e.a u.regs = true
    rotate_left
    · simp [hr, errEnd, k]
      exact hle
    simp [hr]
    refine CW.walk hX mixed d55 rfl ?_
    simp [m3, m2, k]
    refine (endTo_c hX _ _).k ?_
    rintro x H3 ⟨rfl, rfl⟩
    simp [m2, m3, k]
    refine (endElse_c hX _ _).k ?_
    rintro x H5 ⟨rfl, rfl⟩
    simp [m2, m3]
    refine CW.walk hX mixed d55 rfl ?_
    simp [m3, m2, k]
    refine (endA_c hX _ _).k ?_
    rintro x H6 ⟨rfl, rfl⟩
    simp [m3, k]
    refine (endTo_c hX _ _).k ?_
    rintro x H7 ⟨rfl, rfl⟩
    by_cases ht : e.to = 0
    rotate_left
    · simp [m3, ht, errEnd, k, goes, branches, hr]
      exact hle
    simp [m3, k, ht]
    refine (endElse_c hX _ _).k ?_
    rintro x H8 ⟨rfl, rfl⟩
    by_cases hl : e.els = 0
    · simp [m3, hl]
      refine CW.walk1 hX mixed d55 rfl ?_
      simp [errEnd, k, goes, branches, ht, hr, hl]
      exact hle
    · simp [m3, hl, errEnd, k, goes, branches, ht, hr]
      exact hle
  · refine CW.walk hX mixed d55 rfl ?_
    simp [m3, k]
    refine CW.walk hX mixed d55 rfl ?_
    simp [m3, m2, k]
    refine (endA_c hX _ _).k ?_
    rintro x H2 ⟨rfl, rfl⟩
    simp [m2, m3]
    refine hreg.k ?_
    rintro x H2 ⟨rfl, rfl⟩
    by_cases hr : inR e.a u.regs = true
    rotate_left
    · simp [hr, errEnd, k]
      exact hle
    simp [hr]
    refine CW.walk hX mixed d55 rfl ?_
    simp [m3, m2, k]
    refine (endTo_c hX _ _).k ?_
    rintro x H3 ⟨rfl, rfl⟩
    simp [m2, m3, k]
    refine (endElse_c hX _ _).k ?_
    rintro x H5 ⟨rfl, rfl⟩
    simp [m2, m3]
    refine CW.walk hX mixed d55 rfl ?_
    simp [m3, m2, k]
    refine (endA_c hX _ _).k ?_
    rintro x H6 ⟨rfl, rfl⟩
    simp [m3, k]
    refine (endTo_c hX _ _).k ?_
    rintro x H7 ⟨rfl, rfl⟩
    by_cases ht : e.to = 0
    rotate_left
    · simp [m3, ht, errEnd, k, goes, branches, hr]
      exact hle
    simp [m3, k, ht]
    refine (endElse_c hX _ _).k ?_
    rintro x H8 ⟨rfl, rfl⟩
    by_cases hl : e.els = 0
    · simp [m3, hl]
      refine CW.walk1 hX mixed d55 rfl ?_
      simp [errEnd, k, goes, branches, ht, hr, hl]
      exact hle
    · simp [m3, hl, errEnd, k, goes, branches, ht, hr]
      exact hle
def regAt (o : UOp) (i : Nat) : Int := [o.dst, o.a, o.b, o.c].getD i 0
/-- The loops of op: round i, nothing found so far. -/
structure opI (H2 : Hp) (okf : Nat → Bool) (q2 q3 : Nat) (r5 r6 t d : Nat) (mt : Option Int) (j : Nat) (s' : CA) (H' : Hp) : Prop where
  ex : ∃ i it : Nat, i ≤ 4 ∧ j = 4 - i ∧ s'.env 2 = .ptr q2 0 ∧ s'.env 3 = .ptr q3 0 ∧ s'.env 5 = .ref r5 0 4 4 ∧ s'.env 6 = .ref r6 0 4 4 ∧ (∀ m, mt = some m → s'.env 8 = ci m) ∧ s'.env t = .int .i64 it ∧ it + d = i ∧ s'.ds = [] ∧ H' = H2 ∧ ∀ k, k < i → okf k = true
structure opE' (H2 : Hp) (okf : Nat → Bool) (q2 q3 : Nat) (r5 r6 : Nat) (mt : Option Int) (s' : CA) (H' : Hp) : Prop where
  ex : s'.env 2 = .ptr q2 0 ∧ s'.env 3 = .ptr q3 0 ∧ s'.env 5 = .ref r5 0 4 4 ∧ s'.env 6 = .ref r6 0 4 4 ∧ (∀ m, mt = some m → s'.env 8 = ci m) ∧ s'.ds = [] ∧ H' = H2 ∧ ∀ k, k < 4 → okf k = true
theorem op59_c (hX : CxOk (cx W G)) (u : UUnit) (hs : 0 ≤ u.spill) (o : UOp) (H : Hp) : CC Tryz.prog W 54 [.agg (unitC u), .agg (opC o)] H fun x H' => x = .ret (ci (errOp u o)) ∧ H' = H := by
  refine CC.shrink ?_
  refine CC.of_cw hX Tryz.func54 rfl rfl (Nat.le_of_ble_eq_true rfl) ?_
  refine CW.walk hX mixed d54 rfl ?_
  simp [unitC, opC]
  intro q2 n2 q3 p1 p2 n3
  generalize hH1 : Hp.set _ q3 _ = H1
  have hle : Le H H1 := by rw [← hH1]; exact (Le.set_new n2).trans (Le.set_new (by rw [hset_ne p1]; exact n3))
  have m3 : H1 q3 = some (.cells (opC o)) := by rw [← hH1]; exact set_at
  have m2 : H1 q2 = some (.cells (unitC u)) := by rw [← hH1]; simp [Hp.set, p2, unitC]
  clear hH1
  simp only [opC] at m3
  simp only [unitC] at m2
  by_cases hk : isKind o.kind = true
  rotate_left
  · have hk : isKind o.kind = false := by simpa using hk
    refine CW.walk hX mixed d54 rfl ?_
    simp [m3]
    refine (one92_c hX _ _).k ?_
    rintro x H2 ⟨rfl, rfl⟩
    simp [hk, errOp]
    exact hle
  refine CW.walk hX mixed d54 rfl ?_
  simp [m3]
  refine (one92_c hX _ _).k ?_
  rintro x H2 ⟨rfl, rfl⟩
  simp [hk]
  obtain ⟨b0, bN, b5, b6, b7⟩ := has_bits2 hk
  obtain ⟨b1, b2, b3⟩ := has_bits hk
  refine CW.walk hX mixed d54 rfl ?_
  simp [d54, m3]
  refine (hasDst64_c hX _ _).k ?_
  rintro x H3 ⟨rfl, rfl⟩
  simp [m3]
  refine ⟨⟨stabI_le rfl (Le.refl _), stabI_le rfl (Le.refl _), stabI_le rfl (Le.refl _)⟩, ?_⟩
  refine (hasA_c hX _ _).k ?_
  rintro x H4 ⟨rfl, rfl⟩
  simp [m3]
  refine ⟨⟨stabI_le rfl (Le.refl _), stabI_le rfl (Le.refl _)⟩, ?_⟩
  refine (hasB_c hX _ _).k ?_
  rintro x H5 ⟨rfl, rfl⟩
  simp [m3]
  refine ⟨stabI_le rfl (Le.refl _), ?_⟩
  refine (hasC_c hX _ _).k ?_
  rintro x H6 ⟨rfl, rfl⟩
  simp [cfill, b0, b1, b2, b3]
  intro r5 n5
  have nq5 : ∀ {q o}, H6 q = some o → q ≠ r5 := fun h k => by rw [k, n5] at h; cases h
  refine CW.walk hX mixed d54 rfl ?_
  simp [m3, nq5 m3, cfill]
  intro r6 p3 p4 n6
  generalize hH7 : Hp.set _ r6 _ = H7
  have hle7 : Le H6 H7 := by rw [← hH7]; exact (Le.set_new n5).trans (Le.set_new (by rw [hset_ne p3]; exact n6))
  have m5 : H7 r5 = some (.cells [.bool (uBit o.kind 0), .bool (uBit o.kind 1), .bool (uBit o.kind 2), .bool (uBit o.kind 3)]) := by rw [← hH7]; simp [Hp.set, p4]
  have m6 : H7 r6 = some (.cells [ci o.dst, ci o.a, ci o.b, ci o.c]) := by rw [← hH7]; exact set_at
  clear hH7
  have m3 := hle7 _ _ m3
  have m2 := hle7 _ _ m2
  have hle := hle.trans hle7
  clear n5 n6 nq5 p3 p4
  have hreg : ∀ r, CC Tryz.prog W 53 [.agg (unitC u), ci r] H7 _ := fun r => reg58_c hX u r H7
  simp only [unitC] at hreg
  refine CW.cut (opE' H7 (fun k => !uBit o.kind k || inR (regAt o k) u.regs) q2 q3 r5 r6 none) ?_ ?_
  · refine CW.walk hX mixed d54 rfl ?_
    simp
    refine CW.block ?_
    refine CW.loop (opI H7 (fun k => !uBit o.kind k || inR (regAt o k) u.regs) q2 q3 r5 r6 7 0 none) ?_ (m := 4) ⟨0, 0, by omega, rfl, by simp, by simp, by simp, by simp, fun m h => by (cases h), by simp, rfl, rfl, rfl, fun k hk => absurd hk (by omega)⟩
    rintro j ⟨en, ds⟩ H8 ⟨i, it, hi, rfl, e2, e3, e5, e6, _, e7, hit, rfl, rfl, hok⟩
    obtain rfl : i = it := by omega
    dsimp only at e2 e3 e5 e6 e7
    by_cases hlt : i < 4
    rotate_left
    · refine CW.walk hX mixed d54 rfl ?_
      obtain rfl : i = 4 := by omega
      simp [e7]
      exact ⟨by simp [e2], by simp [e3], by simp [e5], by simp [e6], fun m h => by (cases h), rfl, rfl, hok⟩
    refine CW.walk hX mixed d54 rfl ?_
    have hlt' : (i : Int) < 4 := by omega
    simp [e7, hlt, hlt']
    have bad : (!uBit o.kind i || inR (regAt o i) u.regs) = false → errOp u o = 2 := fun hb => by
      have : regsOk u o = false := by
        simp only [Bool.or_eq_false_iff, Bool.not_eq_false'] at hb
        have h4 : i = 0 ∨ i = 1 ∨ i = 2 ∨ i = 3 := by omega
        rcases h4 with h | h | h | h <;> subst h <;> simp [regAt] at hb <;> simp [regsOk, hb.1, hb.2]
      simp [errOp, hk, this]
    refine CW.cut (opI H8 (fun k => !uBit o.kind k || inR (regAt o k) u.regs) q2 q3 r5 r6 7 1 none (4 - (i + 1))) ?_ ?_
    · refine CW.block ?_
      refine CW.walk1 hX mixed d54 rfl ?_
      have h5i : [CV.bool (uBit o.kind 0), .bool (uBit o.kind 1), .bool (uBit o.kind 2), .bool (uBit o.kind 3)][i]? = some (.bool (uBit o.kind i)) := by rcases i with _|_|_|_|i <;> first | rfl | omega
      have h6i : [ci o.dst, ci o.a, ci o.b, ci o.c][i]? = some (ci (regAt o i)) := by rcases i with _|_|_|_|i <;> first | rfl | omega
      generalize [CV.bool (uBit o.kind 0), .bool (uBit o.kind 1), .bool (uBit o.kind 2), .bool (uBit o.kind 3)] = L5 at m5 h5i
      generalize [ci o.dst, ci o.a, ci o.b, ci o.c] = L6 at m6 h6i
      have fin : ∀ (en : Env) (j : Nat), j = 4 - (i + 1) → en 2 = .ptr q2 0 → en 3 = .ptr q3 0 → en 5 = .ref r5 0 4 4 → en 6 = .ref r6 0 4 4 → en 7 = .int .i64 i → (!uBit o.kind i || inR (regAt o i) u.regs) = true → opI H8 (fun k => !uBit o.kind k || inR (regAt o k) u.regs) q2 q3 r5 r6 7 1 none j ⟨en, []⟩ H8 := fun en j hj g2 g3 g5 g6 g7 hb =>
        ⟨i + 1, i, hlt, hj, g2, g3, g5, g6, fun m h => by (cases h), g7, rfl, rfl, rfl, fun k hk => by
          by_cases h : k < i
          · exact hok k h
          · obtain rfl : k = i := by omega
            exact hb⟩
      by_cases hu : uBit o.kind i = true
      · simp [d54, e2, e3, e5, e6, e7, m5, m6, m2, hlt, hlt', h5i, h6i, hu]
        refine (hreg (regAt o i)).k ?_
        rintro x H9 ⟨rfl, rfl⟩
        by_cases hr : inR (regAt o i) u.regs = true
        · simp [hr]
          exact fin _ _ (by omega) (by simp [e2]) (by simp [e3]) (by simp [e5]) (by simp [e6]) (by simp [e7]) (by simp [hr])
        · simp [hr]
          exact ⟨hle, (bad (by simp [hu, hr])).symm⟩
      · simp [d54, e5, e7, m5, hlt, hlt', h5i, hu]
        exact fin _ _ (by omega) (by simp [e2]) (by simp [e3]) (by simp [e5]) (by simp [e6]) (by simp [e7]) (by simp [hu])
    · rintro ⟨en, ds⟩ H9 ⟨i', it, hi', hj', e2, e3, e5, e6, _, e7, hit, rfl, rfl, hok'⟩
      dsimp only at e2 e3 e5 e6 e7
      refine CW.walk1 hX mixed d54 rfl ?_
      simp [e7]
      exact ⟨4 - (i + 1), by omega, i', i', hi', hj', by simp [e2], by simp [e3], by simp [e5], by simp [e6], fun m h => by (cases h), by simp; rw [wrapI (by omega) (by omega)]; omega, rfl, rfl, rfl, hok'⟩
  rintro ⟨en, ds⟩ H8 ⟨e2, e3, e5, e6, _, rfl, rfl, hok⟩
  dsimp only at e2 e3 e5 e6
  have k1 := hok 0 (by omega)
  have k2 := hok 1 (by omega)
  have k3 := hok 2 (by omega)
  have k4 := hok 3 (by omega)
  simp only [regAt, List.getD_cons_zero, List.getD_cons_succ] at k1 k2 k3 k4
  clear hok
  by_cases hg : (decide (o.guard = -1) || inR o.guard u.regs) = true
  rotate_left
  · have hg' : o.guard ≠ -1 ∧ inR o.guard u.regs = false := by simpa using hg
    have he : errOp u o = 2 := by
      have : regsOk u o = false := by simp only [regsOk, hg'.2, hg'.1, decide_false, Bool.or_false, Bool.and_false]
      simp [errOp, hk, this]
    rw [he]
    refine CW.walk hX mixed d54 rfl ?_
    simp [e2, e3, m2, m3, hg'.1]
    refine (hreg o.guard).k ?_
    rintro x H9 ⟨rfl, rfl⟩
    simp [hg'.2]
    exact hle
  have hro : regsOk u o = true := by simp only [regsOk, k1, k2, k3, k4, hg, Bool.and_self]
  refine CW.cut (opE' H8 (fun _ => true) q2 q3 r5 r6 none) ?_ ?_
  · refine CW.walk1 hX mixed d54 rfl ?_
    by_cases hg1 : o.guard = -1
    · simp [e2, e3, m2, m3, hg1]
      exact ⟨by simp [e2], by simp [e3], by simp [e5], by simp [e6], fun m h => by (cases h), rfl, rfl, fun _ _ => rfl⟩
    · have hg2 : inR o.guard u.regs = true := by simpa [hg1] using hg
      simp [e2, e3, m2, m3, hg1]
      refine (hreg o.guard).k ?_
      rintro x H9 ⟨rfl, rfl⟩
      simp [hg2]
      exact ⟨by simp [e2], by simp [e3], by simp [e5], by simp [e6], fun m h => by (cases h), rfl, rfl, fun _ _ => rfl⟩
  clear e2 e3 e5 e6
  rintro ⟨en, ds⟩ H8 ⟨e2, e3, e5, e6, _, rfl, rfl, _⟩
  dsimp only at e2 e3 e5 e6
  refine CW.walk hX mixed d54 rfl ?_
  simp
  refine CW.cut (opE' H8 (fun _ => true) q2 q3 r5 r6 (some (topOf u o.kind))) ?_ ?_
  · refine CW.walk1 hX mixed d54 rfl ?_
    simp [e2, e3, m2, m3]
    refine (isArr_c hX _ _).k ?_
    rintro x H9 ⟨rfl, rfl⟩
    by_cases h5 : uBit o.kind 5 = true
    · simp [b5, h5, e2, m2]
      exact ⟨by simp [e2], by simp [e3], by simp [e5], by simp [e6], fun m h => by simp [topOf, h5] at h ⊢; exact h, rfl, rfl, fun _ _ => rfl⟩
    · simp [b5, h5, e2, e3, m2, m3]
      refine (cell93_c hX _ _).k ?_
      rintro x H9 ⟨rfl, rfl⟩
      by_cases h6 : uBit o.kind 6 = true
      · simp [b6, h6, e2, m2]
        exact ⟨by simp [e2], by simp [e3], by simp [e5], by simp [e6], fun m h => by simp [topOf, h5, h6] at h ⊢; exact h, rfl, rfl, fun _ _ => rfl⟩
      · simp [b6, h6, e2, e3, m2, m3]
        refine ⟨fun hk21 => ?_, fun hk21 => ?_⟩
        · have h7 : uBit o.kind 7 = true := by rw [← b7]; simpa using hk21
          exact ⟨by simp [e2], by simp [e3], by simp [e5], by simp [e6], fun m h => by simp [topOf, h5, h6, h7] at h ⊢; exact h, rfl, rfl, fun _ _ => rfl⟩
        · have h7 : uBit o.kind 7 = false := by rw [← b7]; simpa using hk21
          exact ⟨by simp [e2], by simp [e3], by simp [e5], by simp [e6], fun m h => by simp [topOf, h5, h6, h7] at h ⊢; exact h, rfl, rfl, fun _ _ => rfl⟩
  clear e2 e3 e5 e6
  rintro ⟨en, ds⟩ H8 ⟨e2, e3, e5, e6, e8, rfl, rfl, _⟩
  dsimp only at e2 e3 e5 e6 e8
  have e8 := e8 _ rfl
  by_cases ht : topOk u o = true
  rotate_left
  · have he : errOp u o = 5 := by simp [errOp, hk, hro, ht]
    have ht' : ¬ topOf u o.kind < 0 ∧ (o.n < 0 ∨ topOf u o.kind ≤ o.n) := by
      simp only [topOk, Bool.or_eq_true, Bool.and_eq_true, decide_eq_true_eq, not_or, not_and] at ht
      omega
    rw [he]
    refine CW.walk hX mixed d54 rfl ?_
    have h0 : 0 ≤ topOf u o.kind := by omega
    rcases ht'.2 with h | h
    · simp [e3, e8, m3, h0, h]
      exact hle
    · simp [e3, e8, m3, h0, h]
      exact ⟨fun _ => hle, fun _ => hle⟩
  have ht' : topOf u o.kind < 0 ∨ (0 ≤ o.n ∧ o.n < topOf u o.kind) := by
    simp only [topOk, Bool.or_eq_true, Bool.and_eq_true, decide_eq_true_eq] at ht
    omega
  refine CW.cut (opE' H8 (fun _ => true) q2 q3 r5 r6 none) ?_ ?_
  · refine CW.walk1 hX mixed d54 rfl ?_
    rcases ht' with h | ⟨h, h'⟩
    · have h0 : ¬ 0 ≤ topOf u o.kind := by omega
      simp [e3, e8, m3, h0]
      exact ⟨by simp [e2], by simp [e3], by simp [e5], by simp [e6], fun m h => by (cases h), rfl, rfl, fun _ _ => rfl⟩
    · have h0 : 0 ≤ topOf u o.kind := by omega
      have h1 : ¬ o.n < 0 := by omega
      have h2 : ¬ topOf u o.kind ≤ o.n := by omega
      simp [e3, e8, m3, h0, h1, h2]
      exact ⟨by simp [e2], by simp [e3], by simp [e5], by simp [e6], fun m h => by (cases h), rfl, rfl, fun _ _ => rfl⟩
  clear e2 e3 e5 e6 e8
  rintro ⟨en, ds⟩ H8 ⟨e2, e3, e5, e6, _, rfl, rfl, _⟩
  dsimp only at e2 e3 e5 e6
  refine CW.cut (opE' H8 (fun k => uBit o.kind k || decide (regAt o k = 0)) q2 q3 r5 r6 none) ?_ ?_
  · refine CW.walk hX mixed d54 rfl ?_
    simp
    refine CW.block ?_
    refine CW.loop (opI H8 (fun k => uBit o.kind k || decide (regAt o k = 0)) q2 q3 r5 r6 9 0 none) ?_ (m := 4) ⟨0, 0, by omega, rfl, by simp [e2], by simp [e3], by simp [e5], by simp [e6], fun m h => by (cases h), by simp, rfl, rfl, rfl, fun k hk => absurd hk (by omega)⟩
    clear e2 e3 e5 e6
    rintro j ⟨en, ds⟩ H8 ⟨i, it, hi, rfl, e2, e3, e5, e6, _, e9, hit, rfl, rfl, hok⟩
    obtain rfl : i = it := by omega
    dsimp only at e2 e3 e5 e6 e9
    by_cases hlt : i < 4
    rotate_left
    · refine CW.walk hX mixed d54 rfl ?_
      obtain rfl : i = 4 := by omega
      simp [e9]
      exact ⟨by simp [e2], by simp [e3], by simp [e5], by simp [e6], fun m h => by (cases h), rfl, rfl, hok⟩
    refine CW.walk hX mixed d54 rfl ?_
    have hlt' : (i : Int) < 4 := by omega
    simp [e9, hlt, hlt']
    have bad : uBit o.kind i = false → regAt o i ≠ 0 → errOp u o = 4 := fun hb hr => by
      have : idleB u o = true := by
        have h4 : i = 0 ∨ i = 1 ∨ i = 2 ∨ i = 3 := by omega
        rcases h4 with h | h | h | h <;> subst h <;> simp [regAt] at hr <;> simp [idleB, hb, hr]
      simp [errOp, hk, hro, ht, this]
    refine CW.cut (opI H8 (fun k => uBit o.kind k || decide (regAt o k = 0)) q2 q3 r5 r6 9 1 none (4 - (i + 1))) ?_ ?_
    · refine CW.block ?_
      refine CW.walk1 hX mixed d54 rfl ?_
      have h5i : [CV.bool (uBit o.kind 0), .bool (uBit o.kind 1), .bool (uBit o.kind 2), .bool (uBit o.kind 3)][i]? = some (.bool (uBit o.kind i)) := by rcases i with _|_|_|_|i <;> first | rfl | omega
      have h6i : [ci o.dst, ci o.a, ci o.b, ci o.c][i]? = some (ci (regAt o i)) := by rcases i with _|_|_|_|i <;> first | rfl | omega
      generalize [CV.bool (uBit o.kind 0), .bool (uBit o.kind 1), .bool (uBit o.kind 2), .bool (uBit o.kind 3)] = L5 at m5 h5i
      generalize [ci o.dst, ci o.a, ci o.b, ci o.c] = L6 at m6 h6i
      have fin : ∀ (en : Env) (j : Nat), j = 4 - (i + 1) → en 2 = .ptr q2 0 → en 3 = .ptr q3 0 → en 5 = .ref r5 0 4 4 → en 6 = .ref r6 0 4 4 → en 9 = .int .i64 i → (uBit o.kind i || decide (regAt o i = 0)) = true → opI H8 (fun k => uBit o.kind k || decide (regAt o k = 0)) q2 q3 r5 r6 9 1 none j ⟨en, []⟩ H8 := fun en j hj g2 g3 g5 g6 g7 hb =>
        ⟨i + 1, i, hlt, hj, g2, g3, g5, g6, fun m h => by (cases h), g7, rfl, rfl, rfl, fun k hk => by
          by_cases h : k < i
          · exact hok k h
          · obtain rfl : k = i := by omega
            exact hb⟩
      by_cases hu : uBit o.kind i = true
      · simp [e5, e9, m5, hlt, hlt', h5i, hu]
        exact fin _ _ (by omega) (by simp [e2]) (by simp [e3]) (by simp [e5]) (by simp [e6]) (by simp [e9]) (by simp [hu])
      · by_cases hr : regAt o i = 0
        · simp [e5, e6, e9, m5, m6, hlt, hlt', h5i, h6i, hu, hr]
          exact fin _ _ (by omega) (by simp [e2]) (by simp [e3]) (by simp [e5]) (by simp [e6]) (by simp [e9]) (by simp [hr])
        · simp [e5, e6, e9, m5, m6, hlt, hlt', h5i, h6i, hu, hr]
          exact ⟨hle, (bad (by simpa using hu) hr).symm⟩
    · rintro ⟨en, ds⟩ H9 ⟨i', it, hi', hj', e2, e3, e5, e6, _, e9, hit, rfl, rfl, hok'⟩
      dsimp only at e2 e3 e5 e6 e9
      refine CW.walk1 hX mixed d54 rfl ?_
      simp [e9]
      exact ⟨4 - (i + 1), by omega, i', i', hi', hj', by simp [e2], by simp [e3], by simp [e5], by simp [e6], fun m h => by (cases h), by simp; rw [wrapI (by omega) (by omega)]; omega, rfl, rfl, rfl, hok'⟩
  clear e2 e3 e5 e6
  rintro ⟨en, ds⟩ H8 ⟨e2, e3, e5, e6, _, rfl, rfl, hok⟩
  dsimp only at e2 e3 e5 e6
  have i1 := hok 0 (by omega)
  have i2 := hok 1 (by omega)
  have i3 := hok 2 (by omega)
  have i4 := hok 3 (by omega)
  simp only [regAt, List.getD_cons_zero, List.getD_cons_succ, Bool.or_eq_true, decide_eq_true_eq] at i1 i2 i3 i4
  have htb : decide (topOf u o.kind < 0) = !(uBit o.kind 5 || uBit o.kind 6 || uBit o.kind 7) := by
    simp only [topOf]
    by_cases h5 : uBit o.kind 5 = true
    · simp [h5]
    · by_cases h6 : uBit o.kind 6 = true
      · simp [h5, h6]; omega
      · by_cases h7 : uBit o.kind 7 = true
        · simp [h5, h6, h7]
        · simp [h5, h6, h7]
  have hib : idleB u o = (!hN o.kind && decide (o.n ≠ 0)) := by
    have d1 : (!uBit o.kind 0 && decide (o.dst ≠ 0)) = false := by rcases i1 with h | h <;> simp [h]
    have d2 : (!uBit o.kind 1 && decide (o.a ≠ 0)) = false := by rcases i2 with h | h <;> simp [h]
    have d900003 : (!uBit o.kind 2 && decide (o.b ≠ 0)) = false := by rcases i3 with h | h <;> simp [h]
    have d900004 : (!uBit o.kind 3 && decide (o.c ≠ 0)) = false := by rcases i4 with h | h <;> simp [h]
    simp only [idleB, d1, d2, d900003, d900004, htb, bN, Bool.false_or]
    cases uBit o.kind 4 <;> cases uBit o.kind 5 <;> cases uBit o.kind 6 <;> cases uBit o.kind 7 <;> rfl
  have he : errOp u o = if (!hN o.kind && decide (o.n ≠ 0)) = true then 4 else 0 := by
    simp only [errOp, hk, hro, ht, hib]; rfl
  rw [he]
  refine CW.walk hX mixed d54 rfl ?_
  simp [e3, m3]
  refine (hasN94_c hX _ _).k ?_
  rintro x H9 ⟨rfl, rfl⟩
  by_cases hn : hN o.kind = true
  · simp [hn]
    refine CW.walk1 hX mixed d54 rfl ?_
    simp [hn]
    exact hle
  · by_cases hz : o.n = 0
    · simp [hn, hz, e3, m3]
      refine CW.walk1 hX mixed d54 rfl ?_
      simp [hn, hz]
      exact hle
    · simp [hn, hz, e3, m3]
      exact hle
end Go.Cl
