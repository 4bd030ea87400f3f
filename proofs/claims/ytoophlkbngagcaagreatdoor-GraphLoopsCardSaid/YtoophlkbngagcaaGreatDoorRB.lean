/- DERIVED HERE. The reference's Check: it says what the program's Check says. DERIVED HERE. The reference's small functions on operations and sets; behind, aside. DERIVED HERE. The reference's Live: behind, aside, Before. DERIVED HERE. The reference's Live: Before. DERIVED HERE. The reference's Poisons. DERIVED HERE. The reference's Of: what is live in a unit. DERIVED HERE. The reference's Throws. -/
import Derived.Test.YtoophlkbngagcaaGreatDoorEB
import Derived.Test.YtoophlkbngagcaaGreatDoorLenK
import Derived.Test.YtoophlkbngagcaaGreatDoorPD
import Derived.Test.YtoophlkbngagcaaGreatDoorNM
set_option linter.unusedSimpArgs false
set_option linter.unusedVariables false
namespace Go.Cl
open Go.Proofs Dd
variable {W : World} {G : Nat → CV}
set_option maxRecDepth 8000
set_option maxHeartbeats 4000000
theorem one92_c (hX : CxOk (cx W G)) (k : Int) (H : Hp) : CC Tryz.prog W 86 [ci k] H fun x H' => x = .ret (.bool (isKind k)) ∧ H' = H := by
  refine CC.at0 ?_ H
  refine CC.of_ev hX mixed d86 Tryz.func86 rfl rfl (Nat.le_of_ble_eq_true rfl) d86_ok ?_
  simp [Tryz.f86, d86]
  simp only [isKind]
  repeat' (first | intro _ | apply And.intro)
  all_goals (rw [Bool.eq_iff_iff]; simp; try omega)
def isCell (k : Int) : Bool := decide (k = 18) || decide (k = 19)
theorem cell93_c (hX : CxOk (cx W G)) (k : Int) (H : Hp) : CC Tryz.prog W 88 [ci k] H fun x H' => x = .ret (.bool (isCell k)) ∧ H' = H := by
  refine CC.at0 ?_ H
  refine CC.of_ev hX mixed d88 Tryz.func88 rfl rfl (Nat.le_of_ble_eq_true rfl) d88_ok ?_
  simp [Tryz.f88, d88]
  simp only [isCell]
  repeat' (first | intro _ | apply And.intro)
  all_goals (rw [Bool.eq_iff_iff]; simp; try omega)
def hN (k : Int) : Bool := decide (k = 1) || isArr k || isCell k || decide (k = 21)
theorem hasN94_c (hX : CxOk (cx W G)) (k : Int) (H : Hp) : CC Tryz.prog W 89 [ci k] H fun x H' => x = .ret (.bool (hN k)) ∧ H' = H := by
  refine CC.of_ev hX mixed d89 Tryz.func89 rfl rfl (Nat.le_of_ble_eq_true rfl) d89_ok ?_
  by_cases h1 : k = 1
  · subst h1; simp [Tryz.f89, d89, hN]
  · simp [Tryz.f89, d89, h1]
    refine (isArr_c hX k H).k ?_
    rintro x H' ⟨rfl, rfl⟩
    by_cases h2 : isArr k = true
    · simp [h2, hN]
    · simp [h2]
      refine (cell93_c hX k _).k ?_
      rintro x H' ⟨rfl, rfl⟩
      by_cases h3 : isCell k = true
      · simp [h3, hN]
      · simp [h3, hN, h1, h2, decide_beq]
def hD (k : Int) : Bool := decide (k ≠ 17) && decide (k ≠ 19) && decide (k ≠ 20) && decide (k ≠ 21) && decide (k ≠ 22)
theorem hasDst64_c (hX : CxOk (cx W G)) (k : Int) (H : Hp) : CC Tryz.prog W 51 [ci k] H fun x H' => x = .ret (.bool (hD k)) ∧ H' = H := by
  refine CC.at0 ?_ H
  refine CC.of_ev hX mixed d51 Tryz.func51 rfl rfl (Nat.le_of_ble_eq_true rfl) d51_ok ?_
  simp [Tryz.f51, d51]
  simp only [hD]
  repeat' (first | intro _ | apply And.intro)
  all_goals (rw [Bool.eq_iff_iff]; simp; try omega)
theorem has_bits2 {k : Int} (h : isKind k = true) : hD k = uBit k 0 ∧ hN k = (uBit k 4 || uBit k 5 || uBit k 6 || uBit k 7) ∧ isArr k = uBit k 5 ∧ isCell k = uBit k 6 ∧ decide (k = 21) = uBit k 7 := by
  simp only [isKind, Bool.and_eq_true, decide_eq_true_eq] at h
  have kinds : k = 1 ∨ k = 2 ∨ k = 3 ∨ k = 4 ∨ k = 5 ∨ k = 6 ∨ k = 7 ∨ k = 8 ∨ k = 9 ∨ k = 10 ∨ k = 11 ∨ k = 12 ∨ k = 13 ∨ k = 14 ∨ k = 15 ∨ k = 16 ∨ k = 17 ∨ k = 18 ∨ k = 19 ∨ k = 20 ∨ k = 21 ∨ k = 22 ∨ k = 23 ∨ k = 24 ∨ k = 25 := by omega
  rcases kinds with k | k | k | k | k | k | k | k | k | k | k | k | k | k | k | k | k | k | k | k | k | k | k | k | k <;> subst k <;> exact ⟨rfl, rfl, rfl, rfl, rfl⟩
theorem reg58_c (hX : CxOk (cx W G)) (u : UUnit) (r : Int) (H : Hp) : CC Tryz.prog W 62 [.agg (unitC u), ci r] H fun x H' => x = .ret (.bool (inR r u.regs)) ∧ H' = H := by
  refine CC.shrink ?_
  refine CC.of_ev hX mixed d62 Tryz.func62 rfl rfl (Nat.le_of_ble_eq_true rfl) d62_ok ?_
  simp [Tryz.f62, d62, unitC]
  intro q hq
  have hle : Le H (H.set q (.cells (unitC u))) := Le.set_new hq
  simp only [unitC] at hle
  by_cases h : 0 ≤ r
  · simp [h, inR, hle]; omega
  · simp [h, inR, hle]
theorem there95_c (hX : CxOk (cx W G)) (u : UUnit) (r : Int) (H : Hp) : CC Tryz.prog W 90 [.agg (unitC u), ci r] H fun x H' => x = .ret (.bool (inR r u.blocks.length)) ∧ H' = H := by
  refine CC.shrink ?_
  refine CC.of_ev hX mixed d90 Tryz.func90 rfl rfl (Nat.le_of_ble_eq_true rfl) d90_ok ?_
  simp [Tryz.f90, d90, unitC]
  intro q hq
  have hle : Le H (H.set q (.cells (unitC u))) := Le.set_new hq
  simp only [unitC] at hle
  by_cases h : 0 ≤ r
  · simp [h, inR, hle]; omega
  · simp [h, inR, hle]
theorem end60_c (hX : CxOk (cx W G)) (u : UUnit) (e : UEnd) (H : Hp) : CC Tryz.prog W 64 [.agg (unitC u), .agg (endC e)] H fun x H' => x = .ret (ci (errEnd u e)) ∧ H' = H := by
  refine CC.shrink ?_
  refine CC.of_cw hX Tryz.func64 rfl rfl (Nat.le_of_ble_eq_true rfl) ?_
  refine CW.walk hX mixed d64 rfl ?_
  simp [unitC, endC]
  intro q2 n2 q3 p1 p2 n3
  generalize hH1 : Hp.set _ q3 _ = H1
  have hle : Le H H1 := by rw [← hH1]; exact (Le.set_new n2).trans (Le.set_new (by rw [hset_ne p1]; exact n3))
  have m3 : H1 q3 = some (.cells (endC e)) := by rw [← hH1]; exact set_at
  have m2 : H1 q2 = some (.cells (unitC u)) := by rw [← hH1]; simp [Hp.set, p2, unitC]
  clear hH1
  simp only [endC] at m3
  simp only [unitC] at m2
  have hreg := reg58_c hX u e.a H1
  have hto := there95_c hX u e.to H1
  have hels := there95_c hX u e.els H1
  simp only [unitC] at hreg hto hels
  by_cases hk : 1 ≤ e.kind ∧ e.kind ≤ 4
  rotate_left
  · have he : errEnd u e = 4 := by
      have : (decide (1 ≤ e.kind) && decide (e.kind ≤ 4)) = false := by simp; omega
      simp only [errEnd, this]; rfl
    rw [he]
    refine CW.walk hX mixed d64 rfl ?_
    simp [m3]
    exact ⟨fun _ => hle, fun q1 => ⟨fun _ => hle, fun q2 => absurd ⟨q1, q2⟩ hk⟩⟩
  have hkk : e.kind = 1 ∨ e.kind = 2 ∨ e.kind = 3 ∨ e.kind = 4 := by omega
  rcases hkk with k | k | k | k
  · refine CW.walk hX mixed d64 rfl ?_
    simp [m3, k]
    refine CW.walk hX mixed d64 rfl ?_
    simp [m3, m2, k]
    refine (endA_c hX _ _).k ?_
    rintro x H2 ⟨rfl, rfl⟩
    simp
    refine CW.walk hX mixed d64 rfl ?_
    simp [m3, m2, k]
    refine (endTo_c hX _ _).k ?_
    rintro x H3 ⟨rfl, rfl⟩
    simp [m2, m3]
    refine hto.k ?_
    rintro x H4 ⟨rfl, rfl⟩
    by_cases ht : inR e.to u.blocks.length = true
    rotate_left
    · simp [ht, errEnd, k, goes]
      exact hle
    simp [ht, m3, k]
    refine (endElse_c hX _ _).k ?_
    rintro x H5 ⟨rfl, rfl⟩
    simp
    refine CW.walk hX mixed d64 rfl ?_
    simp [m3, m2, k]
    refine (endA_c hX _ _).k ?_
    rintro x H6 ⟨rfl, rfl⟩
    by_cases ha : e.a = 0
    rotate_left
    · simp [m3, ha, errEnd, k, goes, branches, ht]
      exact hle
    simp [m3, ha, k]
    refine (endTo_c hX _ _).k ?_
    rintro x H7 ⟨rfl, rfl⟩
    simp [m3, k]
    refine (endElse_c hX _ _).k ?_
    rintro x H8 ⟨rfl, rfl⟩
    by_cases hl : e.els = 0
    · simp [m3, hl]
      refine CW.walk1 hX mixed d64 rfl ?_
      simp [errEnd, k, goes, branches, ht, ha, hl]
      exact hle
    · simp [m3, hl, errEnd, k, goes, branches, ht, ha]
      exact hle
  · refine CW.walk hX mixed d64 rfl ?_
    simp [m3, k]
    refine CW.walk hX mixed d64 rfl ?_
    simp [m3, m2, k]
    refine (endA_c hX _ _).k ?_
    rintro x H2 ⟨rfl, rfl⟩
    simp [m2, m3]
    refine hreg.k ?_
    rintro x H2 ⟨rfl, rfl⟩
    by_cases hr : inR e.a u.regs = true
    rotate_left
    · simp [hr, errEnd, k]
      exact hle
    simp [hr]
    refine CW.walk hX mixed d64 rfl ?_
    simp [m3, m2, k]
    refine (endTo_c hX _ _).k ?_
    rintro x H3 ⟨rfl, rfl⟩
    simp [m2, m3]
    refine hto.k ?_
    rintro x H4 ⟨rfl, rfl⟩
    by_cases ht : inR e.to u.blocks.length = true
    rotate_left
    · simp [ht, errEnd, k, goes, hr]
      exact hle
    simp [ht, m3, k]
    refine (endElse_c hX _ _).k ?_
    rintro x H5 ⟨rfl, rfl⟩
    simp [m2, m3]
    refine hels.k ?_
    rintro x H5 ⟨rfl, rfl⟩
    by_cases hel : inR e.els u.blocks.length = true
    rotate_left
    · simp [hel, errEnd, k, goes, branches, hr, ht]
      exact hle
    simp [hel]
    refine CW.walk hX mixed d64 rfl ?_
    simp [m3, m2, k]
    refine (endA_c hX _ _).k ?_
    rintro x H6 ⟨rfl, rfl⟩
    simp [m3, k]
    refine (endTo_c hX _ _).k ?_
    rintro x H7 ⟨rfl, rfl⟩
    simp [m3, k]
    refine (endElse_c hX _ _).k ?_
    rintro x H8 ⟨rfl, rfl⟩
    simp
    refine CW.walk1 hX mixed d64 rfl ?_
    simp [errEnd, k, goes, branches, ht, hr, hel]
    exact hle
  · refine CW.walk hX mixed d64 rfl ?_
    simp [m3, k]
    refine CW.walk hX mixed d64 rfl ?_
    simp [m3, m2, k]
    refine (endA_c hX _ _).k ?_
    rintro x H2 ⟨rfl, rfl⟩
    simp [m2, m3]
    refine hreg.k ?_
    rintro x H2 ⟨rfl, rfl⟩
    by_cases hr : inR e.a u.regs = true
    rotate_left
    · simp [hr, errEnd, k]
      exact hle
    simp [hr]
    refine CW.walk hX mixed d64 rfl ?_
    simp [m3, m2, k]
    refine (endTo_c hX _ _).k ?_
    rintro x H3 ⟨rfl, rfl⟩
    simp [m2, m3, k]
    refine (endElse_c hX _ _).k ?_
    rintro x H5 ⟨rfl, rfl⟩
    simp [m2, m3]
    refine CW.walk hX mixed d64 rfl ?_
    simp [m3, m2, k]
    refine (endA_c hX _ _).k ?_
    rintro x H6 ⟨rfl, rfl⟩
    simp [m3, k]
    refine (endTo_c hX _ _).k ?_
    rintro x H7 ⟨rfl, rfl⟩
    by_cases ht : e.to = 0
    rotate_left
    · simp [m3, ht, errEnd, k, goes, branches, hr]
      exact hle
    simp [m3, k, ht]
    refine (endElse_c hX _ _).k ?_
    rintro x H8 ⟨rfl, rfl⟩
    by_cases hl : e.els = 0
    · simp [m3, hl]
      refine CW.walk1 hX mixed d64 rfl ?_
      simp [errEnd, k, goes, branches, ht, hr, hl]
      exact hle
    · simp [m3, hl, errEnd, k, goes, branches, ht, hr]
      exact hle
  · refine CW.walk hX mixed d64 rfl ?_
    simp [m3, k]
    refine CW.walk hX mixed d64 rfl ?_
    simp [m3, m2, k]
    refine (endA_c hX _ _).k ?_
    rintro x H2 ⟨rfl, rfl⟩
    simp [m2, m3]
    refine hreg.k ?_
    rintro x H2 ⟨rfl, rfl⟩
    by_cases hr : inR e.a u.regs = true
    rotate_left
    · simp [hr, errEnd, k]
      exact hle
    simp [hr]
    refine CW.walk hX mixed d64 rfl ?_
    simp [m3, m2, k]
    refine (endTo_c hX _ _).k ?_
    rintro x H3 ⟨rfl, rfl⟩
    simp [m2, m3, k]
    refine (endElse_c hX _ _).k ?_
    rintro x H5 ⟨rfl, rfl⟩
    simp [m2, m3]
    refine CW.walk hX mixed d64 rfl ?_
    simp [m3, m2, k]
    refine (endA_c hX _ _).k ?_
    rintro x H6 ⟨rfl, rfl⟩
    simp [m3, k]
    refine (endTo_c hX _ _).k ?_
    rintro x H7 ⟨rfl, rfl⟩
    by_cases ht : e.to = 0
    rotate_left
    · simp [m3, ht, errEnd, k, goes, branches, hr]
      exact hle
    simp [m3, k, ht]
    refine (endElse_c hX _ _).k ?_
    rintro x H8 ⟨rfl, rfl⟩
    by_cases hl : e.els = 0
    · simp [m3, hl]
      refine CW.walk1 hX mixed d64 rfl ?_
      simp [errEnd, k, goes, branches, ht, hr, hl]
      exact hle
    · simp [m3, hl, errEnd, k, goes, branches, ht, hr]
      exact hle
def regAt (o : UOp) (i : Nat) : Int := [o.dst, o.a, o.b, o.c].getD i 0
/-- The loops of op: round i, nothing found so far. -/
structure opI (H2 : Hp) (okf : Nat → Bool) (q2 q3 : Nat) (r5 r6 t d : Nat) (mt : Option Int) (j : Nat) (s' : CA) (H' : Hp) : Prop where
  ex : ∃ i it : Nat, i ≤ 4 ∧ j = 4 - i ∧ s'.env 2 = .ptr q2 0 ∧ s'.env 3 = .ptr q3 0 ∧ s'.env 5 = .ref r5 0 4 4 ∧ s'.env 6 = .ref r6 0 4 4 ∧ (∀ m, mt = some m → s'.env 8 = ci m) ∧ s'.env t = .int .i64 it ∧ it + d = i ∧ s'.ds = [] ∧ H' = H2 ∧ ∀ k, k < i → okf k = true
structure opE' (H2 : Hp) (okf : Nat → Bool) (q2 q3 : Nat) (r5 r6 : Nat) (mt : Option Int) (s' : CA) (H' : Hp) : Prop where
  ex : s'.env 2 = .ptr q2 0 ∧ s'.env 3 = .ptr q3 0 ∧ s'.env 5 = .ref r5 0 4 4 ∧ s'.env 6 = .ref r6 0 4 4 ∧ (∀ m, mt = some m → s'.env 8 = ci m) ∧ s'.ds = [] ∧ H' = H2 ∧ ∀ k, k < 4 → okf k = true
theorem op59_c (hX : CxOk (cx W G)) (u : UUnit) (hs : 0 ≤ u.spill) (o : UOp) (H : Hp) : CC Tryz.prog W 63 [.agg (unitC u), .agg (opC o)] H fun x H' => x = .ret (ci (errOp u o)) ∧ H' = H := by
  refine CC.shrink ?_
  refine CC.of_cw hX Tryz.func63 rfl rfl (Nat.le_of_ble_eq_true rfl) ?_
  refine CW.walk hX mixed d63 rfl ?_
  simp [unitC, opC]
  intro q2 n2 q3 p1 p2 n3
  generalize hH1 : Hp.set _ q3 _ = H1
  have hle : Le H H1 := by rw [← hH1]; exact (Le.set_new n2).trans (Le.set_new (by rw [hset_ne p1]; exact n3))
  have m3 : H1 q3 = some (.cells (opC o)) := by rw [← hH1]; exact set_at
  have m2 : H1 q2 = some (.cells (unitC u)) := by rw [← hH1]; simp [Hp.set, p2, unitC]
  clear hH1
  simp only [opC] at m3
  simp only [unitC] at m2
  by_cases hk : isKind o.kind = true
  rotate_left
  · have hk : isKind o.kind = false := by simpa using hk
    refine CW.walk hX mixed d63 rfl ?_
    simp [m3]
    refine (one92_c hX _ _).k ?_
    rintro x H2 ⟨rfl, rfl⟩
    simp [hk, errOp]
    exact hle
  refine CW.walk hX mixed d63 rfl ?_
  simp [m3]
  refine (one92_c hX _ _).k ?_
  rintro x H2 ⟨rfl, rfl⟩
  simp [hk]
  obtain ⟨b0, bN, b5, b6, b7⟩ := has_bits2 hk
  obtain ⟨b1, b2, b3⟩ := has_bits hk
  refine CW.walk hX mixed d63 rfl ?_
  simp [d63, m3]
  refine (hasDst64_c hX _ _).k ?_
  rintro x H3 ⟨rfl, rfl⟩
  simp [m3]
  refine ⟨⟨stabI_le rfl (Le.refl _), stabI_le rfl (Le.refl _), stabI_le rfl (Le.refl _)⟩, ?_⟩
  refine (hasA_c hX _ _).k ?_
  rintro x H4 ⟨rfl, rfl⟩
  simp [m3]
  refine ⟨⟨stabI_le rfl (Le.refl _), stabI_le rfl (Le.refl _)⟩, ?_⟩
  refine (hasB_c hX _ _).k ?_
  rintro x H5 ⟨rfl, rfl⟩
  simp [m3]
  refine ⟨stabI_le rfl (Le.refl _), ?_⟩
  refine (hasC_c hX _ _).k ?_
  rintro x H6 ⟨rfl, rfl⟩
  simp [cfill, b0, b1, b2, b3]
  intro r5 n5
  have nq5 : ∀ {q o}, H6 q = some o → q ≠ r5 := fun h k => by rw [k, n5] at h; cases h
  refine CW.walk hX mixed d63 rfl ?_
  simp [m3, nq5 m3, cfill]
  intro r6 p3 p4 n6
  generalize hH7 : Hp.set _ r6 _ = H7
  have hle7 : Le H6 H7 := by rw [← hH7]; exact (Le.set_new n5).trans (Le.set_new (by rw [hset_ne p3]; exact n6))
  have m5 : H7 r5 = some (.cells [.bool (uBit o.kind 0), .bool (uBit o.kind 1), .bool (uBit o.kind 2), .bool (uBit o.kind 3)]) := by rw [← hH7]; simp [Hp.set, p4]
  have m6 : H7 r6 = some (.cells [ci o.dst, ci o.a, ci o.b, ci o.c]) := by rw [← hH7]; exact set_at
  clear hH7
  have m3 := hle7 _ _ m3
  have m2 := hle7 _ _ m2
  have hle := hle.trans hle7
  clear n5 n6 nq5 p3 p4
  have hreg : ∀ r, CC Tryz.prog W 62 [.agg (unitC u), ci r] H7 _ := fun r => reg58_c hX u r H7
  simp only [unitC] at hreg
  refine CW.cut (opE' H7 (fun k => !uBit o.kind k || inR (regAt o k) u.regs) q2 q3 r5 r6 none) ?_ ?_
  · refine CW.walk hX mixed d63 rfl ?_
    simp
    refine CW.block ?_
    refine CW.loop (opI H7 (fun k => !uBit o.kind k || inR (regAt o k) u.regs) q2 q3 r5 r6 7 0 none) ?_ (m := 4) ⟨0, 0, by omega, rfl, by simp, by simp, by simp, by simp, fun m h => by (cases h), by simp, rfl, rfl, rfl, fun k hk => absurd hk (by omega)⟩
    rintro j ⟨en, ds⟩ H8 ⟨i, it, hi, rfl, e2, e3, e5, e6, _, e7, hit, rfl, rfl, hok⟩
    obtain rfl : i = it := by omega
    dsimp only at e2 e3 e5 e6 e7
    by_cases hlt : i < 4
    rotate_left
    · refine CW.walk hX mixed d63 rfl ?_
      obtain rfl : i = 4 := by omega
      simp [e7]
      exact ⟨by simp [e2], by simp [e3], by simp [e5], by simp [e6], fun m h => by (cases h), rfl, rfl, hok⟩
    refine CW.walk hX mixed d63 rfl ?_
    have hlt' : (i : Int) < 4 := by omega
    simp [e7, hlt, hlt']
    have bad : (!uBit o.kind i || inR (regAt o i) u.regs) = false → errOp u o = 2 := fun hb => by
      have : regsOk u o = false := by
        simp only [Bool.or_eq_false_iff, Bool.not_eq_false'] at hb
        have h4 : i = 0 ∨ i = 1 ∨ i = 2 ∨ i = 3 := by omega
        rcases h4 with h | h | h | h <;> subst h <;> simp [regAt] at hb <;> simp [regsOk, hb.1, hb.2]
      simp [errOp, hk, this]
    refine CW.cut (opI H8 (fun k => !uBit o.kind k || inR (regAt o k) u.regs) q2 q3 r5 r6 7 1 none (4 - (i + 1))) ?_ ?_
    · refine CW.block ?_
      refine CW.walk1 hX mixed d63 rfl ?_
      have h5i : [CV.bool (uBit o.kind 0), .bool (uBit o.kind 1), .bool (uBit o.kind 2), .bool (uBit o.kind 3)][i]? = some (.bool (uBit o.kind i)) := by rcases i with _|_|_|_|i <;> first | rfl | omega
      have h6i : [ci o.dst, ci o.a, ci o.b, ci o.c][i]? = some (ci (regAt o i)) := by rcases i with _|_|_|_|i <;> first | rfl | omega
      generalize [CV.bool (uBit o.kind 0), .bool (uBit o.kind 1), .bool (uBit o.kind 2), .bool (uBit o.kind 3)] = L5 at m5 h5i
      generalize [ci o.dst, ci o.a, ci o.b, ci o.c] = L6 at m6 h6i
      have fin : ∀ (en : Env) (j : Nat), j = 4 - (i + 1) → en 2 = .ptr q2 0 → en 3 = .ptr q3 0 → en 5 = .ref r5 0 4 4 → en 6 = .ref r6 0 4 4 → en 7 = .int .i64 i → (!uBit o.kind i || inR (regAt o i) u.regs) = true → opI H8 (fun k => !uBit o.kind k || inR (regAt o k) u.regs) q2 q3 r5 r6 7 1 none j ⟨en, []⟩ H8 := fun en j hj g2 g3 g5 g6 g7 hb =>
        ⟨i + 1, i, hlt, hj, g2, g3, g5, g6, fun m h => by (cases h), g7, rfl, rfl, rfl, fun k hk => by
          by_cases h : k < i
          · exact hok k h
          · obtain rfl : k = i := by omega
            exact hb⟩
      by_cases hu : uBit o.kind i = true
      · simp [d63, e2, e3, e5, e6, e7, m5, m6, m2, hlt, hlt', h5i, h6i, hu]
        refine (hreg (regAt o i)).k ?_
        rintro x H9 ⟨rfl, rfl⟩
        by_cases hr : inR (regAt o i) u.regs = true
        · simp [hr]
          exact fin _ _ (by omega) (by simp [e2]) (by simp [e3]) (by simp [e5]) (by simp [e6]) (by simp [e7]) (by simp [hr])
        · simp [hr]
          exact ⟨hle, (bad (by simp [hu, hr])).symm⟩
      · simp [d63, e5, e7, m5, hlt, hlt', h5i, hu]
        exact fin _ _ (by omega) (by simp [e2]) (by simp [e3]) (by simp [e5]) (by simp [e6]) (by simp [e7]) (by simp [hu])
    · rintro ⟨en, ds⟩ H9 ⟨i', it, hi', hj', e2, e3, e5, e6, _, e7, hit, rfl, rfl, hok'⟩
      dsimp only at e2 e3 e5 e6 e7
      refine CW.walk1 hX mixed d63 rfl ?_
      simp [e7]
      exact ⟨4 - (i + 1), by omega, i', i', hi', hj', by simp [e2], by simp [e3], by simp [e5], by simp [e6], fun m h => by (cases h), by simp; rw [wrapI (by omega) (by omega)]; omega, rfl, rfl, rfl, hok'⟩
  rintro ⟨en, ds⟩ H8 ⟨e2, e3, e5, e6, _, rfl, rfl, hok⟩
  dsimp only at e2 e3 e5 e6
  have k1 := hok 0 (by omega)
  have k2 := hok 1 (by omega)
  have k3 := hok 2 (by omega)
  have k4 := hok 3 (by omega)
  simp only [regAt, List.getD_cons_zero, List.getD_cons_succ] at k1 k2 k3 k4
  clear hok
  by_cases hg : (decide (o.guard = -1) || inR o.guard u.regs) = true
  rotate_left
  · have hg' : o.guard ≠ -1 ∧ inR o.guard u.regs = false := by simpa using hg
    have he : errOp u o = 2 := by
      have : regsOk u o = false := by simp only [regsOk, hg'.2, hg'.1, decide_false, Bool.or_false, Bool.and_false]
      simp [errOp, hk, this]
    rw [he]
    refine CW.walk hX mixed d63 rfl ?_
    simp [e2, e3, m2, m3, hg'.1]
    refine (hreg o.guard).k ?_
    rintro x H9 ⟨rfl, rfl⟩
    simp [hg'.2]
    exact hle
  have hro : regsOk u o = true := by simp only [regsOk, k1, k2, k3, k4, hg, Bool.and_self]
  refine CW.cut (opE' H8 (fun _ => true) q2 q3 r5 r6 none) ?_ ?_
  · refine CW.walk1 hX mixed d63 rfl ?_
    by_cases hg1 : o.guard = -1
    · simp [e2, e3, m2, m3, hg1]
      exact ⟨by simp [e2], by simp [e3], by simp [e5], by simp [e6], fun m h => by (cases h), rfl, rfl, fun _ _ => rfl⟩
    · have hg2 : inR o.guard u.regs = true := by simpa [hg1] using hg
      simp [e2, e3, m2, m3, hg1]
      refine (hreg o.guard).k ?_
      rintro x H9 ⟨rfl, rfl⟩
      simp [hg2]
      exact ⟨by simp [e2], by simp [e3], by simp [e5], by simp [e6], fun m h => by (cases h), rfl, rfl, fun _ _ => rfl⟩
  clear e2 e3 e5 e6
  rintro ⟨en, ds⟩ H8 ⟨e2, e3, e5, e6, _, rfl, rfl, _⟩
  dsimp only at e2 e3 e5 e6
  refine CW.walk hX mixed d63 rfl ?_
  simp
  refine CW.cut (opE' H8 (fun _ => true) q2 q3 r5 r6 (some (topOf u o.kind))) ?_ ?_
  · refine CW.walk1 hX mixed d63 rfl ?_
    simp [e2, e3, m2, m3]
    refine (isArr_c hX _ _).k ?_
    rintro x H9 ⟨rfl, rfl⟩
    by_cases h5 : uBit o.kind 5 = true
    · simp [b5, h5, e2, m2]
      exact ⟨by simp [e2], by simp [e3], by simp [e5], by simp [e6], fun m h => by simp [topOf, h5] at h ⊢; exact h, rfl, rfl, fun _ _ => rfl⟩
    · simp [b5, h5, e2, e3, m2, m3]
      refine (cell93_c hX _ _).k ?_
      rintro x H9 ⟨rfl, rfl⟩
      by_cases h6 : uBit o.kind 6 = true
      · simp [b6, h6, e2, m2]
        exact ⟨by simp [e2], by simp [e3], by simp [e5], by simp [e6], fun m h => by simp [topOf, h5, h6] at h ⊢; exact h, rfl, rfl, fun _ _ => rfl⟩
      · simp [b6, h6, e2, e3, m2, m3]
        refine ⟨fun hk21 => ?_, fun hk21 => ?_⟩
        · have h7 : uBit o.kind 7 = true := by rw [← b7]; simpa using hk21
          exact ⟨by simp [e2], by simp [e3], by simp [e5], by simp [e6], fun m h => by simp [topOf, h5, h6, h7] at h ⊢; exact h, rfl, rfl, fun _ _ => rfl⟩
        · have h7 : uBit o.kind 7 = false := by rw [← b7]; simpa using hk21
          exact ⟨by simp [e2], by simp [e3], by simp [e5], by simp [e6], fun m h => by simp [topOf, h5, h6, h7] at h ⊢; exact h, rfl, rfl, fun _ _ => rfl⟩
  clear e2 e3 e5 e6
  rintro ⟨en, ds⟩ H8 ⟨e2, e3, e5, e6, e8, rfl, rfl, _⟩
  dsimp only at e2 e3 e5 e6 e8
  have e8 := e8 _ rfl
  by_cases ht : topOk u o = true
  rotate_left
  · have he : errOp u o = 5 := by simp [errOp, hk, hro, ht]
    have ht' : ¬ topOf u o.kind < 0 ∧ (o.n < 0 ∨ topOf u o.kind ≤ o.n) := by
      simp only [topOk, Bool.or_eq_true, Bool.and_eq_true, decide_eq_true_eq, not_or, not_and] at ht
      omega
    rw [he]
    refine CW.walk hX mixed d63 rfl ?_
    have h0 : 0 ≤ topOf u o.kind := by omega
    rcases ht'.2 with h | h
    · simp [e3, e8, m3, h0, h]
      exact hle
    · simp [e3, e8, m3, h0, h]
      exact ⟨fun _ => hle, fun _ => hle⟩
  have ht' : topOf u o.kind < 0 ∨ (0 ≤ o.n ∧ o.n < topOf u o.kind) := by
    simp only [topOk, Bool.or_eq_true, Bool.and_eq_true, decide_eq_true_eq] at ht
    omega
  refine CW.cut (opE' H8 (fun _ => true) q2 q3 r5 r6 none) ?_ ?_
  · refine CW.walk1 hX mixed d63 rfl ?_
    rcases ht' with h | ⟨h, h'⟩
    · have h0 : ¬ 0 ≤ topOf u o.kind := by omega
      simp [e3, e8, m3, h0]
      exact ⟨by simp [e2], by simp [e3], by simp [e5], by simp [e6], fun m h => by (cases h), rfl, rfl, fun _ _ => rfl⟩
    · have h0 : 0 ≤ topOf u o.kind := by omega
      have h1 : ¬ o.n < 0 := by omega
      have h2 : ¬ topOf u o.kind ≤ o.n := by omega
      simp [e3, e8, m3, h0, h1, h2]
      exact ⟨by simp [e2], by simp [e3], by simp [e5], by simp [e6], fun m h => by (cases h), rfl, rfl, fun _ _ => rfl⟩
  clear e2 e3 e5 e6 e8
  rintro ⟨en, ds⟩ H8 ⟨e2, e3, e5, e6, _, rfl, rfl, _⟩
  dsimp only at e2 e3 e5 e6
  refine CW.cut (opE' H8 (fun k => uBit o.kind k || decide (regAt o k = 0)) q2 q3 r5 r6 none) ?_ ?_
  · refine CW.walk hX mixed d63 rfl ?_
    simp
    refine CW.block ?_
    refine CW.loop (opI H8 (fun k => uBit o.kind k || decide (regAt o k = 0)) q2 q3 r5 r6 9 0 none) ?_ (m := 4) ⟨0, 0, by omega, rfl, by simp [e2], by simp [e3], by simp [e5], by simp [e6], fun m h => by (cases h), by simp, rfl, rfl, rfl, fun k hk => absurd hk (by omega)⟩
    clear e2 e3 e5 e6
    rintro j ⟨en, ds⟩ H8 ⟨i, it, hi, rfl, e2, e3, e5, e6, _, e9, hit, rfl, rfl, hok⟩
    obtain rfl : i = it := by omega
    dsimp only at e2 e3 e5 e6 e9
    by_cases hlt : i < 4
    rotate_left
    · refine CW.walk hX mixed d63 rfl ?_
      obtain rfl : i = 4 := by omega
      simp [e9]
      exact ⟨by simp [e2], by simp [e3], by simp [e5], by simp [e6], fun m h => by (cases h), rfl, rfl, hok⟩
    refine CW.walk hX mixed d63 rfl ?_
    have hlt' : (i : Int) < 4 := by omega
    simp [e9, hlt, hlt']
    have bad : uBit o.kind i = false → regAt o i ≠ 0 → errOp u o = 4 := fun hb hr => by
      have : idleB u o = true := by
        have h4 : i = 0 ∨ i = 1 ∨ i = 2 ∨ i = 3 := by omega
        rcases h4 with h | h | h | h <;> subst h <;> simp [regAt] at hr <;> simp [idleB, hb, hr]
      simp [errOp, hk, hro, ht, this]
    refine CW.cut (opI H8 (fun k => uBit o.kind k || decide (regAt o k = 0)) q2 q3 r5 r6 9 1 none (4 - (i + 1))) ?_ ?_
    · refine CW.block ?_
      refine CW.walk1 hX mixed d63 rfl ?_
      have h5i : [CV.bool (uBit o.kind 0), .bool (uBit o.kind 1), .bool (uBit o.kind 2), .bool (uBit o.kind 3)][i]? = some (.bool (uBit o.kind i)) := by rcases i with _|_|_|_|i <;> first | rfl | omega
      have h6i : [ci o.dst, ci o.a, ci o.b, ci o.c][i]? = some (ci (regAt o i)) := by rcases i with _|_|_|_|i <;> first | rfl | omega
      generalize [CV.bool (uBit o.kind 0), .bool (uBit o.kind 1), .bool (uBit o.kind 2), .bool (uBit o.kind 3)] = L5 at m5 h5i
      generalize [ci o.dst, ci o.a, ci o.b, ci o.c] = L6 at m6 h6i
      have fin : ∀ (en : Env) (j : Nat), j = 4 - (i + 1) → en 2 = .ptr q2 0 → en 3 = .ptr q3 0 → en 5 = .ref r5 0 4 4 → en 6 = .ref r6 0 4 4 → en 9 = .int .i64 i → (uBit o.kind i || decide (regAt o i = 0)) = true → opI H8 (fun k => uBit o.kind k || decide (regAt o k = 0)) q2 q3 r5 r6 9 1 none j ⟨en, []⟩ H8 := fun en j hj g2 g3 g5 g6 g7 hb =>
        ⟨i + 1, i, hlt, hj, g2, g3, g5, g6, fun m h => by (cases h), g7, rfl, rfl, rfl, fun k hk => by
          by_cases h : k < i
          · exact hok k h
          · obtain rfl : k = i := by omega
            exact hb⟩
      by_cases hu : uBit o.kind i = true
      · simp [e5, e9, m5, hlt, hlt', h5i, hu]
        exact fin _ _ (by omega) (by simp [e2]) (by simp [e3]) (by simp [e5]) (by simp [e6]) (by simp [e9]) (by simp [hu])
      · by_cases hr : regAt o i = 0
        · simp [e5, e6, e9, m5, m6, hlt, hlt', h5i, h6i, hu, hr]
          exact fin _ _ (by omega) (by simp [e2]) (by simp [e3]) (by simp [e5]) (by simp [e6]) (by simp [e9]) (by simp [hr])
        · simp [e5, e6, e9, m5, m6, hlt, hlt', h5i, h6i, hu, hr]
          exact ⟨hle, (bad (by simpa using hu) hr).symm⟩
    · rintro ⟨en, ds⟩ H9 ⟨i', it, hi', hj', e2, e3, e5, e6, _, e9, hit, rfl, rfl, hok'⟩
      dsimp only at e2 e3 e5 e6 e9
      refine CW.walk1 hX mixed d63 rfl ?_
      simp [e9]
      exact ⟨4 - (i + 1), by omega, i', i', hi', hj', by simp [e2], by simp [e3], by simp [e5], by simp [e6], fun m h => by (cases h), by simp; rw [wrapI (by omega) (by omega)]; omega, rfl, rfl, rfl, hok'⟩
  clear e2 e3 e5 e6
  rintro ⟨en, ds⟩ H8 ⟨e2, e3, e5, e6, _, rfl, rfl, hok⟩
  dsimp only at e2 e3 e5 e6
  have i1 := hok 0 (by omega)
  have i2 := hok 1 (by omega)
  have i3 := hok 2 (by omega)
  have i4 := hok 3 (by omega)
  simp only [regAt, List.getD_cons_zero, List.getD_cons_succ, Bool.or_eq_true, decide_eq_true_eq] at i1 i2 i3 i4
  have htb : decide (topOf u o.kind < 0) = !(uBit o.kind 5 || uBit o.kind 6 || uBit o.kind 7) := by
    simp only [topOf]
    by_cases h5 : uBit o.kind 5 = true
    · simp [h5]
    · by_cases h6 : uBit o.kind 6 = true
      · simp [h5, h6]; omega
      · by_cases h7 : uBit o.kind 7 = true
        · simp [h5, h6, h7]
        · simp [h5, h6, h7]
  have hib : idleB u o = (!hN o.kind && decide (o.n ≠ 0)) := by
    have d1 : (!uBit o.kind 0 && decide (o.dst ≠ 0)) = false := by rcases i1 with h | h <;> simp [h]
    have d2 : (!uBit o.kind 1 && decide (o.a ≠ 0)) = false := by rcases i2 with h | h <;> simp [h]
    have d3 : (!uBit o.kind 2 && decide (o.b ≠ 0)) = false := by rcases i3 with h | h <;> simp [h]
    have d4 : (!uBit o.kind 3 && decide (o.c ≠ 0)) = false := by rcases i4 with h | h <;> simp [h]
    simp only [idleB, d1, d2, d3, d4, htb, bN, Bool.false_or]
    cases uBit o.kind 4 <;> cases uBit o.kind 5 <;> cases uBit o.kind 6 <;> cases uBit o.kind 7 <;> rfl
  have he : errOp u o = if (!hN o.kind && decide (o.n ≠ 0)) = true then 4 else 0 := by
    simp only [errOp, hk, hro, ht, hib]; rfl
  rw [he]
  refine CW.walk hX mixed d63 rfl ?_
  simp [e3, m3]
  refine (hasN94_c hX _ _).k ?_
  rintro x H9 ⟨rfl, rfl⟩
  by_cases hn : hN o.kind = true
  · simp [hn]
    refine CW.walk1 hX mixed d63 rfl ?_
    simp [hn]
    exact hle
  · by_cases hz : o.n = 0
    · simp [hn, hz, e3, m3]
      refine CW.walk1 hX mixed d63 rfl ?_
      simp [hn, hz]
      exact hle
    · simp [hn, hz, e3, m3]
      exact hle
end Go.Cl
set_option linter.unusedSimpArgs false
set_option linter.unusedVariables false
namespace Go.Cl
open Go.Proofs Dd
variable {W : World} {G : Nat → CV}
set_option maxRecDepth 8000
set_option maxHeartbeats 4000000
theorem mayEnd62_c (hX : CxOk (cx W G)) (e : UEnd) (n : Nat) (p : Nat → Bool) (hk : 1 ≤ e.kind ∧ e.kind ≤ 4) (ha : e.kind ≠ 1 → 0 ≤ e.a ∧ e.a < n) (H : Hp) : CC Tryz.prog W 71 [.agg (endC e), .sl 1 (boolS n p)] H fun x H' => x = .ret (.bool (mayEnd p e)) ∧ H' = H := by
  refine CC.shrink ?_
  refine CC.of_ev hX mixed d71 Tryz.func71 rfl rfl (Nat.le_of_ble_eq_true rfl) d71_ok ?_
  have hkk : e.kind = 1 ∨ e.kind = 2 ∨ e.kind = 3 ∨ e.kind = 4 := by omega
  rcases hkk with k | k | k | k
  · simp (config := {contextual := true}) [Tryz.f71, d71, endC, k, mayEnd]
    exact fun q hq => Le.set_new hq
  · have h1 := ha (by omega)
    have h2 : e.a.toNat < n := by omega
    simp (config := {contextual := true}) [Tryz.f71, d71, endC, k, mayEnd, h1.1, h2]
    exact fun q hq => Le.set_new hq
  · have h1 := ha (by omega)
    have h2 : e.a.toNat < n := by omega
    simp (config := {contextual := true}) [Tryz.f71, d71, endC, k, mayEnd, h1.1, h2]
    exact fun q hq => Le.set_new hq
  · simp (config := {contextual := true}) [Tryz.f71, d71, endC, k, mayEnd]
    exact fun q hq => Le.set_new hq
theorem may63_c (hX : CxOk (cx W G)) (o : UOp) (n : Nat) (p : Nat → Bool) (H : Hp) (hg : o.guard ≠ -1 → 0 ≤ o.guard ∧ o.guard < n) (ha : o.kind = 20 ∨ o.kind = 21 ∨ o.kind = 22 → 0 ≤ o.a ∧ o.a < n) : CC Tryz.prog W 72 [.agg (opC o), .sl 1 (boolS n p)] H fun x H' => x = .ret (.bool (mayTrap p o)) ∧ H' = H := by
  refine CC.at0 ?_ H
  refine CC.of_ev hX mixed d72 Tryz.func72 rfl rfl (Nat.le_of_ble_eq_true rfl) d72_ok ?_
  simp (config := {contextual := true, maxSteps := 2000000}) [Tryz.f72, d72, opC]
  have k20 : ∀ k, o.kind = k → (k = 20 ∨ k = 21 ∨ k = 22) → 0 ≤ o.a ∧ o.a.toNat < n := fun k h1 h2 => by have := ha (by omega); omega
  refine ⟨fun h => ⟨(hg h).1, by have := hg h; omega, fun hp => by simp [mayTrap, h, hp], fun hp => ?_⟩, fun h => ?_⟩
  all_goals
    refine ⟨fun h => by simp [mayTrap, h], fun k14 => ⟨fun h => by simp [mayTrap, h], fun k15 => ⟨fun h => by simp [mayTrap, h], fun k16 => ⟨fun h => by simp [mayTrap, h], fun k17 => ?_⟩⟩⟩⟩
    refine ⟨fun h20 => ⟨(k20 _ h20 (by omega)).1, (k20 _ h20 (by omega)).2, by simp [mayTrap, h20, h]; try simp [hp]⟩, fun h20 => ⟨fun h21 => ⟨(k20 _ h21 (by omega)).1, (k20 _ h21 (by omega)).2, by simp [mayTrap, h21, h]; try simp [hp]⟩, fun h21 => ⟨fun h22 => ⟨(k20 _ h22 (by omega)).1, (k20 _ h22 (by omega)).2, by simp [mayTrap, h22, h]; try simp [hp]⟩, fun h22 => ?_⟩⟩⟩
    simp [mayTrap, k14, k15, k16, k17, h20, h21, h22, h]
    try simp [hp]
theorem SlN.src {H0 H : Hp} {v : CV} {l : List Int} (h : SlN H0 H v l) : ∀ K' : Nat → List CV → Prop, K' (ints l).length (ints l).flatten → srcC H 1 v K' := by
  intro K' hK
  rcases h with ⟨rfl, rfl⟩ | ⟨q, c, cs, rfl, _, hq, hcs⟩
  · exact hK
  · have hl : l.length ≤ cs.length := by
      rcases Nat.lt_or_ge cs.length l.length with h | h
      · have h1 : cs.length < l.length := h
        have := hcs cs.length _ (List.getElem?_eq_getElem h1)
        have := (List.getElem?_eq_some_iff.1 this).1
        omega
      · exact h
    refine ⟨cs, hq, by omega, ?_⟩
    have ht : (cs.drop 0).take (l.length * 1) = (ints l).flatten := by
      rw [ints_flat, List.drop_zero, Nat.mul_one]
      apply List.ext_getElem?
      intro k
      rw [List.getElem?_take, List.getElem?_map]
      by_cases hk : k < l.length
      · rw [if_pos hk, hcs k _ (List.getElem?_eq_getElem hk), List.getElem?_eq_getElem hk]; rfl
      · rw [if_neg hk, List.getElem?_eq_none (by omega)]; rfl
    rw [ht]
    simpa [ints] using hK
theorem boolC_put {n i : Nat} (f : Nat → Bool) (b : Bool) (h : i < n) : (boolC n f).take i ++ .bool b :: (boolC n f).drop (i + 1) = boolC n (fun x => if x = i then b else f x) := by
  rw [take_drop_set (by rw [boolC_len]; exact h)]
  apply List.ext_getElem?
  intro j
  rw [List.getElem?_set]
  simp only [boolC, List.length_map, List.length_range, List.getElem?_map]
  by_cases hj : i = j
  · subst hj; simp [h]
  · rw [if_neg hj]
    rcases Nat.lt_or_ge j n with h2 | h2
    · rw [List.getElem?_range h2]; simp [Ne.symm hj]
    · rw [List.getElem?_eq_none (by simpa using h2)]; rfl
theorem boolC_congr {n : Nat} {f g : Nat → Bool} (h : ∀ x, x < n → f x = g x) : boolC n f = boolC n g := by
  simp only [boolC]
  exact List.map_congr_left fun x hx => by rw [h x (List.mem_range.1 hx)]
end Go.Cl
set_option linter.unusedSimpArgs false
set_option linter.unusedVariables false
namespace Go.Cl
open Go.Proofs Dd
variable {W : World} {G : Nat → CV}
set_option maxRecDepth 8000
set_option maxHeartbeats 4000000
def insS (m n : Nat) (I : Nat → Nat → Bool) : List (List CV) := (List.range m).map fun i => [.sl 1 (boolS n (I i))]
theorem insS_len {m n : Nat} {I : Nat → Nat → Bool} : (insS m n I).length = m := by simp [insS]
theorem insS_get {m n i : Nat} {I : Nat → Nat → Bool} (h : i < m) : (insS m n I)[i]? = some [.sl 1 (boolS n (I i))] := by simp [insS, h]
theorem insS_ex {m n i : Nat} {I : Nat → Nat → Bool} {P : List CV → Prop} : (∃ e, (insS m n I)[i]? = some e ∧ P e) = (i < m ∧ P [.sl 1 (boolS n (I i))]) := by
  simp only [insS, List.getElem?_map, eq_iff_iff]
  rcases Nat.lt_or_ge i m with h | h
  · rw [List.getElem?_range h]; simp [h]
  · rw [List.getElem?_eq_none (by simpa using h)]; simp; intro h2; omega
attribute [simp ↓] insS_ex
attribute [simp] insS_len
def refC (u : UUnit) (p : Nat → Bool) (I : Nat → Nat → Bool) : List CV := unitC u ++ [.sl 1 (boolS u.regs.toNat p), .sl 1 (insS u.blocks.length u.regs.toNat I)]
theorem zeroB (n : Nat) : (List.range n).map (fun i => ([CV.bool false][i % 1]?).getD CV.any) = boolC n fun _ => false := by
  simp only [boolC]
  exact List.map_congr_left fun x hx => by simp [Nat.mod_one]
end Go.Cl
set_option linter.unusedSimpArgs false
set_option linter.unusedVariables false
namespace Go.Cl
open Go.Proofs Dd
variable {W : World} {G : Nat → CV}
set_option maxRecDepth 8000
set_option maxHeartbeats 4000000
theorem CW.condE {X : Cx} {N : Nat} {ρ : Option Nat} {Q : CP} {s : CA} {H : Hp} (hX : CxOk X) {o : Operand} {x y : Code} {b : Bool} (h : evC X N s.env o = .bool b) (ht : b = true → CW X.P X.W N ρ x Q s H) (hf : b = false → CW X.P X.W N ρ y Q s H) : CW X.P X.W N ρ (.cond o x y) Q s H :=
  CW.cond (fun a hr => by
    have := ev_rep hX hr o
    rw [h] at this
    generalize a.eval o = v at this ⊢
    cases this
    rfl) ht hf
theorem Own.new {B H : Hp} {v : CV} {sz : Nat} {xs : List (List CV)} (h : Own B H v sz xs) {r o l c : Nat} (hv : v = .ref r o l c) : B r = none := by
  obtain ⟨_, _, ⟨h1, _⟩ | ⟨q, c', ex, h1, h2, h3, _⟩⟩ := h
  · rw [h1] at hv; cases hv
  · rw [h1] at hv; injection hv with e1; subst e1; exact h2
end Go.Cl
set_option linter.unusedSimpArgs false
set_option linter.unusedVariables false
namespace Go.Cl
open Go.Proofs Dd
variable {W : World} {G : Nat → CV}
set_option maxRecDepth 8000
set_option maxHeartbeats 4000000
/-- What one look at all operations has made so far. -/
structure PV (u : UUnit) (p c : Nat → Bool) (D : List UOp) (p' c' : Nat → Bool) (a : Bool) : Prop where
  low : PLow (opsOf u) p' c'
  gt : a = true → gapP u.regs.toNat u.spill.toNat p' c' < gapP u.regs.toNat u.spill.toNat p c
  same : a = false → p' = p ∧ c' = c ∧ ∀ o ∈ D, spreadN o p c = false
theorem PV.step {u : UUnit} (hu : wfU u = true) {p c : Nat → Bool} {D : List UOp} {p' c' : Nat → Bool} {a : Bool} (h : PV u p c D p' c' a) {o : UOp} (ho : o ∈ opsOf u) : PV u p c (D ++ [o]) (spreadR o p' c') (spreadC o p' c') (a || spreadN o p' c') := by
  have hge : gapP u.regs.toNat u.spill.toNat p' c' ≤ gapP u.regs.toNat u.spill.toNat p c := by
    cases a with
    | true => exact Nat.le_of_lt (h.gt rfl)
    | false => obtain ⟨rfl, rfl, _⟩ := h.same rfl; exact Nat.le_refl _
  refine ⟨h.low.spread ho, fun ha => ?_, fun ha => ?_⟩
  · cases hs : spreadN o p' c' with
    | true => have := spread_gap hu (wf_ops hu ho) hs; omega
    | false => rw [spreadR_same hs, spreadC_same hs]; rw [hs, Bool.or_false] at ha; exact h.gt ha
  · simp only [Bool.or_eq_false_iff] at ha
    obtain ⟨h1, h2, h3⟩ := h.same ha.1
    rw [spreadR_same ha.2, spreadC_same ha.2]
    refine ⟨h1, h2, fun o' ho' => ?_⟩
    rcases List.mem_append.1 ho' with h4 | h4
    · exact h3 o' h4
    · simp at h4; subst h4; rw [← h1, ← h2]; exact ha.2
/-- Where the sets lie. -/
structure psS (H : Hp) (u : UUnit) (r1 rr rc : Nat) (p c : Nat → Bool) (a : Bool) (s' : CA) (H' : Hp) : Prop where
  ex : s'.env 1 = .ptr r1 0 ∧ s'.env 3 = .ref rr 0 u.regs.toNat u.regs.toNat ∧ s'.env 4 = .ref rc 0 u.spill.toNat u.spill.toNat ∧ s'.env 5 = .bool a ∧ s'.ds = [] ∧ Le H H' ∧ H rr = none ∧ H rc = none ∧ rr ≠ rc ∧ H' rr = some (.cells (boolC u.regs.toNat p)) ∧ H' rc = some (.cells (boolC u.spill.toNat c)) ∧ H' r1 = some (.cells (unitC u)) ∧ r1 ≠ rr ∧ r1 ≠ rc
structure psL (H : Hp) (u : UUnit) (r1 rr rc : Nat) (j : Nat) (s' : CA) (H' : Hp) : Prop where
  ex : ∃ p c a, j = 2 * gapP u.regs.toNat u.spill.toNat p c + (if a = true then 1 else 0) ∧ psS H u r1 rr rc p c a s' H' ∧ PLow (opsOf u) p c ∧ (a = false → PCl (opsOf u) p c)
structure psI (H : Hp) (u : UUnit) (r1 rr rc : Nat) (p c : Nat → Bool) (d : Nat) (j : Nat) (s' : CA) (H' : Hp) : Prop where
  ex : ∃ (i i6 : Nat) (p' c' : Nat → Bool) (a : Bool), i ≤ u.blocks.length ∧ j = u.blocks.length - i ∧ psS H u r1 rr rc p' c' a s' H' ∧ s'.env 6 = .int .i64 i6 ∧ i6 + d = i ∧ PV u p c ((u.blocks.take i).flatMap (·.ops)) p' c' a
structure psK (H : Hp) (u : UUnit) (k : UBlk) (r1 rr rc i : Nat) (p c : Nat → Bool) (d : Nat) (j : Nat) (s' : CA) (H' : Hp) : Prop where
  ex : ∃ (t t7 : Nat) (p' c' : Nat → Bool) (a : Bool), t ≤ k.ops.length ∧ j = k.ops.length - t ∧ psS H u r1 rr rc p' c' a s' H' ∧ s'.env 6 = .int .i64 i ∧ s'.env 7 = .int .i64 t7 ∧ t7 + d = t ∧ PV u p c ((u.blocks.take i).flatMap (·.ops) ++ k.ops.take t) p' c' a
structure psO (H : Hp) (u : UUnit) (r1 rr rc : Nat) (p c : Nat → Bool) (s' : CA) (H' : Hp) : Prop where
  ex : ∃ p' c' a, psS H u r1 rr rc p' c' a s' H' ∧ PV u p c (opsOf u) p' c' a
structure psF (H : Hp) (u : UUnit) (r1 rr rc : Nat) (s' : CA) (H' : Hp) : Prop where
  ex : ∃ p c, psS H u r1 rr rc p c false s' H' ∧ PLow (opsOf u) p c ∧ PCl (opsOf u) p c
structure psX (u : UUnit) (r1 rr rc r8 i t : Nat) (a b : Bool) (H6 : Hp) (s' : CA) (H' : Hp) : Prop where
  ex : s'.env 1 = .ptr r1 0 ∧ s'.env 3 = .ref rr 0 u.regs.toNat u.regs.toNat ∧ s'.env 4 = .ref rc 0 u.spill.toNat u.spill.toNat ∧ s'.env 5 = .bool a ∧ s'.env 6 = .int .i64 i ∧ s'.env 7 = .int .i64 t ∧ s'.env 8 = .ptr r8 0 ∧ s'.env 9 = .bool b ∧ s'.ds = [] ∧ H' = H6
structure psY (u : UUnit) (r1 rr rc r8 i t : Nat) (a : Bool) (p : Nat → Bool) (v : CV) (l : List Int) (H6 : Hp) (d : Nat) (j : Nat) (s' : CA) (H' : Hp) : Prop where
  ex : ∃ m m' : Nat, m ≤ l.length ∧ j = l.length - m ∧ psX u r1 rr rc r8 i t a ((l.take m).any fun r => p r.toNat) H6 s' H' ∧ s'.env 10 = v ∧ s'.env 11 = .int .i64 m' ∧ m' + d = m
theorem poisons61_c (hX : CxOk (cx W G)) (u : UUnit) (hu : wfU u = true) (H : Hp) : CC Tryz.prog W 70 [.agg (unitC u)] H fun x H' => ∃ p c rr, x = .ret (.ref rr 0 u.regs.toNat u.regs.toNat) ∧ H rr = none ∧ H' rr = some (.cells (boolC u.regs.toNat p)) ∧ Le H H' ∧ PLeast (opsOf u) p c := by
  obtain ⟨f1, f2, f3, f4, f5, f6, f7, f8, f9, f10, f11⟩ := wfU_facts hu
  refine CC.of_cw hX Tryz.func70 rfl rfl (Nat.le_of_ble_eq_true rfl) ?_
  refine CW.walk hX mixed d70 rfl ?_
  simp [unitC]
  intro r1 n1
  refine CW.walk hX mixed d70 rfl ?_
  simp
  refine ⟨by omega, by omega, by omega, fun rr q1 q2 n2 => ?_⟩
  refine CW.walk hX mixed d70 rfl ?_
  simp [q1, q2]
  refine ⟨by omega, by omega, by omega, fun rc q3 q4 q5 q6 n3 => ?_⟩
  rw [zeroB, zeroB]
  generalize hH1 : Hp.set _ rc _ = H1
  have b1 : (H.set r1 (.cells (unitC u))) rr = none := by rw [hset_ne q1]; exact n2
  have hle : Le H H1 := by rw [← hH1]; exact ((Le.set_new n1).trans (Le.set_new b1)).trans (Le.set_new (by rw [hset_ne q3, hset_ne q5]; exact n3))
  have m1 : H1 r1 = some (.cells (unitC u)) := by rw [← hH1]; simp [Hp.set, q2, q6, unitC]
  have mr : H1 rr = some (.cells (boolC u.regs.toNat fun _ => false)) := by rw [← hH1]; simp [Hp.set, q4]
  have mc : H1 rc = some (.cells (boolC u.spill.toNat fun _ => false)) := by rw [← hH1]; exact set_at
  clear hH1
  refine CW.cut (psF H u r1 rr rc) ?_ ?_
  · refine CW.walk hX mixed d70 rfl ?_
    simp
    refine CW.block ?_
    refine CW.loop (psL H u r1 rr rc) ?_ (m := 2 * gapP u.regs.toNat u.spill.toNat (fun _ => false) (fun _ => false) + 1) ⟨fun _ => false, fun _ => false, true, by simp, ⟨by simp, by simp, by simp, by simp, rfl, hle, n2, n3, Ne.symm q3, mr, mc, m1, q2, q6⟩, PLow.empty _, by simp⟩
    clear mr mc m1 hle
    rintro j ⟨en, ds⟩ H2 ⟨p, c, a, rfl, ⟨e1, e3, e4, e5, rfl, hle, _, _, _, mr, mc, m1, _, _⟩, hlow, hcl⟩
    dsimp only at e1 e3 e4 e5
    cases a with
    | false =>
      refine CW.walk hX mixed d70 rfl ?_
      simp [e5]
      exact ⟨p, c, ⟨by simp [e1], by simp [e3], by simp [e4], by simp [e5], rfl, hle, n2, n3, Ne.symm q3, mr, mc, m1, q2, q6⟩, hlow, hcl rfl⟩
    | true =>
    refine CW.walk hX mixed d70 rfl ?_
    simp [e5]
    refine CW.mono (Q := fun x s' H' => x = .normal ∧ psO H u r1 rr rc p c s' H') ?_ ?_
    · refine CW.block ?_
      refine CW.walk hX mixed d70 rfl ?_
      simp
      refine CW.walk hX mixed d70 rfl ?_
      simp
      refine CW.block ?_
      refine CW.loop (psI H u r1 rr rc p c 0) ?_ (m := u.blocks.length) ⟨0, 0, p, c, false, by omega, rfl, ⟨by simp [e1], by simp [e3], by simp [e4], by simp, rfl, hle, n2, n3, Ne.symm q3, mr, mc, m1, q2, q6⟩, by simp, rfl, ⟨hlow, by simp, fun _ => ⟨rfl, rfl, by simp⟩⟩⟩
      clear e1 e3 e4 e5 mr mc m1 hle
      rintro j ⟨en, ds⟩ H3 ⟨i, i6, p', c', a, hi, rfl, hS, e6, hi6, hV⟩
      obtain rfl : i = i6 := by omega
      obtain ⟨e1, e3, e4, e5, rfl, hle, _, _, _, mr, mc, m1, _, _⟩ := hS.ex
      dsimp only at e1 e3 e4 e5 e6
      have m1' := m1
      simp only [unitC] at m1'
      by_cases hlt : i < u.blocks.length
      rotate_left
      · refine CW.walk hX mixed d70 rfl ?_
        simp [e1, e6, m1', hlt]
        have hil : i = u.blocks.length := by omega
        rw [hil, List.take_length] at hV
        exact ⟨p', c', a, ⟨by simp [e1], by simp [e3], by simp [e4], by simp [e5], rfl, hle, n2, n3, Ne.symm q3, mr, mc, m1, q2, q6⟩, hV⟩
      obtain ⟨k, hke⟩ : ∃ k, u.blocks[i] = k := ⟨_, rfl⟩
      have hk : u.blocks[i]? = some k := by rw [List.getElem?_eq_getElem hlt, hke]
      refine CW.walk hX mixed d70 rfl ?_
      simp [e1, e6, m1', hlt]
      refine CW.cut (psI H u r1 rr rc p c 1 (u.blocks.length - (i + 1))) ?_ ?_
      · refine CW.block ?_
        obtain ⟨_, hlen, hwo, _⟩ := wfB_facts hu hk
        refine CW.walk hX mixed d70 rfl ?_
        simp
        refine CW.block ?_
        refine CW.loop (psK H u k r1 rr rc i p c 0) ?_ (m := k.ops.length) ⟨0, 0, p', c', a, by omega, rfl, ⟨by simp [e1], by simp [e3], by simp [e4], by simp [e5], rfl, hle, n2, n3, Ne.symm q3, mr, mc, m1, q2, q6⟩, by simp [e6], by simp, rfl, by simpa using hV⟩
        clear hS hV e1 e3 e4 e5 e6 mr mc m1 m1' hle
        clear p' c' a
        rintro j ⟨en, ds⟩ H4 ⟨t, t7, p', c', a, ht, rfl, hS, e6, e7, ht7, hV⟩
        obtain rfl : t = t7 := by omega
        obtain ⟨e1, e3, e4, e5, rfl, hle, _, _, _, mr, mc, m1, _, _⟩ := hS.ex
        dsimp only at e1 e3 e4 e5 e6 e7
        have m1' := m1
        simp only [unitC] at m1'
        by_cases htl : t < k.ops.length
        rotate_left
        · refine CW.walk hX mixed d70 rfl ?_
          simp [e1, e6, e7, m1', hlt, hke, blkC, htl]
          have htt : t = k.ops.length := by omega
          rw [htt, List.take_length] at hV
          refine ⟨i + 1, i, p', c', a, hlt, rfl, ⟨by simp [e1], by simp [e3], by simp [e4], by simp [e5], rfl, hle, n2, n3, Ne.symm q3, mr, mc, m1, q2, q6⟩, by simp [e6], rfl, ?_⟩
          rw [List.take_add_one, hk, List.flatMap_append]
          simpa using hV
        obtain ⟨o, hoe⟩ : ∃ o, k.ops[t] = o := ⟨_, rfl⟩
        have ho : k.ops[t]? = some o := by rw [List.getElem?_eq_getElem htl, hoe]
        have hom := List.mem_of_getElem? ho
        have hwo' := hwo o hom
        have hoo : o ∈ opsOf u := List.mem_flatMap.2 ⟨k, List.mem_of_getElem? hk, hom⟩
        have hVs := hV.step hu hoo
        refine CW.walk hX mixed d70 rfl ?_
        simp [e1, e6, e7, m1', hlt, hke, blkC, htl]
        refine CW.cut (psK H u k r1 rr rc i p c 1 (k.ops.length - (t + 1))) ?_ ?_
        · refine CW.block ?_
          obtain ⟨w1, w2, w3, w4, w5, w6, w7, w8, w9⟩ := wfO_facts hwo' f3
          refine CW.walk hX mixed d70 rfl ?_
          simp [e1, e6, e7, m1', hlt, hke, blkC, htl, hoe, opC]
          intro r8 n8
          have l8 : Le H4 (H4.set r8 (.cells (opC o))) := Le.set_new n8
          have m8 : (H4.set r8 (.cells (opC o))) r8 = some (.cells (opC o)) := set_at
          have d8 : ∀ {x y}, H4 x = some y → x ≠ r8 := fun hx q => by rw [q, n8] at hx; cases hx
          simp only [opC] at l8 m8
          generalize H4.set r8 _ = H5 at l8 m8 ⊢
          refine CW.walk hX mixed d70 rfl ?_
          simp
          have hop := operands_c hX o w1 H5
          simp only [opC] at hop
          refine CW.walk hX mixed d70 rfl ?_
          simp [m8]
          refine hop.k ?_
          rintro x H6 ⟨v, rfl, l6, hv⟩
          simp
          have m8 := l6 _ _ m8
          have l46 := l8.trans l6
          have mr6 := l46 _ _ mr
          have mc6 := l46 _ _ mc
          have m16 := l46 _ _ m1
          have hrl := reads_len o
          refine CW.cut (psX u r1 rr rc r8 i t a ((reads o).any fun r => p' r.toNat) H6) ?_ ?_
          · refine CW.walk hX mixed d70 rfl ?_
            simp
            refine CW.block ?_
            refine CW.loop (psY u r1 rr rc r8 i t a p' v (reads o) H6 0) ?_ (m := (reads o).length) ⟨0, 0, by omega, rfl, ⟨by simp [e1], by simp [e3], by simp [e4], by simp [e5], by simp [e6], by simp [e7], by simp, by simp, rfl, rfl⟩, by simp, by simp, rfl⟩
            clear e1 e3 e4 e5 e6 e7
            rintro j ⟨en, ds⟩ H7 ⟨m, m', hm, rfl, ⟨e1, e3, e4, e5, e6, e7, e8, e9, rfl, rfl⟩, e10, e11, hmm⟩
            obtain rfl : m = m' := by omega
            dsimp only at e1 e3 e4 e5 e6 e7 e8 e9 e10 e11
            have fin : ∀ (en : Env) (b : Bool), b = ((reads o).any fun r => p' r.toNat) → en 1 = .ptr r1 0 → en 3 = .ref rr 0 u.regs.toNat u.regs.toNat → en 4 = .ref rc 0 u.spill.toNat u.spill.toNat → en 5 = .bool a → en 6 = .int .i64 i → en 7 = .int .i64 t → en 8 = .ptr r8 0 → en 9 = .bool b → psX u r1 rr rc r8 i t a ((reads o).any fun r => p' r.toNat) H7 ⟨en, []⟩ H7 := fun en b hb g1 g3 g4 g5 g6 g7 g8 g9 => ⟨g1, g3, g4, g5, g6, g7, g8, by rw [← hb]; exact g9, rfl, rfl⟩
            by_cases hml : m < (reads o).length
            rotate_left
            · have hmt : m = (reads o).length := by omega
              have hbb : ((reads o).take m).any (fun r => p' r.toNat) = (reads o).any fun r => p' r.toNat := by rw [hmt, List.take_length]
              refine CW.walk hX mixed d70 rfl ?_
              rcases hv with ⟨rfl, hnil⟩ | ⟨rl, cl, csl, rfl, nl, ml, hcl⟩
              · have h0 : m = 0 := by rw [hmt, hnil]; rfl
                subst h0
                simp [e10, e11]
                exact fin _ _ hbb (by simp [e1]) (by simp [e3]) (by simp [e4]) (by simp [e5]) (by simp [e6]) (by simp [e7]) (by simp [e8]) (by simp [e9])
              · simp [e10, e11, hml]
                exact fin _ _ hbb (by simp [e1]) (by simp [e3]) (by simp [e4]) (by simp [e5]) (by simp [e6]) (by simp [e7]) (by simp [e8]) (by simp [e9])
            rcases hv with ⟨rfl, hnil⟩ | ⟨rl, cl, csl, rfl, nl, ml, hcl⟩
            · rw [hnil] at hml; simp at hml
            obtain ⟨y, hy⟩ : ∃ y, (reads o)[m] = y := ⟨_, rfl⟩
            have hy' : (reads o)[m]? = some y := by rw [List.getElem?_eq_getElem hml, hy]
            have hcy := hcl m y hy'
            obtain ⟨y0, y1⟩ := w3 y (reads_all (List.mem_of_getElem? hy'))
            have y2 : y.toNat < u.regs.toNat := by omega
            refine CW.walk hX mixed d70 rfl ?_
            simp [e10, e11, hml]
            have htk : ((reads o).take (m + 1)).any (fun r => p' r.toNat) = (((reads o).take m).any (fun r => p' r.toNat) || p' y.toNat) := by rw [List.take_add_one, hy', List.any_append]; simp
            refine CW.cut (psY u r1 rr rc r8 i t a p' (.ref rl 0 (reads o).length ((reads o).length + cl)) (reads o) H7 1 ((reads o).length - (m + 1))) ?_ ?_
            · refine CW.block ?_
              refine CW.walk1 hX mixed d70 rfl ?_
              by_cases hb : ((reads o).take m).any (fun r => p' r.toNat) = true
              · rw [hb] at e9
                simp [e9]
                exact ⟨m + 1, m, hml, rfl, ⟨by simp [e1], by simp [e3], by simp [e4], by simp [e5], by simp [e6], by simp [e7], by simp [e8], by simp [htk, hb], rfl, rfl⟩, by simp [e10], by simp [e11], rfl⟩
              · have hb' : ((reads o).take m).any (fun r => p' r.toNat) = false := by simpa using hb
                rw [hb'] at e9
                simp [e3, e9, e10, e11, hml, ml, hcy, y0, y2, mr6, boolC_get]
                exact ⟨by omega, by omega, m + 1, m, hml, rfl, ⟨by simp [e1], by simp [e3], by simp [e4], by simp [e5], by simp [e6], by simp [e7], by simp [e8], by simp [htk, hb'], rfl, rfl⟩, by simp [e10], by simp [e11], rfl⟩
            · rintro ⟨en, ds⟩ H8 ⟨m', m2, hm', hj', ⟨g1, g3, g4, g5, g6, g7, g8, g9, rfl, rfl⟩, g10, g11, hm2⟩
              dsimp only at g1 g3 g4 g5 g6 g7 g8 g9 g10 g11
              refine CW.walk1 hX mixed d70 rfl ?_
              simp [g11]
              exact ⟨(reads o).length - (m + 1), by omega, m', m', hm', hj', ⟨by simp [g1], by simp [g3], by simp [g4], by simp [g5], by simp [g6], by simp [g7], by simp [g8], by simp [g9], rfl, rfl⟩, by simp [g10], by simp; rw [wrapI (by omega) (by omega)]; omega, rfl⟩
          clear e1 e3 e4 e5 e6 e7
          rintro ⟨en, ds⟩ H7 ⟨e1, e3, e4, e5, e6, e7, e8, e9, rfl, rfl⟩
          dsimp only at e1 e3 e4 e5 e6 e7 e8 e9
          have hle7 := hle.trans l46
          generalize hB1 : ((reads o).any fun r => p' r.toNat) = B1 at e9
          have hVs' : PV u p c ((u.blocks.take i).flatMap (·.ops) ++ k.ops.take (t + 1)) (spreadR o p' c') (spreadC o p' c') (a || spreadN o p' c') := by
            rw [List.take_add_one, ho, ← List.append_assoc]; exact hVs
          have fin : ∀ (en : Env) (H' : Hp) (a2 : Bool), en 1 = .ptr r1 0 → en 3 = .ref rr 0 u.regs.toNat u.regs.toNat → en 4 = .ref rc 0 u.spill.toNat u.spill.toNat → en 5 = .bool a2 → en 6 = .int .i64 i → en 7 = .int .i64 t → a2 = (a || spreadN o p' c') → Le H H' → H' rr = some (.cells (boolC u.regs.toNat (spreadR o p' c'))) → H' rc = some (.cells (boolC u.spill.toNat (spreadC o p' c'))) → H' r1 = some (.cells (unitC u)) → psK H u k r1 rr rc i p c 1 (k.ops.length - (t + 1)) ⟨en, []⟩ H' := fun en H' a2 g1 g3 g4 g5 g6 g7 ha h1 h2 h3 h4 =>
            ⟨t + 1, t, _, _, a2, htl, rfl, ⟨g1, g3, g4, g5, rfl, h1, n2, n3, Ne.symm q3, h2, h3, h4, q2, q6⟩, g6, g7, rfl, by rw [ha]; exact hVs'⟩
          by_cases h19 : o.kind = 19
          · have hn7 := w7 (.inr h19)
            have hn2 : o.n.toNat < u.spill.toNat := by omega
            have hbp : badP o p' c' = B1 := by simp [badP, h19, ← hB1]
            have hsR : spreadR o p' c' = p' := by funext r; simp [spreadR, h19]
            have hsC : ∀ b : Bool, b = (c' o.n.toNat || B1) → (boolC u.spill.toNat c').take o.n.toNat ++ CV.bool b :: (boolC u.spill.toNat c').drop (o.n.toNat + 1) = boolC u.spill.toNat (spreadC o p' c') := fun b hb => by
              rw [boolC_put _ _ hn2]
              refine boolC_congr fun x _ => ?_
              simp only [spreadC, hbp, h19]
              by_cases hx : x = o.n.toNat
              · subst hx; simp [hb]
              · have hx2 : (x == o.n.toNat) = false := by simpa using hx
                simp [hx, hx2]
            have hsN : spreadN o p' c' = (B1 && !c' o.n.toNat) := by simp [spreadN, hbp, h19]
            have fin2 : ∀ (en : Env) (H' : Hp) (a2 b : Bool), en 1 = .ptr r1 0 → en 3 = .ref rr 0 u.regs.toNat u.regs.toNat → en 4 = .ref rc 0 u.spill.toNat u.spill.toNat → en 5 = .bool a2 → en 6 = .int .i64 i → en 7 = .int .i64 t → a2 = (a || (B1 && !c' o.n.toNat)) → b = (c' o.n.toNat || B1) → H' = H7.set rc (.cells ((boolC u.spill.toNat c').take o.n.toNat ++ CV.bool b :: (boolC u.spill.toNat c').drop (o.n.toNat + 1))) → psK H u k r1 rr rc i p c 1 (k.ops.length - (t + 1)) ⟨en, []⟩ H' := fun en H' a2 b g1 g3 g4 g5 g6 g7 ha hb hH => by
              rw [hsC b hb] at hH
              refine fin en H' a2 g1 g3 g4 g5 g6 g7 (by rw [hsN]; exact ha) (by rw [hH]; exact hle7.put n3) ?_ (by rw [hH]; exact set_at) ?_
              · rw [hH, hset_ne (Ne.symm q3), hsR]; exact mr6
              · rw [hH, hset_ne q6]; exact m16
            refine CW.walk hX mixed d70 rfl ?_
            have z1 : o.n < max u.spill 0 := by omega
            have z2 : max o.n 0 < u.spill := by omega
            have z3 : o.n.toNat + 1 ≤ u.spill.toNat := by omega
            cases a <;> cases B1 <;> cases hcn : c' o.n.toNat <;> simp [d70, e4, e5, e8, e9, m8, h19, hn7.1, hn2, mc6, boolC_get, hcn, z1, z2, z3]
            all_goals
              exact fin2 _ _ _ _ (by simp [e1]) (by simp [e3]) (by simp [e4]) (by simp [e5]; rfl) (by simp [e6]) (by simp [e7]) (by simp [hcn]) (by simp [hcn]) rfl
          refine CW.cut (psX u r1 rr rc r8 i t a (badP o p' c') H7) ?_ ?_
          · have fin3 : ∀ (en : Env) (b : Bool), b = badP o p' c' → en 1 = .ptr r1 0 → en 3 = .ref rr 0 u.regs.toNat u.regs.toNat → en 4 = .ref rc 0 u.spill.toNat u.spill.toNat → en 5 = .bool a → en 6 = .int .i64 i → en 7 = .int .i64 t → en 8 = .ptr r8 0 → en 9 = .bool b → psX u r1 rr rc r8 i t a (badP o p' c') H7 ⟨en, []⟩ H7 := fun en b hb g1 g3 g4 g5 g6 g7 g8 g9 => ⟨g1, g3, g4, g5, g6, g7, g8, by rw [← hb]; exact g9, rfl, rfl⟩
            refine CW.walk1 hX mixed d70 rfl ?_
            by_cases h23 : 23 ≤ o.kind
            · simp [e8, m8, h23]
              exact fin3 _ _ (by simp only [badP]; rw [if_pos (by omega)]) (by simp [e1]) (by simp [e3]) (by simp [e4]) (by simp [e5]) (by simp [e6]) (by simp [e7]) (by simp [e8]) (by simp)
            by_cases h2 : 2 ≤ o.kind ∧ o.kind ≤ 13
            · simp [e8, m8, h23, h2.1, h2.2]
              exact fin3 _ B1 (by simp only [badP]; rw [if_neg (by omega), if_neg (by omega), if_pos (by omega), hB1]) (by simp [e1]) (by simp [e3]) (by simp [e4]) (by simp [e5]) (by simp [e6]) (by simp [e7]) (by simp [e8]) (by simp [e9])
            by_cases h18 : o.kind = 18
            · have hn7 := w7 (.inl h18)
              have hn2 : o.n.toNat < u.spill.toNat := by omega
              simp [e4, e8, m8, h18, hn7.1, hn2, mc6, boolC_get]
              refine ⟨by omega, by omega, ?_⟩
              exact fin3 _ _ (by simp only [badP]; rw [if_neg (by omega), if_pos h18]) (by simp [e1]) (by simp [e3]) (by simp [e4]) (by simp [e5]) (by simp [e6]) (by simp [e7]) (by simp [e8]) (by simp)
            · have hbz : badP o p' c' = false := by simp only [badP]; rw [if_neg (by omega), if_neg h18, if_neg (by omega)]
              by_cases h2' : 2 ≤ o.kind
              · have h13 : ¬ o.kind ≤ 13 := fun q => h2 ⟨h2', q⟩
                simp [e8, m8, h23, h2', h13, h18, h19]
                exact fin3 _ _ hbz.symm (by simp [e1]) (by simp [e3]) (by simp [e4]) (by simp [e5]) (by simp [e6]) (by simp [e7]) (by simp [e8]) (by simp)
              · simp [e8, m8, h23, h2', h18, h19]
                exact fin3 _ _ hbz.symm (by simp [e1]) (by simp [e3]) (by simp [e4]) (by simp [e5]) (by simp [e6]) (by simp [e7]) (by simp [e8]) (by simp)
          clear e1 e3 e4 e5 e6 e7 e8 e9
          rintro ⟨en, ds⟩ H8 ⟨e1, e3, e4, e5, e6, e7, e8, e9, rfl, rfl⟩
          dsimp only at e1 e3 e4 e5 e6 e7 e8 e9
          have hsN : spreadN o p' c' = (badP o p' c' && !p' o.dst.toNat) := by simp [spreadN, h19]
          have hsC : spreadC o p' c' = c' := by funext r; simp [spreadC, h19]
          by_cases hbp : badP o p' c' = true
          · have hd := w4 (uBit_dst (by
              simp only [badP] at hbp
              split at hbp
              · omega
              split at hbp
              · omega
              split at hbp
              · omega
              · cases hbp))
            have hdn : o.dst.toNat < u.regs.toNat := by omega
            rw [hbp] at e9
            refine CW.walk1 hX mixed d70 rfl ?_
            by_cases hpd : p' o.dst.toNat = true
            · have hs0 : spreadN o p' c' = false := by rw [hsN, hpd]; simp
              simp [e3, e8, e9, m8, hd.1, hdn, mr6, boolC_get, hpd]
              refine ⟨by omega, by omega, ?_⟩
              exact fin _ _ a (by simp [e1]) (by simp [e3]) (by simp [e4]) (by simp [e5]) (by simp [e6]) (by simp [e7]) (by rw [hs0, Bool.or_false]) hle7 (by rw [spreadR_same hs0]; exact mr6) (by rw [hsC]; exact mc6) m16
            · have hs1 : spreadN o p' c' = true := by rw [hsN, hbp]; simp [hpd]
              have hput : (boolC u.regs.toNat p').take o.dst.toNat ++ CV.bool true :: (boolC u.regs.toNat p').drop (o.dst.toNat + 1) = boolC u.regs.toNat (spreadR o p' c') := by
                rw [boolC_put _ _ hdn]
                refine boolC_congr fun x _ => ?_
                simp only [spreadR, hbp]
                by_cases hx : x = o.dst.toNat
                · subst hx; simp [h19]
                · have hx2 : (x == o.dst.toNat) = false := by simpa using hx
                  simp [hx, hx2]
              simp [e3, e8, e9, m8, hd.1, hdn, mr6, boolC_get, hpd]
              refine ⟨by omega, by omega, by omega, by omega, ?_⟩
              rw [hput]
              exact fin _ _ true (by simp [e1]) (by simp [e3]) (by simp [e4]) (by simp) (by simp [e6]) (by simp [e7]) (by rw [hs1, Bool.or_true]) (hle7.put n2) set_at (by rw [hset_ne q3, hsC]; exact mc6) (by rw [hset_ne q2]; exact m16)
          · have hbp' : badP o p' c' = false := by simpa using hbp
            have hs0 : spreadN o p' c' = false := by rw [hsN, hbp']; rfl
            rw [hbp'] at e9
            refine CW.walk1 hX mixed d70 rfl ?_
            simp [e9]
            exact fin _ _ a (by simp [e1]) (by simp [e3]) (by simp [e4]) (by simp [e5]) (by simp [e6]) (by simp [e7]) (by rw [hs0, Bool.or_false]) hle7 (by rw [spreadR_same hs0]; exact mr6) (by rw [hsC]; exact mc6) m16
        · rintro ⟨en, ds⟩ H5 ⟨t', t7, p', c', a, ht', hj', ⟨g1, g3, g4, g5, rfl, hle', _, _, _, mr', mc', m1', _, _⟩, g6, g7, ht7, hV'⟩
          dsimp only at g1 g3 g4 g5 g6 g7
          refine CW.walk1 hX mixed d70 rfl ?_
          simp [g7]
          exact ⟨k.ops.length - (t + 1), by omega, t', t', p', c', a, ht', hj', ⟨by simp [g1], by simp [g3], by simp [g4], by simp [g5], rfl, hle', n2, n3, Ne.symm q3, mr', mc', m1', q2, q6⟩, by simp [g6], by simp; rw [wrapI (by omega) (by omega)]; omega, rfl, hV'⟩
      · rintro ⟨en, ds⟩ H4 ⟨i', i6, p', c', a, hi', hj', ⟨g1, g3, g4, g5, rfl, hle', _, _, _, mr', mc', m1', _, _⟩, g6, hi6, hV'⟩
        dsimp only at g1 g3 g4 g5 g6
        refine CW.walk1 hX mixed d70 rfl ?_
        simp [g6]
        exact ⟨u.blocks.length - (i + 1), by omega, i', i', p', c', a, hi', hj', ⟨by simp [g1], by simp [g3], by simp [g4], by simp [g5], rfl, hle', n2, n3, Ne.symm q3, mr', mc', m1', q2, q6⟩, by simp; rw [wrapI (by omega) (by omega)]; omega, rfl, hV'⟩
    · rintro x s' H' ⟨rfl, ⟨p', c', a, hS, hV⟩⟩
      refine ⟨2 * gapP u.regs.toNat u.spill.toNat p' c' + (if a = true then 1 else 0), ?_, p', c', a, rfl, hS, hV.low, fun ha => ?_⟩
      · cases a with
        | true => have := hV.gt rfl; simp; omega
        | false => obtain ⟨rfl, rfl, _⟩ := hV.same rfl; simp
      · obtain ⟨rfl, rfl, h⟩ := hV.same ha
        exact h
  rintro ⟨en, ds⟩ H2 ⟨p, c, ⟨e1, e3, e4, e5, rfl, hle2, _, _, _, mr2, mc2, _, _, _⟩, hlow, hcl⟩
  dsimp only at e3
  refine CW.walk1 hX mixed d70 rfl ?_
  simp [e3]
  exact ⟨n2, p, mr2, hle2, c, hcl, hlow⟩
end Go.Cl
set_option linter.unusedSimpArgs false
set_option linter.unusedVariables false
namespace Go.Cl
open Go.Proofs Dd
variable {W : World} {G : Nat → CV}
set_option maxRecDepth 8000
set_option maxHeartbeats 4000000
def BndN (u : UUnit) (I : Nat → Nat → Bool) : Prop := ∀ b x, I b x = true → x < u.regs.toNat
theorem FP_bndN {u : UUnit} (hu : wfU u = true) {p : Nat → Bool} {I : Nat → Nat → Bool} (hI : BndN u I) {b : Nat} (hb : b < u.blocks.length) {x : Nat} (h : FP u p I b x = true) : x < u.regs.toNat := by
  obtain ⟨f1, f2, f3, f4, f5, f6, f7, f8, f9, f10, f11⟩ := wfU_facts hu
  have hk : u.blocks[b]? = some (blkAt u b) := by simp [blkAt, List.getD_eq_getElem?_getD, List.getElem?_eq_getElem hb]
  obtain ⟨g1, g2, g3, g4⟩ := wfB_facts hu hk
  obtain ⟨w1, w2, w3, w4, w5⟩ := wfE_facts g4
  simp only [FP] at h
  generalize blkAt u b = k at *
  have hc : ∀ y, catchP u I k y = true → y < u.regs.toNat := fun y hy => by
    simp only [catchP, Bool.and_eq_true] at hy
    exact hI _ _ hy.2.2
  have he : ∀ y, endP u p I k y = true → y < u.regs.toNat := fun y hy => by
    simp only [endP, Bool.or_eq_true, Bool.and_eq_true, decide_eq_true_eq, beq_iff_eq] at hy
    rcases hy with ((hy | hy) | hy) | hy
    · exact hI _ _ hy.2
    · exact hI _ _ hy.2
    · exact hc _ hy.2
    · have := w3 hy.1; omega
  have hs : ∀ l, (∀ o ∈ l, wfOp u o = true) → ∀ y, beforeP u p I k l y = true → y < u.regs.toNat := by
    intro l
    induction l with
    | nil => exact fun _ => he
    | cons o l ih =>
      intro hl y hy
      obtain ⟨o1, o2, o3, o4, o5, o6, o7, o8, o9⟩ := wfO_facts (hl o (List.mem_cons_self ..)) f3
      have hy : stepP u p I k o (beforeP u p I k l) y = true := hy
      simp only [stepP, Bool.or_eq_true, Bool.and_eq_true, List.any_eq_true, beq_iff_eq] at hy
      rcases hy with ((hy | hy) | hy) | ⟨z, hz, rfl⟩
      · exact ih (fun o ho => hl o (List.mem_cons_of_mem _ ho)) y hy.1
      · exact hI _ _ hy.2
      · exact hc _ hy.2
      · have := o3 z hz; omega
  exact hs _ g3 x h
/-- What one look at all blocks, from the last on, has made so far. -/
structure LV (u : UUnit) (p : Nat → Bool) (I : Nat → Nat → Bool) (i : Nat) (I' : Nat → Nat → Bool) (a : Bool) : Prop where
  low : LLow u p I'
  up : LUp u p I'
  bnd : BndN u I'
  gt : a = true → gapL u I' < gapL u I
  same : a = false → I' = I ∧ ∀ b, i ≤ b → b < u.blocks.length → FP u p I b = I b
theorem LV.step {u : UUnit} (hu : wfU u = true) {p : Nat → Bool} {I I' : Nat → Nat → Bool} {i : Nat} {a : Bool} (h : LV u p I (i + 1) I' a) (hi : i < u.blocks.length) {diff : Bool} (hd : diff = true ↔ ∃ x, x < u.regs.toNat ∧ FP u p I' i x ≠ I' i x) : LV u p I i (setAt I' i (FP u p I' i)) (a || diff) := by
  have hm : mOf u = (u.regs.toNat + 63) / 64 := rfl
  have hge : gapL u I' ≤ gapL u I := by
    cases a with
    | true => exact Nat.le_of_lt (h.gt rfl)
    | false => obtain ⟨rfl, _⟩ := h.same rfl; exact Nat.le_refl _
  have hsub := setAt_up h.up i
  have hle := gapL_le (u := u) hsub
  refine ⟨h.low.step hi, h.up.step i, fun b x hx => ?_, fun ha => ?_, fun ha => ?_⟩
  · simp only [setAt] at hx
    split at hx
    · rename_i e; subst e; exact FP_bndN hu h.bnd hi hx
    · exact h.bnd b x hx
  · simp only [Bool.or_eq_true] at ha
    rcases ha with ha | ha
    · have := h.gt ha; omega
    · obtain ⟨x, hx, hne⟩ := hd.1 ha
      have h1 : I' i x = false := by
        cases hc : I' i x
        · rfl
        · rw [h.up i x hc, hc] at hne; exact absurd rfl hne
      have h2 : FP u p I' i x = true := by
        cases hc : FP u p I' i x
        · rw [hc, h1] at hne; exact absurd rfl hne
        · rfl
      have := gapL_lt (u := u) hsub hi (x := x) (by omega) h1 (by simp [setAt, h2])
      omega
  · simp only [Bool.or_eq_false_iff] at ha
    obtain ⟨h1, h2⟩ := h.same ha.1
    have hfix : FP u p I' i = I' i := by
      funext x
      rcases Nat.lt_or_ge x u.regs.toNat with hx | hx
      · refine Classical.byContradiction fun hne => ?_
        have := hd.2 ⟨x, hx, hne⟩
        rw [ha.2] at this
        cases this
      · have e1 : FP u p I' i x = false := by
          cases hc : FP u p I' i x
          · rfl
          · have := FP_bndN hu h.bnd hi hc; omega
        have e2 : I' i x = false := by
          cases hc : I' i x
          · rfl
          · have := h.bnd i x hc; omega
        rw [e1, e2]
    have hset : setAt I' i (FP u p I' i) = I' := by
      funext b
      simp only [setAt]
      split
      · rename_i e; subst e; exact hfix
      · rfl
    rw [hset]
    refine ⟨h1, fun b hb hbl => ?_⟩
    by_cases hbi : b = i
    · subst hbi; rw [← h1]; exact hfix
    · exact h2 b (by omega) hbl
/-- A Live of the reference, as it lies. -/
structure LR (H : Hp) (lp rp ri ci : Nat) (σ : Nat → Nat) (ex : List CV) (u : UUnit) (p : Nat → Bool) (I : Nat → Nat → Bool) : Prop where
  l : H lp = some (.cells (unitC u ++ [.ref rp 0 u.regs.toNat u.regs.toNat, .ref ri 0 u.blocks.length ci]))
  r : H rp = some (.cells (boolC u.regs.toNat p))
  i : H ri = some (.cells (refsC u.blocks.length u.regs.toNat σ ++ ex))
  n : u.blocks.length ≤ ci
  s : ∀ b, b < u.blocks.length → H (σ b) = some (.cells (boolC u.regs.toNat (I b)))
section
variable {H H' : Hp} {lp rp ri ci : Nat} {σ : Nat → Nat} {ex : List CV} {u : UUnit} {p : Nat → Bool} {I : Nat → Nat → Bool}
theorem LR.mono (h : LR H lp rp ri ci σ ex u p I) (hl : Le H H') : LR H' lp rp ri ci σ ex u p I :=
  ⟨hl _ _ h.l, hl _ _ h.r, hl _ _ h.i, h.n, fun b hb => hl _ _ (h.s b hb)⟩
theorem LR.fzIn (h : LR H lp rp ri ci σ ex u p I) : Fz H (.ref ri 0 u.blocks.length ci) (.sl 1 (insS u.blocks.length u.regs.toNat I)) := by
  refine .ref ri 0 _ ci 1 _ _ h.i insS_len h.n (fun i e he => ?_) (fun i _ => .ref (σ i) 0 u.regs.toNat u.regs.toNat) (fun i j hi hj => ?_) (fun i j e x he hx => ?_)
  · simp only [insS, List.getElem?_map] at he
    cases hr : (List.range u.blocks.length)[i]? with
    | none => rw [hr] at he; simp at he
    | some b => rw [hr] at he; simp at he; rw [← he]; rfl
  · have : j = 0 := by omega
    subst this
    rw [show 0 + (i * 1 + 0) = i by omega, List.getElem?_append_left (by rw [refsC_len]; exact hi), refsC_get hi]
  · have hi : i < u.blocks.length := by have := (List.getElem?_eq_some_iff.1 he).1; simpa [insS] using this
    rw [insS_get hi] at he
    injection he with he
    rw [← he] at hx
    cases j with
    | zero => simp at hx; subst hx; exact fz_bool (h.s i hi) (Nat.le_refl _)
    | succ j => simp at hx
theorem LR.fz (h : LR H lp rp ri ci σ ex u p I) : Fz H (.ptr lp 0) (.iptr (refC u p I)) := by
  refine .ptr lp 0 _ _ h.l (fun j => (unitC u ++ [CV.ref rp 0 u.regs.toNat u.regs.toNat, CV.ref ri 0 u.blocks.length ci]).getD j .any) (fun j hj => ?_) (fun j x hx => ?_)
  · have hj : j < 8 := by simpa [refC, unitC] using hj
    rw [Nat.zero_add, List.getD_eq_getElem?_getD, List.getElem?_eq_getElem (by simp [unitC]; omega)]
    rfl
  · simp only [refC, unitC] at hx ⊢
    rcases j with _|_|_|_|_|_|_|_|j
    all_goals simp at hx ⊢
    all_goals subst hx
    all_goals first
      | exact .same _
      | exact fz_bool h.r (Nat.le_refl _)
      | exact h.fzIn
end
theorem Own.putB {B H : Hp} {v : CV} {sz : Nat} {xs : List (List CV)} (h : Own B H v sz xs) {q : Nat} {o : Ob} (hq : B q ≠ none) : Own (B.set q o) (H.set q o) v sz xs := by
  obtain ⟨h1, h2, h3⟩ := h
  refine ⟨h1.set, h2, ?_⟩
  rcases h3 with h3 | ⟨r, c, ex, rfl, h4, h5, h6⟩
  · exact .inl h3
  · have hne : r ≠ q := fun e => hq (by rw [← e]; exact h4)
    exact .inr ⟨r, c, ex, rfl, by rw [hset_ne hne]; exact h4, by rw [hset_ne hne]; exact h5, h6⟩
/-- What Of holds while it looks again and again. -/
structure O2 (H B : Hp) (u : UUnit) (p : Nat → Bool) (q1 lp rp ri ci : Nat) (σ : Nat → Nat) (ex : List CV) (I : Nat → Nat → Bool) : Prop where
  base : Le H B
  h1 : B q1 = some (.cells (unitC u))
  L : LR B lp rp ri ci σ ex u p I
  i1 : ri ≠ q1
  il : ri ≠ lp
  ir : ri ≠ rp
  is : ∀ b, b < u.blocks.length → ri ≠ σ b
  hi : H ri = none
section
variable {H B : Hp} {u : UUnit} {p : Nat → Bool} {q1 lp rp ri ci : Nat} {σ : Nat → Nat} {ex : List CV} {I : Nat → Nat → Bool}
theorem O2.more (h : O2 H B u p q1 lp rp ri ci σ ex I) {q : Nat} {o : Ob} (hq : B q = none) : O2 H (B.set q o) u p q1 lp rp ri ci σ ex I := by
  have hl : Le B (B.set q o) := Le.set_new hq
  exact ⟨h.base.trans hl, hl _ _ h.h1, h.L.mono hl, h.i1, h.il, h.ir, h.is, h.hi⟩
theorem O2.step (h : O2 H B u p q1 lp rp ri ci σ ex I) {r i : Nat} {f : Nat → Bool} (hr : B r = none) (hi : i < u.blocks.length) :
    O2 H ((B.set r (.cells (boolC u.regs.toNat f))).set ri (.cells (refsC u.blocks.length u.regs.toNat (fun b => if b = i then r else σ b) ++ ex))) u p q1 lp rp ri ci (fun b => if b = i then r else σ b) ex (setAt I i f) := by
  have k : ∀ q o, B q = some o → q ≠ r := fun q o hq e => by rw [e, hr] at hq; cases hq
  have k1 := k _ _ h.h1
  have kl := k _ _ h.L.l
  have kr := k _ _ h.L.r
  have ki := k _ _ h.L.i
  refine ⟨(h.base.trans (Le.set_new hr)).put h.hi, by simp [Ne.symm h.i1, k1, h.h1], ⟨by simp [Ne.symm h.il, kl, h.L.l], by simp [Ne.symm h.ir, kr, h.L.r], by simp, h.L.n, fun b hb => ?_⟩, h.i1, h.il, h.ir, fun b hb => ?_, h.hi⟩
  · by_cases hbi : b = i
    · subst hbi; simp [Ne.symm ki, setAt]
    · have := k _ _ (h.L.s b hb)
      simp [hbi, Ne.symm (h.is b hb), this, h.L.s b hb, setAt]
  · by_cases hbi : b = i
    · subst hbi; simpa using ki
    · simpa [hbi] using h.is b hb
end
end Go.Cl
set_option linter.unusedSimpArgs false
set_option linter.unusedVariables false
namespace Go.Cl
open Go.Proofs Dd
variable {W : World} {G : Nat → CV}
set_option maxRecDepth 8000
set_option maxHeartbeats 4000000
/-- Frozen: the poison as it lies. -/
theorem mayEnd_h (hX : CxOk (cx W G)) (e : UEnd) (n rr : Nat) (p : Nat → Bool) (hk : 1 ≤ e.kind ∧ e.kind ≤ 4) (ha : e.kind ≠ 1 → 0 ≤ e.a ∧ e.a < n) {H : Hp} (hr : H rr = some (.cells (boolC n p))) : CC Tryz.prog W 71 [.agg (endC e), .ref rr 0 n n] H fun x H' => x = .ret (.bool (mayEnd p e)) ∧ H' = H := by
  refine (CC.freeze (args' := [.agg (endC e), .sl 1 (boolS n p)]) (R := fun v => v = .bool (mayEnd p e)) (by rfl) ?_ ?_ ?_).mono ?_
  · intro j x y hx hy
    rcases j with _|_|j
    · simp at hx hy; subst hx; subst hy; exact .same _
    · simp at hx hy; subst hx; subst hy; exact fz_bool hr (Nat.le_refl _)
    · simp at hx
  · rintro v rfl; simp [plainV]
  · intro w hw
    exact (mayEnd62_c (W := w) (CxOk.later hX hw) e n p hk ha _).mono fun x H' ⟨h1, _⟩ => ⟨_, h1, rfl⟩
  · rintro x H2 ⟨v, rfl, rfl, rfl⟩
    exact ⟨rfl, rfl⟩
theorem may_h (hX : CxOk (cx W G)) (o : UOp) (n rr : Nat) (p : Nat → Bool) (hg : o.guard ≠ -1 → 0 ≤ o.guard ∧ o.guard < n) (ha : o.kind = 20 ∨ o.kind = 21 ∨ o.kind = 22 → 0 ≤ o.a ∧ o.a < n) {H : Hp} (hr : H rr = some (.cells (boolC n p))) : CC Tryz.prog W 72 [.agg (opC o), .ref rr 0 n n] H fun x H' => x = .ret (.bool (mayTrap p o)) ∧ H' = H := by
  refine (CC.freeze (args' := [.agg (opC o), .sl 1 (boolS n p)]) (R := fun v => v = .bool (mayTrap p o)) (by rfl) ?_ ?_ ?_).mono ?_
  · intro j x y hx hy
    rcases j with _|_|j
    · simp at hx hy; subst hx; subst hy; exact .same _
    · simp at hx hy; subst hx; subst hy; exact fz_bool hr (Nat.le_refl _)
    · simp at hx
  · rintro v rfl; simp [plainV]
  · intro w hw
    exact (may63_c (W := w) (CxOk.later hX hw) o n p _ hg ha).mono fun x H' ⟨h1, _⟩ => ⟨_, h1, rfl⟩
  · rintro x H2 ⟨v, rfl, rfl, rfl⟩
    exact ⟨rfl, rfl⟩
def throwsB (p : Nat → Bool) (k : UBlk) : Bool := mayEnd p k.en || k.ops.any (mayTrap p)
def thrL (p : Nat → Bool) (l : List UBlk) : List (List CV) := l.map fun k => [.bool (throwsB p k)]
structure thI (H H1 : Hp) (u : UUnit) (p : Nat → Bool) (q1 rr : Nat) (d : Nat) (j : Nat) (s' : CA) (H' : Hp) : Prop where
  ex : ∃ (i i5 : Nat) (v : CV), i ≤ u.blocks.length ∧ j = u.blocks.length - i ∧ s'.env 1 = .ptr q1 0 ∧ s'.env 3 = .ref rr 0 u.regs.toNat u.regs.toNat ∧ s'.env 4 = v ∧ s'.env 5 = .int .i64 i5 ∧ i5 + d = i ∧ s'.ds = [] ∧ Own H1 H' v 1 (thrL p (u.blocks.take i))
structure thE (H H1 : Hp) (u : UUnit) (p : Nat → Bool) (s' : CA) (H' : Hp) : Prop where
  ex : ∃ (v : CV), s'.env 4 = v ∧ s'.ds = [] ∧ Own H1 H' v 1 (thrL p u.blocks)
structure thX (q1 rr n r6 i : Nat) (v : CV) (b : Bool) (H6 : Hp) (s' : CA) (H' : Hp) : Prop where
  ex : s'.env 1 = .ptr q1 0 ∧ s'.env 3 = .ref rr 0 n n ∧ s'.env 4 = v ∧ s'.env 5 = .int .i64 i ∧ s'.env 6 = .ptr r6 0 ∧ s'.env 7 = .bool b ∧ s'.ds = [] ∧ H' = H6
structure thY (q1 rr n r6 i : Nat) (v : CV) (p : Nat → Bool) (k : UBlk) (H6 : Hp) (d : Nat) (j : Nat) (s' : CA) (H' : Hp) : Prop where
  ex : ∃ t t8 : Nat, t ≤ k.ops.length ∧ j = k.ops.length - t ∧ thX q1 rr n r6 i v (mayEnd p k.en || (k.ops.take t).any (mayTrap p)) H6 s' H' ∧ s'.env 8 = .int .i64 t8 ∧ t8 + d = t
structure ThR (H : Hp) (u : UUnit) (x : CE) (H' : Hp) : Prop where
  ex : ∃ v p c H1, x = .ret v ∧ Le H H1 ∧ PLeast (opsOf u) p c ∧ Own H1 H' v 1 (thrL p u.blocks)
theorem throws39_c (hX : CxOk (cx W G)) (u : UUnit) (hu : wfU u = true) (H : Hp) : CC Tryz.prog W 42 [.agg (unitC u)] H (ThR H u) := by
  obtain ⟨f1, f2, f3, f4, f5, f6, f7, f8, f9, f10, f11⟩ := wfU_facts hu
  refine CC.of_cw hX Tryz.func42 rfl rfl (Nat.le_of_ble_eq_true rfl) ?_
  refine CW.walk hX mixed d42 rfl ?_
  simp
  intro q1 hq1
  refine CW.walk hX mixed d42 rfl ?_
  simp [unitC]
  refine (poisons61_c hX u hu _).k ?_
  rintro x H1 ⟨p, c, rr, rfl, hrp, hr, hle, hpl⟩
  simp
  have hH1 : Le H H1 := (Le.set_new hq1).trans hle
  have h11 : H1 q1 = some (.cells (unitC u)) := hle q1 _ (by simp [unitC])
  clear hle hrp hq1
  refine CW.walk hX mixed d42 rfl ?_
  simp
  refine CW.cut (thE H H1 u p) ?_ ?_
  · refine CW.walk hX mixed d42 rfl ?_
    simp
    refine CW.block ?_
    refine CW.loop (thI H H1 u p q1 rr 0) ?_ (m := u.blocks.length) ⟨0, 0, .nilsl, by omega, rfl, by simp, by simp, by simp, by simp, rfl, rfl, Own.nil (Le.refl _)⟩
    rintro j ⟨e, ds⟩ H2 ⟨i, i5, v, hi, rfl, e1, e3, e4, e5, hd, rfl, hown⟩
    obtain rfl : i5 = i := by omega
    dsimp only at e1 e3 e4 e5
    have m1 := hown.le _ _ h11
    have mr := hown.le _ _ hr
    simp only [unitC] at m1
    by_cases hil : i5 < u.blocks.length
    rotate_left
    · refine CW.walk hX mixed d42 rfl ?_
      simp [e1, e5, m1, hil]
      have : i5 = u.blocks.length := by omega
      subst this
      rw [List.take_length] at hown
      exact ⟨v, by simp [e4], rfl, hown⟩
    obtain ⟨k, hke⟩ : ∃ k, u.blocks[i5] = k := ⟨_, rfl⟩
    have hk : u.blocks[i5]? = some k := by rw [List.getElem?_eq_getElem hil, hke]
    obtain ⟨hct, hlen, hwo, hwe⟩ := wfB_facts hu hk
    obtain ⟨g1, g2, g3, g4, g5⟩ := wfE_facts hwe
    refine CW.walk hX mixed d42 rfl ?_
    simp [e1, e5, m1, hil]
    refine CW.cut (thI H H1 u p q1 rr 1 (u.blocks.length - (i5 + 1))) ?_ ?_
    · refine CW.block ?_
      refine CW.walk hX mixed d42 rfl ?_
      simp [e1, e5, m1, hil, hke, blkC]
      intro r6 hr6
      have hl6 : Le H2 (H2.set r6 (.cells (blkC k))) := Le.set_new hr6
      have m6 : (H2.set r6 (.cells (blkC k))) r6 = some (.cells (blkC k)) := set_at
      have hown6 := hown.mono hl6
      simp only [blkC, blkT] at hl6 m6 hown6
      have mr6 := hl6 _ _ mr
      generalize H2.set r6 _ = H3 at hl6 m6 mr6 hown6 ⊢
      have hme := mayEnd_h hX k.en u.regs.toNat rr p ⟨g1, g2⟩ (fun q => by have := g3 q; omega) mr6
      simp only [endC] at hme
      refine CW.walk hX mixed d42 rfl ?_
      simp [e3, m6]
      refine hme.k ?_
      rintro x H4 ⟨rfl, rfl⟩
      simp
      refine CW.cut (thX q1 rr u.regs.toNat r6 i5 v (throwsB p k) H4) ?_ ?_
      · refine CW.walk hX mixed d42 rfl ?_
        simp
        refine CW.block ?_
        refine CW.loop (thY q1 rr u.regs.toNat r6 i5 v p k H4 0) ?_ (m := k.ops.length) ⟨0, 0, by omega, rfl, ⟨by simp [e1], by simp [e3], by simp [e4], by simp [e5], by simp, by simp, rfl, rfl⟩, by simp, rfl⟩
        clear e1 e3 e4 e5
        rintro j ⟨e, ds⟩ H5 ⟨t, t', ht, rfl, ⟨e1, e3, e4, e5, e6, e7, rfl, rfl⟩, e8, htt⟩
        obtain rfl : t' = t := by omega
        dsimp only at e1 e3 e4 e5 e6 e7 e8
        by_cases htl : t' < k.ops.length
        rotate_left
        · have htt : t' = k.ops.length := by omega
          rw [htt, List.take_length] at e7
          refine CW.walk hX mixed d42 rfl ?_
          simp [e6, e8, m6, htl]
          exact ⟨by simp [e1], by simp [e3], by simp [e4], by simp [e5], by simp [e6], by simp [e7, throwsB], rfl, rfl⟩
        obtain ⟨o, hoe⟩ : ∃ o, k.ops[t'] = o := ⟨_, rfl⟩
        have ho : k.ops[t']? = some o := by rw [List.getElem?_eq_getElem htl, hoe]
        obtain ⟨w1, w2, w3, w4, w5, w6, w7, w8, w9⟩ := wfO_facts (hwo o (List.mem_of_getElem? ho)) f3
        refine CW.walk hX mixed d42 rfl ?_
        simp [e6, e8, m6, htl]
        have htk : (k.ops.take (t' + 1)).any (mayTrap p) = ((k.ops.take t').any (mayTrap p) || mayTrap p o) := by rw [List.take_add_one, ho, List.any_append]; simp
        refine CW.cut (thY q1 rr u.regs.toNat r6 i5 v p k H5 1 (k.ops.length - (t' + 1))) ?_ ?_
        · refine CW.block ?_
          refine CW.walk1 hX mixed d42 rfl ?_
          cases hx7 : (mayEnd p k.en || (k.ops.take t').any (mayTrap p)) with
          | true =>
            rw [hx7] at e7
            simp [d42, e7]
            exact ⟨t' + 1, t', htl, rfl, ⟨by simp [e1], by simp [e3], by simp [e4], by simp [e5], by simp [e6], by simp [htk, ← Bool.or_assoc, hx7], rfl, rfl⟩, by simp [e8], rfl⟩
          | false =>
            rw [hx7] at e7
            have hmt := may_h hX o u.regs.toNat rr p (fun q => by have := w5 q; omega) (fun q => by have := w8 q; omega) mr6
            simp only [opC] at hmt
            simp [d42, e3, e6, e7, e8, m6, htl, hoe, opC]
            refine hmt.k ?_
            rintro x H6 ⟨rfl, rfl⟩
            simp [d42]
            exact ⟨t' + 1, t', htl, rfl, ⟨by simp [e1], by simp [e3], by simp [e4], by simp [e5], by simp [e6], by simp [htk, ← Bool.or_assoc, hx7], rfl, rfl⟩, by simp [e8], rfl⟩
        · rintro ⟨e, ds⟩ H6 ⟨t2, t3, ht2, hj2, ⟨g1, g3, g4, g5, g6, g7, rfl, rfl⟩, g8, htt2⟩
          dsimp only at g1 g3 g4 g5 g6 g7 g8
          refine CW.walk1 hX mixed d42 rfl ?_
          simp [g8]
          exact ⟨k.ops.length - (t' + 1), by omega, t2, t2, ht2, hj2, ⟨by simp [g1], by simp [g3], by simp [g4], by simp [g5], by simp [g6], by simp [g7], rfl, rfl⟩, by simp; rw [wrapI (by omega) (by omega)]; omega, rfl⟩
      · clear e1 e3 e4 e5
        rintro ⟨e, ds⟩ H5 ⟨e1, e3, e4, e5, e6, e7, rfl, rfl⟩
        dsimp only at e1 e3 e4 e5 e6 e7
        refine CW.walk1 hX mixed d42 rfl ?_
        simp [e4, e7, cfill, -vcAppend]
        intro q hq
        refine (hown6.more (r := q) (o := .cells [.bool (throwsB p k)]) hq).append (ys := [[.bool (throwsB p k)]]) (by simp) (by simp [thrL]; omega) (src_one set_at rfl) fun v' H6 how6 _ => ?_
        have hnew : thrL p (u.blocks.take i5) ++ [[CV.bool (throwsB p k)]] = thrL p (u.blocks.take (i5 + 1)) := by rw [List.take_add_one, hk]; simp [thrL]
        rw [hnew] at how6
        simp
        exact ⟨i5 + 1, i5, v', hil, rfl, by simp [e1], by simp [e3], by simp, by simp [e5], rfl, rfl, how6⟩
    · rintro ⟨en, ds⟩ H3 ⟨i', i5', v', hi', hj', g1, g3, g4, g5, hd', rfl, hown'⟩
      dsimp only at g1 g3 g4 g5
      refine CW.walk1 hX mixed d42 rfl ?_
      simp [g5]
      exact ⟨u.blocks.length - (i5 + 1), by omega, i', i', v', hi', hj', by simp [g1], by simp [g3], by simp [g4], by simp; rw [wrapI (by omega) (by omega)]; omega, rfl, rfl, hown'⟩
  rintro ⟨e, ds⟩ H2 ⟨v, e4, rfl, hown⟩
  dsimp only at e4
  refine CW.walk1 hX mixed d42 rfl ?_
  simp [e4]
  exact ⟨v, p, c, H1, rfl, hH1, hpl, hown⟩
end Go.Cl
