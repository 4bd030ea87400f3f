/- DERIVED HERE. The reference's Check: it says what the program's Check says. DERIVED HERE. The reference's small functions on operations and sets; behind, aside. DERIVED HERE. The reference's Live: behind, aside, Before. DERIVED HERE. The reference's Live: Before. DERIVED HERE. The reference's Poisons. DERIVED HERE. The reference's Of: what is live in a unit. DERIVED HERE. The reference's Throws. -/
import Derived.Test.YtjofhmdjaijgcaaGreatDoorEB
import Derived.Test.YtjofhmdjaijgcaaGreatDoorLenK
import Derived.Test.YtjofhmdjaijgcaaGreatDoorPD
import Derived.Test.YtjofhmdjaijgcaaGreatDoorNM
set_option linter.unusedSimpArgs false
set_option linter.unusedVariables false
namespace Go.Cl
open Go.Proofs Dd
variable {W : World} {G : Nat → CV}
set_option maxRecDepth 8000
set_option maxHeartbeats 4000000
theorem one92_c (hX : CxOk (cx W G)) (k : Int) (H : Hp) : CC Tryz.prog W 107 [ci k] H fun x H' => x = .ret (.bool (isKind k)) ∧ H' = H := by
  refine CC.at0 ?_ H
  refine CC.of_ev hX mixed d107 Tryz.func107 rfl rfl (Nat.le_of_ble_eq_true rfl) d107_ok ?_
  simp [Tryz.f107, d107]
  simp only [isKind]
  repeat' (first | intro _ | apply And.intro)
  all_goals (rw [Bool.eq_iff_iff]; simp; try omega)
def isCell (k : Int) : Bool := decide (k = 18) || decide (k = 19)
theorem cell93_c (hX : CxOk (cx W G)) (k : Int) (H : Hp) : CC Tryz.prog W 109 [ci k] H fun x H' => x = .ret (.bool (isCell k)) ∧ H' = H := by
  refine CC.at0 ?_ H
  refine CC.of_ev hX mixed d109 Tryz.func109 rfl rfl (Nat.le_of_ble_eq_true rfl) d109_ok ?_
  simp [Tryz.f109, d109]
  simp only [isCell]
  repeat' (first | intro _ | apply And.intro)
  all_goals (rw [Bool.eq_iff_iff]; simp; try omega)
def hN (k : Int) : Bool := decide (k = 1) || isArr k || isCell k || decide (k = 21)
theorem hasN94_c (hX : CxOk (cx W G)) (k : Int) (H : Hp) : CC Tryz.prog W 110 [ci k] H fun x H' => x = .ret (.bool (hN k)) ∧ H' = H := by
  refine CC.of_ev hX mixed d110 Tryz.func110 rfl rfl (Nat.le_of_ble_eq_true rfl) d110_ok ?_
  by_cases h1 : k = 1
  · subst h1; simp [Tryz.f110, d110, hN]
  · simp [Tryz.f110, d110, h1]
    refine (isArr_c hX k H).k ?_
    rintro x H' ⟨rfl, rfl⟩
    by_cases h2 : isArr k = true
    · simp [h2, hN]
    · simp [h2]
      refine (cell93_c hX k _).k ?_
      rintro x H' ⟨rfl, rfl⟩
      by_cases h3 : isCell k = true
      · simp [h3, hN]
      · simp [h3, hN, h1, h2, decide_beq]
def hD (k : Int) : Bool := decide (k ≠ 17) && decide (k ≠ 19) && decide (k ≠ 20) && decide (k ≠ 21) && decide (k ≠ 22)
theorem hasDst64_c (hX : CxOk (cx W G)) (k : Int) (H : Hp) : CC Tryz.prog W 58 [ci k] H fun x H' => x = .ret (.bool (hD k)) ∧ H' = H := by
  refine CC.at0 ?_ H
  refine CC.of_ev hX mixed d58 Tryz.func58 rfl rfl (Nat.le_of_ble_eq_true rfl) d58_ok ?_
  simp [Tryz.f58, d58]
  simp only [hD]
  repeat' (first | intro _ | apply And.intro)
  all_goals (rw [Bool.eq_iff_iff]; simp; try omega)
theorem has_bits2 {k : Int} (h : isKind k = true) : hD k = uBit k 0 ∧ hN k = (uBit k 4 || uBit k 5 || uBit k 6 || uBit k 7) ∧ isArr k = uBit k 5 ∧ isCell k = uBit k 6 ∧ decide (k = 21) = uBit k 7 := by
  simp only [isKind, Bool.and_eq_true, decide_eq_true_eq] at h
  have kinds : k = 1 ∨ k = 2 ∨ k = 3 ∨ k = 4 ∨ k = 5 ∨ k = 6 ∨ k = 7 ∨ k = 8 ∨ k = 9 ∨ k = 10 ∨ k = 11 ∨ k = 12 ∨ k = 13 ∨ k = 14 ∨ k = 15 ∨ k = 16 ∨ k = 17 ∨ k = 18 ∨ k = 19 ∨ k = 20 ∨ k = 21 ∨ k = 22 ∨ k = 23 ∨ k = 24 ∨ k = 25 := by omega
  rcases kinds with k | k | k | k | k | k | k | k | k | k | k | k | k | k | k | k | k | k | k | k | k | k | k | k | k <;> subst k <;> exact ⟨rfl, rfl, rfl, rfl, rfl⟩
theorem reg58_c (hX : CxOk (cx W G)) (u : UUnit) (r : Int) (H : Hp) : CC Tryz.prog W 72 [.agg (unitC u), ci r] H fun x H' => x = .ret (.bool (inR r u.regs)) ∧ H' = H := by
  refine CC.shrink ?_
  refine CC.of_ev hX mixed d72 Tryz.func72 rfl rfl (Nat.le_of_ble_eq_true rfl) d72_ok ?_
  simp [Tryz.f72, d72, unitC]
  intro q hq
  have hle : Le H (H.set q (.cells (unitC u))) := Le.set_new hq
  simp only [unitC] at hle
  by_cases h : 0 ≤ r
  · simp [h, inR, hle]; omega
  · simp [h, inR, hle]
theorem there95_c (hX : CxOk (cx W G)) (u : UUnit) (r : Int) (H : Hp) : CC Tryz.prog W 111 [.agg (unitC u), ci r] H fun x H' => x = .ret (.bool (inR r u.blocks.length)) ∧ H' = H := by
  refine CC.shrink ?_
  refine CC.of_ev hX mixed d111 Tryz.func111 rfl rfl (Nat.le_of_ble_eq_true rfl) d111_ok ?_
  simp [Tryz.f111, d111, unitC]
  intro q hq
  have hle : Le H (H.set q (.cells (unitC u))) := Le.set_new hq
  simp only [unitC] at hle
  by_cases h : 0 ≤ r
  · simp [h, inR, hle]; omega
  · simp [h, inR, hle]
theorem end60_c (hX : CxOk (cx W G)) (u : UUnit) (e : UEnd) (H : Hp) : CC Tryz.prog W 74 [.agg (unitC u), .agg (endC e)] H fun x H' => x = .ret (ci (errEnd u e)) ∧ H' = H := by
  refine CC.shrink ?_
  refine CC.of_cw hX Tryz.func74 rfl rfl (Nat.le_of_ble_eq_true rfl) ?_
  refine CW.walk hX mixed d74 rfl ?_
  simp [unitC, endC]
  intro q2 n2 q3 p1 p2 n3
  generalize hH1 : Hp.set _ q3 _ = H1
  have hle : Le H H1 := by rw [← hH1]; exact (Le.set_new n2).trans (Le.set_new (by rw [hset_ne p1]; exact n3))
  have m3 : H1 q3 = some (.cells (endC e)) := by rw [← hH1]; exact set_at
  have m2 : H1 q2 = some (.cells (unitC u)) := by rw [← hH1]; simp [Hp.set, p2, unitC]
  clear hH1
  simp only [endC] at m3
  simp only [unitC] at m2
  have hreg := reg58_c hX u e.a H1
  have hto := there95_c hX u e.to H1
  have hels := there95_c hX u e.els H1
  simp only [unitC] at hreg hto hels
  by_cases hk : 1 ≤ e.kind ∧ e.kind ≤ 4
  rotate_left
  · have he : errEnd u e = 4 := by
      have : (decide (1 ≤ e.kind) && decide (e.kind ≤ 4)) = false := by simp; omega
      simp only [errEnd, this]; rfl
    rw [he]
    refine CW.walk hX mixed d74 rfl ?_
    simp [m3]
    exact ⟨fun _ => hle, fun q1 => ⟨fun _ => hle, fun q2 => absurd ⟨q1, q2⟩ hk⟩⟩
  have hkk : e.kind = 1 ∨ e.kind = 2 ∨ e.kind = 3 ∨ e.kind = 4 := by omega
  rcases hkk with k | k | k | k
  · refine CW.walk hX mixed d74 rfl ?_
    simp [m3, k]
    refine CW.walk hX mixed d74 rfl ?_
    simp [m3, m2, k]
    refine (endA_c hX _ _).k ?_
    rintro x H2 ⟨rfl, rfl⟩
    simp
    refine CW.walk hX mixed d74 rfl ?_
    simp [m3, m2, k]
    refine (endTo_c hX _ _).k ?_
    rintro x H3 ⟨rfl, rfl⟩
    simp [m2, m3]
    refine hto.k ?_
    rintro x H4 ⟨rfl, rfl⟩
    by_cases ht : inR e.to u.blocks.length = true
    rotate_left
    · simp [ht, errEnd, k, goes]
      exact hle
    simp [ht, m3, k]
    refine (endElse_c hX _ _).k ?_
    rintro x H5 ⟨rfl, rfl⟩
    simp
    refine CW.walk hX mixed d74 rfl ?_
    simp [m3, m2, k]
    refine (endA_c hX _ _).k ?_
    rintro x H6 ⟨rfl, rfl⟩
    by_cases ha : e.a = 0
    rotate_left
    · simp [m3, ha, errEnd, k, goes, branches, ht]
      exact hle
    simp [m3, ha, k]
    refine (endTo_c hX _ _).k ?_
    rintro x H7 ⟨rfl, rfl⟩
    simp [m3, k]
    refine (endElse_c hX _ _).k ?_
    rintro x H8 ⟨rfl, rfl⟩
    by_cases hl : e.els = 0
    · simp [m3, hl]
      refine CW.walk1 hX mixed d74 rfl ?_
      simp [errEnd, k, goes, branches, ht, ha, hl]
      exact hle
    · simp [m3, hl, errEnd, k, goes, branches, ht, ha]
      exact hle
  · refine CW.walk hX mixed d74 rfl ?_
    simp [m3, k]
    refine CW.walk hX mixed d74 rfl ?_
    simp [m3, m2, k]
    refine (endA_c hX _ _).k ?_
    rintro x H2 ⟨rfl, rfl⟩
    simp [m2, m3]
    refine hreg.k ?_
    rintro x H2 ⟨rfl, rfl⟩
    by_cases hr : inR e.a u.regs = true
    rotate_left
    · simp [hr, errEnd, k]
      exact hle
    simp [hr]
    refine CW.walk hX mixed d74 rfl ?_
    simp [m3, m2, k]
    refine (endTo_c hX _ _).k ?_
    rintro x H3 ⟨rfl, rfl⟩
    simp [m2, m3]
    refine hto.k ?_
    rintro x H4 ⟨rfl, rfl⟩
    by_cases ht : inR e.to u.blocks.length = true
    rotate_left
    · simp [ht, errEnd, k, goes, hr]
      exact hle
    simp [ht, m3, k]
    refine (endElse_c hX _ _).k ?_
    rintro x H5 ⟨rfl, rfl⟩
    simp [m2, m3]
    refine hels.k ?_
    rintro x H5 ⟨rfl, rfl⟩
    by_cases hel : inR e.els u.blocks.length = true
    rotate_left
    · simp [hel, errEnd, k, goes, branches, hr, ht]
      exact hle
    simp [hel]
    refine CW.walk hX mixed d74 rfl ?_
    simp [m3, m2, k]
    refine (endA_c hX _ _).k ?_
    rintro x H6 ⟨rfl, rfl⟩
    simp [m3, k]
    refine (endTo_c hX _ _).k ?_
    rintro x H7 ⟨rfl, rfl⟩
    simp [m3, k]
    refine (endElse_c hX _ _).k ?_
    rintro x H8 ⟨rfl, rfl⟩
    simp
    refine CW.walk1 hX mixed d74 rfl ?_
    simp [errEnd, k, goes, branches, ht, hr, hel]
    exact hle
  · refine CW.walk hX mixed d74 rfl ?_
    simp [m3, k]
    refine CW.walk hX mixed d74 rfl ?_
    simp [m3, m2, k]
    refine (endA_c hX _ _).k ?_
    rintro x H2 ⟨rfl, rfl⟩
    simp [m2, m3]
    refine hreg.k ?_
    rintro x H2 ⟨rfl, rfl⟩
    by_cases hr : inR e.a u.regs = true
    rotate_left
    · simp [hr, errEnd, k]
      exact hle
    simp [hr]
    refine CW.walk hX mixed d74 rfl ?_
    simp [m3, m2, k]
    refine (endTo_c hX _ _).k ?_
    rintro x H3 ⟨rfl, rfl⟩
    simp [m2, m3, k]
    refine (endElse_c hX _ _).k ?_
    rintro x H5 ⟨rfl, rfl⟩
    simp [m2, m3]
    refine CW.walk hX mixed d74 rfl ?_
    simp [m3, m2, k]
    refine (endA_c hX _ _).k ?_
    rintro x H6 ⟨rfl, rfl⟩
    simp [m3, k]
    refine (endTo_c hX _ _).k ?_
    rintro x H7 ⟨rfl, rfl⟩
    by_cases ht : e.to = 0
    rotate_left
    · simp [m3, ht, errEnd, k, goes, branches, hr]
      exact hle
    simp [m3, k, ht]
    refine (endElse_c hX _ _).k ?_
    rintro x H8 ⟨rfl, rfl⟩
    by_cases hl : e.els = 0
    · simp [m3, hl]
      refine CW.walk1 hX mixed d74 rfl ?_
      simp [errEnd, k, goes, branches, ht, hr, hl]
      exact hle
    · simp [m3, hl, errEnd, k, goes, branches, ht, hr]
      exact hle
  · refine CW.walk hX mixed d74 rfl ?_
    simp [m3, k]
    refine CW.walk hX mixed d74 rfl ?_
    simp [m3, m2, k]
    refine (endA_c hX _ _).k ?_
    rintro x H2 ⟨rfl, rfl⟩
    simp [m2, m3]
    refine hreg.k ?_
    rintro x H2 ⟨rfl, rfl⟩
    by_cases hr : inR e.a u.regs = true
    rotate_left
    · simp [hr, errEnd, k]
      exact hle
    simp [hr]
    refine CW.walk hX mixed d74 rfl ?_
    simp [m3, m2, k]
    refine (endTo_c hX _ _).k ?_
    rintro x H3 ⟨rfl, rfl⟩
    simp [m2, m3, k]
    refine (endElse_c hX _ _).k ?_
    rintro x H5 ⟨rfl, rfl⟩
    simp [m2, m3]
    refine CW.walk hX mixed d74 rfl ?_
    simp [m3, m2, k]
    refine (endA_c hX _ _).k ?_
    rintro x H6 ⟨rfl, rfl⟩
    simp [m3, k]
    refine (endTo_c hX _ _).k ?_
    rintro x H7 ⟨rfl, rfl⟩
    by_cases ht : e.to = 0
    rotate_left
    · simp [m3, ht, errEnd, k, goes, branches, hr]
      exact hle
    simp [m3, k, ht]
    refine (endElse_c hX _ _).k ?_
    rintro x H8 ⟨rfl, rfl⟩
    by_cases hl : e.els = 0
    · simp [m3, hl]
      refine CW.walk1 hX mixed d74 rfl ?_
      simp [errEnd, k, goes, branches, ht, hr, hl]
      exact hle
    · simp [m3, hl, errEnd, k, goes, branches, ht, hr]
      exact hle
def regAt (o : UOp) (i : Nat) : Int := [o.dst, o.a, o.b, o.c].getD i 0
/-- The loops of op: round i, nothing found so far. -/
structure opI (H2 : Hp) (okf : Nat → Bool) (q2 q3 : Nat) (r5 r6 t d : Nat) (mt : Option Int) (j : Nat) (s' : CA) (H' : Hp) : Prop where
  ex : ∃ i it : Nat, i ≤ 4 ∧ j = 4 - i ∧ s'.env 2 = .ptr q2 0 ∧ s'.env 3 = .ptr q3 0 ∧ s'.env 5 = .ref r5 0 4 4 ∧ s'.env 6 = .ref r6 0 4 4 ∧ (∀ m, mt = some m → s'.env 8 = ci m) ∧ s'.env t = .int .i64 it ∧ it + d = i ∧ s'.ds = [] ∧ H' = H2 ∧ ∀ k, k < i → okf k = true
structure opE' (H2 : Hp) (okf : Nat → Bool) (q2 q3 : Nat) (r5 r6 : Nat) (mt : Option Int) (s' : CA) (H' : Hp) : Prop where
  ex : s'.env 2 = .ptr q2 0 ∧ s'.env 3 = .ptr q3 0 ∧ s'.env 5 = .ref r5 0 4 4 ∧ s'.env 6 = .ref r6 0 4 4 ∧ (∀ m, mt = some m → s'.env 8 = ci m) ∧ s'.ds = [] ∧ H' = H2 ∧ ∀ k, k < 4 → okf k = true
theorem op59_c (hX : CxOk (cx W G)) (u : UUnit) (hs : 0 ≤ u.spill) (o : UOp) (H : Hp) : CC Tryz.prog W 73 [.agg (unitC u), .agg (opC o)] H fun x H' => x = .ret (ci (errOp u o)) ∧ H' = H := by
  refine CC.shrink ?_
  refine CC.of_cw hX Tryz.func73 rfl rfl (Nat.le_of_ble_eq_true rfl) ?_
  refine CW.walk hX mixed d73 rfl ?_
  simp [unitC, opC]
  intro q2 n2 q3 p1 p2 n3
  generalize hH1 : Hp.set _ q3 _ = H1
  have hle : Le H H1 := by rw [← hH1]; exact (Le.set_new n2).trans (Le.set_new (by rw [hset_ne p1]; exact n3))
  have m3 : H1 q3 = some (.cells (opC o)) := by rw [← hH1]; exact set_at
  have m2 : H1 q2 = some (.cells (unitC u)) := by rw [← hH1]; simp [Hp.set, p2, unitC]
  clear hH1
  simp only [opC] at m3
  simp only [unitC] at m2
  by_cases hk : isKind o.kind = true
  rotate_left
  · have hk : isKind o.kind = false := by simpa using hk
    refine CW.walk hX mixed d73 rfl ?_
    simp [m3]
    refine (one92_c hX _ _).k ?_
    rintro x H2 ⟨rfl, rfl⟩
    simp [hk, errOp]
    exact hle
  refine CW.walk hX mixed d73 rfl ?_
  simp [m3]
  refine (one92_c hX _ _).k ?_
  rintro x H2 ⟨rfl, rfl⟩
  simp [hk]
  obtain ⟨b0, bN, b5, b6, b7⟩ := has_bits2 hk
  obtain ⟨b1, b2, b3⟩ := has_bits hk
  refine CW.walk hX mixed d73 rfl ?_
  simp [d73, m3]
  refine (hasDst64_c hX _ _).k ?_
  rintro x H3 ⟨rfl, rfl⟩
  simp [m3]
  refine ⟨⟨stabI_le rfl (Le.refl _), stabI_le rfl (Le.refl _), stabI_le rfl (Le.refl _)⟩, ?_⟩
  refine (hasA_c hX _ _).k ?_
  rintro x H4 ⟨rfl, rfl⟩
  simp [m3]
  refine ⟨⟨stabI_le rfl (Le.refl _), stabI_le rfl (Le.refl _)⟩, ?_⟩
  refine (hasB_c hX _ _).k ?_
  rintro x H5 ⟨rfl, rfl⟩
  simp [m3]
  refine ⟨stabI_le rfl (Le.refl _), ?_⟩
  refine (hasC_c hX _ _).k ?_
  rintro x H6 ⟨rfl, rfl⟩
  simp [cfill, b0, b1, b2, b3]
  intro r5 n5
  have nq5 : ∀ {q o}, H6 q = some o → q ≠ r5 := fun h k => by rw [k, n5] at h; cases h
  refine CW.walk hX mixed d73 rfl ?_
  simp [m3, nq5 m3, cfill]
  intro r6 p3 p4 n6
  generalize hH7 : Hp.set _ r6 _ = H7
  have hle7 : Le H6 H7 := by rw [← hH7]; exact (Le.set_new n5).trans (Le.set_new (by rw [hset_ne p3]; exact n6))
  have m5 : H7 r5 = some (.cells [.bool (uBit o.kind 0), .bool (uBit o.kind 1), .bool (uBit o.kind 2), .bool (uBit o.kind 3)]) := by rw [← hH7]; simp [Hp.set, p4]
  have m6 : H7 r6 = some (.cells [ci o.dst, ci o.a, ci o.b, ci o.c]) := by rw [← hH7]; exact set_at
  clear hH7
  have m3 := hle7 _ _ m3
  have m2 := hle7 _ _ m2
  have hle := hle.trans hle7
  clear n5 n6 nq5 p3 p4
  have hreg : ∀ r, CC Tryz.prog W 72 [.agg (unitC u), ci r] H7 _ := fun r => reg58_c hX u r H7
  simp only [unitC] at hreg
  refine CW.cut (opE' H7 (fun k => !uBit o.kind k || inR (regAt o k) u.regs) q2 q3 r5 r6 none) ?_ ?_
  · refine CW.walk hX mixed d73 rfl ?_
    simp
    refine CW.block ?_
    refine CW.loop (opI H7 (fun k => !uBit o.kind k || inR (regAt o k) u.regs) q2 q3 r5 r6 7 0 none) ?_ (m := 4) ⟨0, 0, by omega, rfl, by simp, by simp, by simp, by simp, fun m h => by (cases h), by simp, rfl, rfl, rfl, fun k hk => absurd hk (by omega)⟩
    rintro j ⟨en, ds⟩ H8 ⟨i, it, hi, rfl, e2, e3, e5, e6, _, e7, hit, rfl, rfl, hok⟩
    obtain rfl : i = it := by omega
    dsimp only at e2 e3 e5 e6 e7
    by_cases hlt : i < 4
    rotate_left
    · refine CW.walk hX mixed d73 rfl ?_
      obtain rfl : i = 4 := by omega
      simp [e7]
      exact ⟨by simp [e2], by simp [e3], by simp [e5], by simp [e6], fun m h => by (cases h), rfl, rfl, hok⟩
    refine CW.walk hX mixed d73 rfl ?_
    have hlt' : (i : Int) < 4 := by omega
    simp [e7, hlt, hlt']
    have bad : (!uBit o.kind i || inR (regAt o i) u.regs) = false → errOp u o = 2 := fun hb => by
      have : regsOk u o = false := by
        simp only [Bool.or_eq_false_iff, Bool.not_eq_false'] at hb
        have h4 : i = 0 ∨ i = 1 ∨ i = 2 ∨ i = 3 := by omega
        rcases h4 with h | h | h | h <;> subst h <;> simp [regAt] at hb <;> simp [regsOk, hb.1, hb.2]
      simp [errOp, hk, this]
    refine CW.cut (opI H8 (fun k => !uBit o.kind k || inR (regAt o k) u.regs) q2 q3 r5 r6 7 1 none (4 - (i + 1))) ?_ ?_
    · refine CW.block ?_
      refine CW.walk1 hX mixed d73 rfl ?_
      have h5i : [CV.bool (uBit o.kind 0), .bool (uBit o.kind 1), .bool (uBit o.kind 2), .bool (uBit o.kind 3)][i]? = some (.bool (uBit o.kind i)) := by rcases i with _|_|_|_|i <;> first | rfl | omega
      have h6i : [ci o.dst, ci o.a, ci o.b, ci o.c][i]? = some (ci (regAt o i)) := by rcases i with _|_|_|_|i <;> first | rfl | omega
      generalize [CV.bool (uBit o.kind 0), .bool (uBit o.kind 1), .bool (uBit o.kind 2), .bool (uBit o.kind 3)] = L5 at m5 h5i
      generalize [ci o.dst, ci o.a, ci o.b, ci o.c] = L6 at m6 h6i
      have fin : ∀ (en : Env) (j : Nat), j = 4 - (i + 1) → en 2 = .ptr q2 0 → en 3 = .ptr q3 0 → en 5 = .ref r5 0 4 4 → en 6 = .ref r6 0 4 4 → en 7 = .int .i64 i → (!uBit o.kind i || inR (regAt o i) u.regs) = true → opI H8 (fun k => !uBit o.kind k || inR (regAt o k) u.regs) q2 q3 r5 r6 7 1 none j ⟨en, []⟩ H8 := fun en j hj g2 g3 g5 g6 g7 hb =>
        ⟨i + 1, i, hlt, hj, g2, g3, g5, g6, fun m h => by (cases h), g7, rfl, rfl, rfl, fun k hk => by
          by_cases h : k < i
          · exact hok k h
          · obtain rfl : k = i := by omega
            exact hb⟩
      by_cases hu : uBit o.kind i = true
      · simp [d73, e2, e3, e5, e6, e7, m5, m6, m2, hlt, hlt', h5i, h6i, hu]
        refine (hreg (regAt o i)).k ?_
        rintro x H9 ⟨rfl, rfl⟩
        by_cases hr : inR (regAt o i) u.regs = true
        · simp [hr]
          exact fin _ _ (by omega) (by simp [e2]) (by simp [e3]) (by simp [e5]) (by simp [e6]) (by simp [e7]) (by simp [hr])
        · simp [hr]
          exact ⟨hle, (bad (by simp [hu, hr])).symm⟩
      · simp [d73, e5, e7, m5, hlt, hlt', h5i, hu]
        exact fin _ _ (by omega) (by simp [e2]) (by simp [e3]) (by simp [e5]) (by simp [e6]) (by simp [e7]) (by simp [hu])
    · rintro ⟨en, ds⟩ H9 ⟨i', it, hi', hj', e2, e3, e5, e6, _, e7, hit, rfl, rfl, hok'⟩
      dsimp only at e2 e3 e5 e6 e7
      refine CW.walk1 hX mixed d73 rfl ?_
      simp [e7]
      exact ⟨4 - (i + 1), by omega, i', i', hi', hj', by simp [e2], by simp [e3], by simp [e5], by simp [e6], fun m h => by (cases h), by simp; rw [wrapI (by omega) (by omega)]; omega, rfl, rfl, rfl, hok'⟩
  rintro ⟨en, ds⟩ H8 ⟨e2, e3, e5, e6, _, rfl, rfl, hok⟩
  dsimp only at e2 e3 e5 e6
  have k1 := hok 0 (by omega)
  have k2 := hok 1 (by omega)
  have k3 := hok 2 (by omega)
  have k4 := hok 3 (by omega)
  simp only [regAt, List.getD_cons_zero, List.getD_cons_succ] at k1 k2 k3 k4
  clear hok
  by_cases hg : (decide (o.guard = -1) || inR o.guard u.regs) = true
  rotate_left
  · have hg' : o.guard ≠ -1 ∧ inR o.guard u.regs = false := by simpa using hg
    have he : errOp u o = 2 := by
      have : regsOk u o = false := by simp only [regsOk, hg'.2, hg'.1, decide_false, Bool.or_false, Bool.and_false]
      simp [errOp, hk, this]
    rw [he]
    refine CW.walk hX mixed d73 rfl ?_
    simp [e2, e3, m2, m3, hg'.1]
    refine (hreg o.guard).k ?_
    rintro x H9 ⟨rfl, rfl⟩
    simp [hg'.2]
    exact hle
  have hro : regsOk u o = true := by simp only [regsOk, k1, k2, k3, k4, hg, Bool.and_self]
  refine CW.cut (opE' H8 (fun _ => true) q2 q3 r5 r6 none) ?_ ?_
  · refine CW.walk1 hX mixed d73 rfl ?_
    by_cases hg1 : o.guard = -1
    · simp [e2, e3, m2, m3, hg1]
      exact ⟨by simp [e2], by simp [e3], by simp [e5], by simp [e6], fun m h => by (cases h), rfl, rfl, fun _ _ => rfl⟩
    · have hg2 : inR o.guard u.regs = true := by simpa [hg1] using hg
      simp [e2, e3, m2, m3, hg1]
      refine (hreg o.guard).k ?_
      rintro x H9 ⟨rfl, rfl⟩
      simp [hg2]
      exact ⟨by simp [e2], by simp [e3], by simp [e5], by simp [e6], fun m h => by (cases h), rfl, rfl, fun _ _ => rfl⟩
  clear e2 e3 e5 e6
  rintro ⟨en, ds⟩ H8 ⟨e2, e3, e5, e6, _, rfl, rfl, _⟩
  dsimp only at e2 e3 e5 e6
  refine CW.walk hX mixed d73 rfl ?_
  simp
  refine CW.cut (opE' H8 (fun _ => true) q2 q3 r5 r6 (some (topOf u o.kind))) ?_ ?_
  · refine CW.walk1 hX mixed d73 rfl ?_
    simp [e2, e3, m2, m3]
    refine (isArr_c hX _ _).k ?_
    rintro x H9 ⟨rfl, rfl⟩
    by_cases h5 : uBit o.kind 5 = true
    · simp [b5, h5, e2, m2]
      exact ⟨by simp [e2], by simp [e3], by simp [e5], by simp [e6], fun m h => by simp [topOf, h5] at h ⊢; exact h, rfl, rfl, fun _ _ => rfl⟩
    · simp [b5, h5, e2, e3, m2, m3]
      refine (cell93_c hX _ _).k ?_
      rintro x H9 ⟨rfl, rfl⟩
      by_cases h6 : uBit o.kind 6 = true
      · simp [b6, h6, e2, m2]
        exact ⟨by simp [e2], by simp [e3], by simp [e5], by simp [e6], fun m h => by simp [topOf, h5, h6] at h ⊢; exact h, rfl, rfl, fun _ _ => rfl⟩
      · simp [b6, h6, e2, e3, m2, m3]
        refine ⟨fun hk21 => ?_, fun hk21 => ?_⟩
        · have h7 : uBit o.kind 7 = true := by rw [← b7]; simpa using hk21
          exact ⟨by simp [e2], by simp [e3], by simp [e5], by simp [e6], fun m h => by simp [topOf, h5, h6, h7] at h ⊢; exact h, rfl, rfl, fun _ _ => rfl⟩
        · have h7 : uBit o.kind 7 = false := by rw [← b7]; simpa using hk21
          exact ⟨by simp [e2], by simp [e3], by simp [e5], by simp [e6], fun m h => by simp [topOf, h5, h6, h7] at h ⊢; exact h, rfl, rfl, fun _ _ => rfl⟩
  clear e2 e3 e5 e6
  rintro ⟨en, ds⟩ H8 ⟨e2, e3, e5, e6, e8, rfl, rfl, _⟩
  dsimp only at e2 e3 e5 e6 e8
  have e8 := e8 _ rfl
  by_cases ht : topOk u o = true
  rotate_left
  · have he : errOp u o = 5 := by simp [errOp, hk, hro, ht]
    have ht' : ¬ topOf u o.kind < 0 ∧ (o.n < 0 ∨ topOf u o.kind ≤ o.n) := by
      simp only [topOk, Bool.or_eq_true, Bool.and_eq_true, decide_eq_true_eq, not_or, not_and] at ht
      omega
    rw [he]
    refine CW.walk hX mixed d73 rfl ?_
    have h0 : 0 ≤ topOf u o.kind := by omega
    rcases ht'.2 with h | h
    · simp [e3, e8, m3, h0, h]
      exact hle
    · simp [e3, e8, m3, h0, h]
      exact ⟨fun _ => hle, fun _ => hle⟩
  have ht' : topOf u o.kind < 0 ∨ (0 ≤ o.n ∧ o.n < topOf u o.kind) := by
    simp only [topOk, Bool.or_eq_true, Bool.and_eq_true, decide_eq_true_eq] at ht
    omega
  refine CW.cut (opE' H8 (fun _ => true) q2 q3 r5 r6 none) ?_ ?_
  · refine CW.walk1 hX mixed d73 rfl ?_
    rcases ht' with h | ⟨h, h'⟩
    · have h0 : ¬ 0 ≤ topOf u o.kind := by omega
      simp [e3, e8, m3, h0]
      exact ⟨by simp [e2], by simp [e3], by simp [e5], by simp [e6], fun m h => by (cases h), rfl, rfl, fun _ _ => rfl⟩
    · have h0 : 0 ≤ topOf u o.kind := by omega
      have h1 : ¬ o.n < 0 := by omega
      have h2 : ¬ topOf u o.kind ≤ o.n := by omega
      simp [e3, e8, m3, h0, h1, h2]
      exact ⟨by simp [e2], by simp [e3], by simp [e5], by simp [e6], fun m h => by (cases h), rfl, rfl, fun _ _ => rfl⟩
  clear e2 e3 e5 e6 e8
  rintro ⟨en, ds⟩ H8 ⟨e2, e3, e5, e6, _, rfl, rfl, _⟩
  dsimp only at e2 e3 e5 e6
  refine CW.cut (opE' H8 (fun k => uBit o.kind k || decide (regAt o k = 0)) q2 q3 r5 r6 none) ?_ ?_
  · refine CW.walk hX mixed d73 rfl ?_
    simp
    refine CW.block ?_
    refine CW.loop (opI H8 (fun k => uBit o.kind k || decide (regAt o k = 0)) q2 q3 r5 r6 9 0 none) ?_ (m := 4) ⟨0, 0, by omega, rfl, by simp [e2], by simp [e3], by simp [e5], by simp [e6], fun m h => by (cases h), by simp, rfl, rfl, rfl, fun k hk => absurd hk (by omega)⟩
    clear e2 e3 e5 e6
    rintro j ⟨en, ds⟩ H8 ⟨i, it, hi, rfl, e2, e3, e5, e6, _, e9, hit, rfl, rfl, hok⟩
    obtain rfl : i = it := by omega
    dsimp only at e2 e3 e5 e6 e9
    by_cases hlt : i < 4
    rotate_left
    · refine CW.walk hX mixed d73 rfl ?_
      obtain rfl : i = 4 := by omega
      simp [e9]
      exact ⟨by simp [e2], by simp [e3], by simp [e5], by simp [e6], fun m h => by (cases h), rfl, rfl, hok⟩
    refine CW.walk hX mixed d73 rfl ?_
    have hlt' : (i : Int) < 4 := by omega
    simp [e9, hlt, hlt']
    have bad : uBit o.kind i = false → regAt o i ≠ 0 → errOp u o = 4 := fun hb hr => by
      have : idleB u o = true := by
        have h4 : i = 0 ∨ i = 1 ∨ i = 2 ∨ i = 3 := by omega
        rcases h4 with h | h | h | h <;> subst h <;> simp [regAt] at hr <;> simp [idleB, hb, hr]
      simp [errOp, hk, hro, ht, this]
    refine CW.cut (opI H8 (fun k => uBit o.kind k || decide (regAt o k = 0)) q2 q3 r5 r6 9 1 none (4 - (i + 1))) ?_ ?_
    · refine CW.block ?_
      refine CW.walk1 hX mixed d73 rfl ?_
      have h5i : [CV.bool (uBit o.kind 0), .bool (uBit o.kind 1), .bool (uBit o.kind 2), .bool (uBit o.kind 3)][i]? = some (.bool (uBit o.kind i)) := by rcases i with _|_|_|_|i <;> first | rfl | omega
      have h6i : [ci o.dst, ci o.a, ci o.b, ci o.c][i]? = some (ci (regAt o i)) := by rcases i with _|_|_|_|i <;> first | rfl | omega
      generalize [CV.bool (uBit o.kind 0), .bool (uBit o.kind 1), .bool (uBit o.kind 2), .bool (uBit o.kind 3)] = L5 at m5 h5i
      generalize [ci o.dst, ci o.a, ci o.b, ci o.c] = L6 at m6 h6i
      have fin : ∀ (en : Env) (j : Nat), j = 4 - (i + 1) → en 2 = .ptr q2 0 → en 3 = .ptr q3 0 → en 5 = .ref r5 0 4 4 → en 6 = .ref r6 0 4 4 → en 9 = .int .i64 i → (uBit o.kind i || decide (regAt o i = 0)) = true → opI H8 (fun k => uBit o.kind k || decide (regAt o k = 0)) q2 q3 r5 r6 9 1 none j ⟨en, []⟩ H8 := fun en j hj g2 g3 g5 g6 g7 hb =>
        ⟨i + 1, i, hlt, hj, g2, g3, g5, g6, fun m h => by (cases h), g7, rfl, rfl, rfl, fun k hk => by
          by_cases h : k < i
          · exact hok k h
          · obtain rfl : k = i := by omega
            exact hb⟩
      by_cases hu : uBit o.kind i = true
      · simp [e5, e9, m5, hlt, hlt', h5i, hu]
        exact fin _ _ (by omega) (by simp [e2]) (by simp [e3]) (by simp [e5]) (by simp [e6]) (by simp [e9]) (by simp [hu])
      · by_cases hr : regAt o i = 0
        · simp [e5, e6, e9, m5, m6, hlt, hlt', h5i, h6i, hu, hr]
          exact fin _ _ (by omega) (by simp [e2]) (by simp [e3]) (by simp [e5]) (by simp [e6]) (by simp [e9]) (by simp [hr])
        · simp [e5, e6, e9, m5, m6, hlt, hlt', h5i, h6i, hu, hr]
          exact ⟨hle, (bad (by simpa using hu) hr).symm⟩
    · rintro ⟨en, ds⟩ H9 ⟨i', it, hi', hj', e2, e3, e5, e6, _, e9, hit, rfl, rfl, hok'⟩
      dsimp only at e2 e3 e5 e6 e9
      refine CW.walk1 hX mixed d73 rfl ?_
      simp [e9]
      exact ⟨4 - (i + 1), by omega, i', i', hi', hj', by simp [e2], by simp [e3], by simp [e5], by simp [e6], fun m h => by (cases h), by simp; rw [wrapI (by omega) (by omega)]; omega, rfl, rfl, rfl, hok'⟩
  clear e2 e3 e5 e6
  rintro ⟨en, ds⟩ H8 ⟨e2, e3, e5, e6, _, rfl, rfl, hok⟩
  dsimp only at e2 e3 e5 e6
  have i1 := hok 0 (by omega)
  have i2 := hok 1 (by omega)
  have i3 := hok 2 (by omega)
  have i4 := hok 3 (by omega)
  simp only [regAt, List.getD_cons_zero, List.getD_cons_succ, Bool.or_eq_true, decide_eq_true_eq] at i1 i2 i3 i4
  have htb : decide (topOf u o.kind < 0) = !(uBit o.kind 5 || uBit o.kind 6 || uBit o.kind 7) := by
    simp only [topOf]
    by_cases h5 : uBit o.kind 5 = true
    · simp [h5]
    · by_cases h6 : uBit o.kind 6 = true
      · simp [h5, h6]; omega
      · by_cases h7 : uBit o.kind 7 = true
        · simp [h5, h6, h7]
        · simp [h5, h6, h7]
  have hib : idleB u o = (!hN o.kind && decide (o.n ≠ 0)) := by
    have d1 : (!uBit o.kind 0 && decide (o.dst ≠ 0)) = false := by rcases i1 with h | h <;> simp [h]
    have d2 : (!uBit o.kind 1 && decide (o.a ≠ 0)) = false := by rcases i2 with h | h <;> simp [h]
    have d900003 : (!uBit o.kind 2 && decide (o.b ≠ 0)) = false := by rcases i3 with h | h <;> simp [h]
    have d900004 : (!uBit o.kind 3 && decide (o.c ≠ 0)) = false := by rcases i4 with h | h <;> simp [h]
    simp only [idleB, d1, d2, d900003, d900004, htb, bN, Bool.false_or]
    cases uBit o.kind 4 <;> cases uBit o.kind 5 <;> cases uBit o.kind 6 <;> cases uBit o.kind 7 <;> rfl
  have he : errOp u o = if (!hN o.kind && decide (o.n ≠ 0)) = true then 4 else 0 := by
    simp only [errOp, hk, hro, ht, hib]; rfl
  rw [he]
  refine CW.walk hX mixed d73 rfl ?_
  simp [e3, m3]
  refine (hasN94_c hX _ _).k ?_
  rintro x H9 ⟨rfl, rfl⟩
  by_cases hn : hN o.kind = true
  · simp [hn]
    refine CW.walk1 hX mixed d73 rfl ?_
    simp [hn]
    exact hle
  · by_cases hz : o.n = 0
    · simp [hn, hz, e3, m3]
      refine CW.walk1 hX mixed d73 rfl ?_
      simp [hn, hz]
      exact hle
    · simp [hn, hz, e3, m3]
      exact hle
end Go.Cl
set_option linter.unusedSimpArgs false
set_option linter.unusedVariables false
namespace Go.Cl
open Go.Proofs Dd
variable {W : World} {G : Nat → CV}
set_option maxRecDepth 8000
set_option maxHeartbeats 4000000
theorem writes40_c (hX : CxOk (cx W G)) (o : UOp) (hk : isKind o.kind = true) (H : Hp) : CC Tryz.prog W 33 [.agg (opC o)] H fun x H' => x = .ret (.tuple [ci (if uBit o.kind 0 then o.dst else 0), .bool (uBit o.kind 0)]) ∧ H' = H := by
  obtain ⟨b0, _⟩ := has_bits2 hk
  refine CC.shrink ?_
  refine CC.of_ev hX mixed d33 Tryz.func33 rfl rfl (Nat.le_of_ble_eq_true rfl) d33_ok ?_
  simp [Tryz.f33, d33, opC]
  intro q hq
  have hle : Le H (H.set q (.cells (opC o))) := Le.set_new hq
  simp only [opC] at hle
  refine (hasDst64_c hX _ _).k ?_
  rintro x H' ⟨rfl, rfl⟩
  rw [b0]
  by_cases h : uBit o.kind 0 = true <;> simp [h, hle]
theorem endReads65_c (hX : CxOk (cx W G)) (e : UEnd) (H : Hp) : CC Tryz.prog W 34 [.agg (endC e)] H fun x H' => ∃ v, x = .ret v ∧ Own H H' v 1 (ints (if e.kind = 1 then [] else [e.a])) := by
  refine CC.of_ev hX mixed d34 Tryz.func34 rfl rfl (Nat.le_of_ble_eq_true rfl) d34_ok ?_
  simp [Tryz.f34, d34, endC]
  intro q hq
  have hle : Le H (H.set q (.cells (endC e))) := Le.set_new hq
  simp only [endC] at hle
  refine (endA_c hX _ _).k ?_
  rintro x H' ⟨rfl, rfl⟩
  by_cases h : e.kind = 1
  · simp [h]
    rw [h] at hle
    exact Own.nil hle
  · simp [h, cfill]
    intro r h1 h2 hr
    have hr' : (H.set q (.cells (endC e))) r = none := by rw [hset_ne h1]; exact hr
    simp only [endC] at hr'
    exact ⟨hle.trans (Le.set_new hr'), by simp [ints], .inr ⟨r, 1, [], rfl, hr, by simp [ints], by simp [ints], by simp [ints]⟩⟩
theorem mayEnd62_c (hX : CxOk (cx W G)) (e : UEnd) (n : Nat) (p : Nat → Bool) (hk : 1 ≤ e.kind ∧ e.kind ≤ 4) (ha : e.kind ≠ 1 → 0 ≤ e.a ∧ e.a < n) (H : Hp) : CC Tryz.prog W 37 [.agg (endC e), .sl 1 (boolS n p)] H fun x H' => x = .ret (.bool (mayEnd p e)) ∧ H' = H := by
  refine CC.shrink ?_
  refine CC.of_ev hX mixed d37 Tryz.func37 rfl rfl (Nat.le_of_ble_eq_true rfl) d37_ok ?_
  have hkk : e.kind = 1 ∨ e.kind = 2 ∨ e.kind = 3 ∨ e.kind = 4 := by omega
  rcases hkk with k | k | k | k
  · simp (config := {contextual := true}) [Tryz.f37, d37, endC, k, mayEnd]
    exact fun q hq => Le.set_new hq
  · have h1 := ha (by omega)
    have h2 : e.a.toNat < n := by omega
    simp (config := {contextual := true}) [Tryz.f37, d37, endC, k, mayEnd, h1.1, h2]
    exact fun q hq => Le.set_new hq
  · have h1 := ha (by omega)
    have h2 : e.a.toNat < n := by omega
    simp (config := {contextual := true}) [Tryz.f37, d37, endC, k, mayEnd, h1.1, h2]
    exact fun q hq => Le.set_new hq
  · simp (config := {contextual := true}) [Tryz.f37, d37, endC, k, mayEnd]
    exact fun q hq => Le.set_new hq
theorem may63_c (hX : CxOk (cx W G)) (o : UOp) (n : Nat) (p : Nat → Bool) (H : Hp) (hg : o.guard ≠ -1 → 0 ≤ o.guard ∧ o.guard < n) (ha : o.kind = 20 ∨ o.kind = 21 ∨ o.kind = 22 → 0 ≤ o.a ∧ o.a < n) : CC Tryz.prog W 32 [.agg (opC o), .sl 1 (boolS n p)] H fun x H' => x = .ret (.bool (mayTrap p o)) ∧ H' = H := by
  refine CC.at0 ?_ H
  refine CC.of_ev hX mixed d32 Tryz.func32 rfl rfl (Nat.le_of_ble_eq_true rfl) d32_ok ?_
  simp (config := {contextual := true, maxSteps := 2000000}) [Tryz.f32, d32, opC]
  have k20 : ∀ k, o.kind = k → (k = 20 ∨ k = 21 ∨ k = 22) → 0 ≤ o.a ∧ o.a.toNat < n := fun k h1 h2 => by have := ha (by omega); omega
  refine ⟨fun h => ⟨(hg h).1, by have := hg h; omega, fun hp => by simp [mayTrap, h, hp], fun hp => ?_⟩, fun h => ?_⟩
  all_goals
    refine ⟨fun h => by simp [mayTrap, h], fun k14 => ⟨fun h => by simp [mayTrap, h], fun k15 => ⟨fun h => by simp [mayTrap, h], fun k16 => ⟨fun h => by simp [mayTrap, h], fun k17 => ?_⟩⟩⟩⟩
    refine ⟨fun h20 => ⟨(k20 _ h20 (by omega)).1, (k20 _ h20 (by omega)).2, by simp [mayTrap, h20, h]; try simp [hp]⟩, fun h20 => ⟨fun h21 => ⟨(k20 _ h21 (by omega)).1, (k20 _ h21 (by omega)).2, by simp [mayTrap, h21, h]; try simp [hp]⟩, fun h21 => ⟨fun h22 => ⟨(k20 _ h22 (by omega)).1, (k20 _ h22 (by omega)).2, by simp [mayTrap, h22, h]; try simp [hp]⟩, fun h22 => ?_⟩⟩⟩
    simp [mayTrap, k14, k15, k16, k17, h20, h21, h22, h]
    try simp [hp]
theorem SlN.src {H0 H : Hp} {v : CV} {l : List Int} (h : SlN H0 H v l) : ∀ K' : Nat → List CV → Prop, K' (ints l).length (ints l).flatten → srcC H 1 v K' := by
  intro K' hK
  rcases h with ⟨rfl, rfl⟩ | ⟨q, c, cs, rfl, _, hq, hcs⟩
  · exact hK
  · have hl : l.length ≤ cs.length := by
      rcases Nat.lt_or_ge cs.length l.length with h | h
      · have h1 : cs.length < l.length := h
        have := hcs cs.length _ (List.getElem?_eq_getElem h1)
        have := (List.getElem?_eq_some_iff.1 this).1
        omega
      · exact h
    refine ⟨cs, hq, by omega, ?_⟩
    have ht : (cs.drop 0).take (l.length * 1) = (ints l).flatten := by
      rw [ints_flat, List.drop_zero, Nat.mul_one]
      apply List.ext_getElem?
      intro k
      rw [List.getElem?_take, List.getElem?_map]
      by_cases hk : k < l.length
      · rw [if_pos hk, hcs k _ (List.getElem?_eq_getElem hk), List.getElem?_eq_getElem hk]; rfl
      · rw [if_neg hk, List.getElem?_eq_none (by omega)]; rfl
    rw [ht]
    simpa [ints] using hK
structure rdM (H1 : Hp) (q1 : Nat) (L : List Int) (s' : CA) (H' : Hp) : Prop where
  ex : ∃ v, s'.env 1 = .ptr q1 0 ∧ s'.env 3 = v ∧ s'.ds = [] ∧ Own H1 H' v 1 (ints L)
theorem reads68_c (hX : CxOk (cx W G)) (o : UOp) (hk : isKind o.kind = true) (H : Hp) : CC Tryz.prog W 31 [.agg (opC o)] H fun x H' => ∃ v, x = .ret v ∧ Own H H' v 1 (ints (allReads o)) := by
  refine CC.of_cw hX Tryz.func31 rfl rfl (Nat.le_of_ble_eq_true rfl) ?_
  refine CW.walk hX mixed d31 rfl ?_
  simp [opC]
  intro q1 n1
  generalize hH1 : H.set q1 _ = H1
  have hle : Le H H1 := by rw [← hH1]; exact Le.set_new n1
  have m1 : H1 q1 = some (.cells (opC o)) := by rw [← hH1]; exact set_at
  clear hH1
  simp only [opC] at m1
  refine CW.walk hX mixed d31 rfl ?_
  simp
  refine CW.cut (rdM H1 q1 (if o.guard = -1 then [] else [o.guard])) ?_ ?_
  · refine CW.walk1 hX mixed d31 rfl ?_
    by_cases hg : o.guard = -1
    · simp [m1, hg]
      exact ⟨.nilsl, by simp, by simp, rfl, Own.nil (Le.refl _)⟩
    · simp [m1, hg, cfill, -vcAppend]
      intro r hr
      refine ((Own.nil (sz := 1) (Le.refl _)).more hr).append2 (ys := [[ci o.guard]]) (by simp) (by simp) (src_one set_at rfl) fun v' H4 how4 _ => ?_
      simp
      exact ⟨v', by simp, by simp, rfl, by simpa [ints, hg] using how4⟩
  rintro ⟨en, ds⟩ H2 ⟨v, e1, e3, rfl, how⟩
  dsimp only at e1 e3
  have m2 := how.le _ _ m1
  have hop := operands_c hX o hk H2
  simp only [opC] at hop
  refine CW.walk1 hX mixed d31 rfl ?_
  simp [e1, e3, m2, -vcAppend]
  refine hop.k ?_
  rintro x H3 ⟨w, rfl, hle3, hw⟩
  simp [e1, e3, -vcAppend]
  have hr3 := reads_len o
  refine (how.mono hle3).append2 (ys := ints (reads o)) (by simp [ints]) (by simp [ints]; split <;> simp <;> omega) hw.src fun v' H4 how4 _ => ?_
  simp
  have hl : (if o.guard = -1 then [] else [o.guard]) ++ reads o = allReads o := by
    simp only [allReads]
    split <;> rfl
  rw [← hl]
  exact (by simpa [ints] using how4 : Own H1 H4 v' 1 (ints ((if o.guard = -1 then [] else [o.guard]) ++ reads o))).base hle
theorem boolC_put {n i : Nat} (f : Nat → Bool) (b : Bool) (h : i < n) : (boolC n f).take i ++ .bool b :: (boolC n f).drop (i + 1) = boolC n (fun x => if x = i then b else f x) := by
  rw [take_drop_set (by rw [boolC_len]; exact h)]
  apply List.ext_getElem?
  intro j
  rw [List.getElem?_set]
  simp only [boolC, List.length_map, List.length_range, List.getElem?_map]
  by_cases hj : i = j
  · subst hj; simp [h]
  · rw [if_neg hj]
    rcases Nat.lt_or_ge j n with h2 | h2
    · rw [List.getElem?_range h2]; simp [Ne.symm hj]
    · rw [List.getElem?_eq_none (by simpa using h2)]; rfl
theorem boolC_congr {n : Nat} {f g : Nat → Bool} (h : ∀ x, x < n → f x = g x) : boolC n f = boolC n g := by
  simp only [boolC]
  exact List.map_congr_left fun x hx => by rw [h x (List.mem_range.1 hx)]
/-- A slice of truths: frozen, or in a block that is not r. -/
def SrcB (H : Hp) (r : Nat) (v : CV) (n : Nat) (g : Nat → Bool) : Prop := v = .sl 1 (boolS n g) ∨ ∃ q c, v = .ref q 0 n c ∧ H q = some (.cells (boolC n g)) ∧ q ≠ r
structure jnI (H : Hp) (n r : Nat) (f g : Nat → Bool) (but : Int) (v : CV) (d : Nat) (j : Nat) (s' : CA) (H' : Hp) : Prop where
  ex : ∃ i i6 : Nat, i ≤ n ∧ j = n - i ∧ s'.env 0 = .ref r 0 n n ∧ s'.env 1 = v ∧ s'.env 2 = ci but ∧ s'.env 6 = .int .i64 i6 ∧ i6 + d = i ∧ s'.ds = [] ∧ H' = H.set r (.cells (boolC n fun x => if x < i then f x || (g x && decide ((x : Int) ≠ but)) else f x))
theorem join66_c (hX : CxOk (cx W G)) (n r : Nat) (f g : Nat → Bool) (but : Int) (v : CV) {H : Hp} (hr : H r = some (.cells (boolC n f))) (hv : SrcB H r v n g) (hn : n ≤ 5000) :
    CC Tryz.prog W 75 [.ref r 0 n n, v, ci but] H fun x H' => x = .ret (.tuple []) ∧ H' = H.set r (.cells (boolC n fun x => f x || (g x && decide ((x : Int) ≠ but)))) := by
  refine CC.of_cw hX Tryz.func75 rfl rfl (Nat.le_of_ble_eq_true rfl) ?_
  refine CW.walk hX mixed d75 rfl ?_
  simp
  refine CW.block ?_
  refine CW.loop (jnI H n r f g but v 0) ?_ (m := n) ⟨0, 0, by omega, rfl, by simp, by simp, by simp, by simp, rfl, rfl, by simp; rw [hset_self hr]⟩
  rintro j ⟨en, ds⟩ H2 ⟨i, i6, hi, rfl, e0, e1, e2, e6, hi6, rfl, rfl⟩
  obtain rfl : i = i6 := by omega
  dsimp only at e0 e1 e2 e6
  by_cases hlt : i < n
  rotate_left
  · refine CW.walk hX mixed d75 rfl ?_
    simp [e0, e6, hlt]
    have hin : i = n := by omega
    subst hin
    congr 2
    refine boolC_congr fun x hx => ?_
    simp [hx]
  refine CW.walk hX mixed d75 rfl ?_
  simp [e0, e6, hlt]
  generalize hF : (fun x => if x < i then f x || g x && !decide ((x : Int) = but) else f x) = F
  have hFi : F i = f i := by rw [← hF]; simp
  have hput : ∀ b : Bool, b = (f i || (g i && !decide ((i : Int) = but))) → (boolC n F).take i ++ CV.bool b :: (boolC n F).drop (i + 1) = boolC n fun x => if x < i + 1 then f x || g x && decide ((x : Int) ≠ but) else f x := fun b hb => by
    rw [boolC_put F b hlt]
    refine boolC_congr fun x hx => ?_
    rw [← hF, hb]
    by_cases h1 : x = i
    · subst h1; simp
    · by_cases h2 : x < i
      · have h3 : x < i + 1 := by omega
        simp [h1, h2, h3]
      · have h3 : ¬ x < i + 1 := by omega
        simp [h1, h2, h3]
  have fin : ∀ (en : Env) (b : Bool) (H' : Hp), b = (f i || (g i && !decide ((i : Int) = but))) → en 0 = .ref r 0 n n → en 1 = v → en 2 = ci but → en 6 = .int .i64 i → H' = H.set r (.cells ((boolC n F).take i ++ CV.bool b :: (boolC n F).drop (i + 1))) → jnI H n r f g but v 1 (n - (i + 1)) ⟨en, []⟩ H' := fun en b H' hb g0 g1 g2 g6 hH => ⟨i + 1, i, hlt, rfl, g0, g1, g2, g6, rfl, rfl, by rw [hH, hput b hb]⟩
  have hFl : i < (boolC n F).length := by rw [boolC_len]; exact hlt
  refine CW.cut (jnI H n r f g but v 1 (n - (i + 1))) ?_ ?_
  · refine CW.block ?_
    refine CW.walk1 hX mixed d75 rfl ?_
    by_cases hf : f i = true
    · simp [e0, e6, hlt, boolC_get, hFi, hf]
      exact ⟨hlt, fin _ _ _ (by simp [hf]) (by simp [e0]) (by simp [e1]) (by simp [e2]) (by simp [e6]) rfl⟩
    · rcases hv with rfl | ⟨q, c, rfl, hq, hne⟩
      · by_cases hg : g i = true
        · simp [e0, e1, e2, e6, hlt, boolC_get, hFi, hf, hg]
          exact ⟨hlt, fin _ _ _ (by simp [hf, hg, decide_bne]) (by simp [e0]) (by simp [e1]) (by simp [e2]) (by simp [e6]) rfl⟩
        · simp [e0, e1, e2, e6, hlt, boolC_get, hFi, hf, hg]
          exact ⟨hlt, fin _ _ _ (by simp [hf, hg, decide_bne]) (by simp [e0]) (by simp [e1]) (by simp [e2]) (by simp [e6]) rfl⟩
      · by_cases hg : g i = true
        · simp [e0, e1, e2, e6, hlt, boolC_get, hFi, hf, hg, hq, hne]
          exact ⟨hlt, fin _ _ _ (by simp [hf, hg, decide_bne]) (by simp [e0]) (by simp [e1]) (by simp [e2]) (by simp [e6]) rfl⟩
        · simp [e0, e1, e2, e6, hlt, boolC_get, hFi, hf, hg, hq, hne]
          exact ⟨hlt, fin _ _ _ (by simp [hf, hg, decide_bne]) (by simp [e0]) (by simp [e1]) (by simp [e2]) (by simp [e6]) rfl⟩
  · rintro ⟨en, ds⟩ H3 ⟨i', i6, hi', hj', g0, g1, g2, g6, hi6, rfl, rfl⟩
    dsimp only at g0 g1 g2 g6
    refine CW.walk1 hX mixed d75 rfl ?_
    simp [g6]
    exact ⟨n - (i + 1), by omega, i', i', hi', hj', by simp [g0], by simp [g1], by simp [g2], by simp; rw [wrapI (by omega) (by omega)]; omega, rfl, rfl, by simp⟩
end Go.Cl
set_option linter.unusedSimpArgs false
set_option linter.unusedVariables false
namespace Go.Cl
open Go.Proofs Dd
variable {W : World} {G : Nat → CV}
set_option maxRecDepth 8000
set_option maxHeartbeats 4000000
def insS (m n : Nat) (I : Nat → Nat → Bool) : List (List CV) := (List.range m).map fun i => [.sl 1 (boolS n (I i))]
theorem insS_len {m n : Nat} {I : Nat → Nat → Bool} : (insS m n I).length = m := by simp [insS]
theorem insS_get {m n i : Nat} {I : Nat → Nat → Bool} (h : i < m) : (insS m n I)[i]? = some [.sl 1 (boolS n (I i))] := by simp [insS, h]
theorem insS_ex {m n i : Nat} {I : Nat → Nat → Bool} {P : List CV → Prop} : (∃ e, (insS m n I)[i]? = some e ∧ P e) = (i < m ∧ P [.sl 1 (boolS n (I i))]) := by
  simp only [insS, List.getElem?_map, eq_iff_iff]
  rcases Nat.lt_or_ge i m with h | h
  · rw [List.getElem?_range h]; simp [h]
  · rw [List.getElem?_eq_none (by simpa using h)]; simp; intro h2; omega
attribute [simp ↓] insS_ex
attribute [simp] insS_len
def refC (u : UUnit) (p : Nat → Bool) (I : Nat → Nat → Bool) : List CV := unitC u ++ [.sl 1 (boolS u.regs.toNat p), .sl 1 (insS u.blocks.length u.regs.toNat I)]
theorem zeroB (n : Nat) : (List.range n).map (fun i => ([CV.bool false][i % 1]?).getD CV.any) = boolC n fun _ => false := by
  simp only [boolC]
  exact List.map_congr_left fun x hx => by simp [Nat.mod_one]
/-- What is live where a block's End may go. -/
def behP (u : UUnit) (p : Nat → Bool) (I : Nat → Nat → Bool) (b : UBlk) : Nat → Bool := fun r => (goes b.en && I b.en.to.toNat r) || (branches b.en && I b.en.els.toNat r) || (mayEnd p b.en && catchP u I b r)
def asideP (u : UUnit) (p : Nat → Bool) (I : Nat → Nat → Bool) (b : UBlk) (o : UOp) : Nat → Bool := fun r => (decide (o.kind = 21) && I o.n.toNat r) || (mayTrap p o && catchP u I b r)
structure bhM (Hb : Hp) (cs : List CV) (b r5 r6 n : Nat) (f : Nat → Bool) (s' : CA) (H' : Hp) : Prop where
  ex : s'.env 0 = .iptr cs ∧ s'.env 1 = .int .i64 b ∧ s'.env 5 = .ptr r5 0 ∧ s'.env 6 = .ref r6 0 n n ∧ s'.ds = [] ∧ H' = Hb.set r6 (.cells (boolC n f))
theorem behind67_c (hX : CxOk (cx W G)) (u : UUnit) (hw : wfU u = true) (p : Nat → Bool) (I : Nat → Nat → Bool) (b : Nat) (k : UBlk) (hk : u.blocks[b]? = some k) (H : Hp) :
    CC Tryz.prog W 76 [.iptr (refC u p I), .int .i64 b] H fun x H' => ∃ r, H r = none ∧ x = .ret (.ref r 0 u.regs.toNat u.regs.toNat) ∧ H' = H.set r (.cells (boolC u.regs.toNat (behP u p I k))) := by
  obtain ⟨f1, f2, f3, f4, f5, f6, f7, f8, f9, f10, f11⟩ := wfU_facts hw
  obtain ⟨hct, _, _, hwe⟩ := wfB_facts hw hk
  obtain ⟨g1, g2, g3, g4, g5⟩ := wfE_facts hwe
  have hb := (List.getElem?_eq_some_iff.1 hk).1
  have hbe := (List.getElem?_eq_some_iff.1 hk).2
  refine CC.shrink ?_
  refine CC.of_cw hX Tryz.func76 rfl rfl (Nat.le_of_ble_eq_true rfl) ?_
  refine CW.walk hX mixed d76 rfl ?_
  simp
  refine CW.walk hX mixed d76 rfl ?_
  simp [d76, refC, unitC, hb, hbe, blkC]
  intro r5 n5
  refine CW.walk hX mixed d76 rfl ?_
  simp
  refine ⟨by omega, by omega, by omega, fun r6 q1 q2 n6 => ?_⟩
  rw [zeroB]
  generalize hHb : H.set r5 _ = Hb
  have hleb : Le H Hb := by rw [← hHb]; exact Le.set_new n5
  have m5 : Hb r5 = some (.cells (blkC k)) := by rw [← hHb]; exact set_at
  have n6b : Hb r6 = none := by rw [← hHb, hset_ne q1]; exact n6
  clear hHb
  simp only [blkC] at m5
  have jn : ∀ (f : Nat → Bool) (t : Nat) (but : Int), CC Tryz.prog W 75 [.ref r6 0 u.regs.toNat u.regs.toNat, .sl 1 (boolS u.regs.toNat (I t)), ci but] (Hb.set r6 (.cells (boolC u.regs.toNat f))) _ := fun f t but => join66_c hX u.regs.toNat r6 f (I t) but (.sl 1 (boolS u.regs.toNat (I t))) (H := Hb.set r6 (.cells (boolC u.regs.toNat f))) set_at (.inl rfl) (by omega)
  have hcs : refC u p I = [.sl 1 (u.sizes.map fun n => [ci n]), ci u.params, ci u.regs, ci u.code, ci u.spill, .sl 6 (u.blocks.map blkC), .sl 1 (boolS u.regs.toNat p), .sl 1 (insS u.blocks.length u.regs.toNat I)] := rfl
  have m5s : ∀ x, (Hb.set r6 x) r5 = some (.cells [.sl 7 (k.ops.map opC), ci k.en.kind, ci k.en.a, ci k.en.to, ci k.en.els, ci k.catch_]) := fun x => by rw [hset_ne q2]; exact m5
  refine CW.cut (bhM Hb (refC u p I) b r5 r6 u.regs.toNat (fun r => goes k.en && I k.en.to.toNat r)) ?_ ?_
  · refine CW.walk1 hX mixed d76 rfl ?_
    simp [m5s]
    refine (endTo_c hX _ _).k ?_
    rintro x H2 ⟨rfl, rfl⟩
    by_cases hg : goes k.en = true
    · have hg' : k.en.kind = 1 ∨ k.en.kind = 2 := by simpa [goes] using hg
      have h4 := g4 hg'
      have h4' : k.en.to.toNat < u.blocks.length := by omega
      simp [d76, hg', m5s, h4.1, h4']
      refine ⟨?_, fun h1 h2 => absurd hg' (by simp [h1, h2])⟩
      refine (jn _ _ _).k ?_
      rintro x H3 ⟨rfl, rfl⟩
      simp
      exact ⟨by simp [hcs], by simp, by simp, by simp, rfl, by congr 2; exact boolC_congr fun x _ => by simp [hg]⟩
    · have hg' : ¬ (k.en.kind = 1 ∨ k.en.kind = 2) := by simpa [goes] using hg
      simp [hg']
      exact fun _ _ => ⟨by simp [hcs], by simp, by simp, by simp, rfl, by congr 2; exact boolC_congr fun x _ => by simp [hg]⟩
  rintro ⟨en, ds⟩ H2 ⟨e0, e1, e5, e6, rfl, rfl⟩
  dsimp only at e0 e1 e5 e6
  rw [hcs] at e0
  refine CW.cut (bhM Hb (refC u p I) b r5 r6 u.regs.toNat (fun r => (goes k.en && I k.en.to.toNat r) || (branches k.en && I k.en.els.toNat r))) ?_ ?_
  · refine CW.walk1 hX mixed d76 rfl ?_
    simp [e5, m5s]
    refine (endElse_c hX _ _).k ?_
    rintro x H2 ⟨rfl, rfl⟩
    by_cases hg : branches k.en = true
    · have hg' : k.en.kind = 2 := by simpa [branches] using hg
      have h4 := g5 hg'
      have h4' : k.en.els.toNat < u.blocks.length := by omega
      simp [d76, e0, e5, e6, hg', m5s, h4.1, h4']
      refine (jn _ _ _).k ?_
      rintro x H3 ⟨rfl, rfl⟩
      simp
      exact ⟨by simp [e0, hcs], by simp [e1], by simp [e5], by simp [e6], rfl, by congr 2; exact boolC_congr fun x _ => by simp [hg]⟩
    · have hg' : ¬ (k.en.kind = 2) := by simpa [branches] using hg
      simp [hg']
      exact ⟨by simp [e0, hcs], by simp [e1], by simp [e5], by simp [e6], rfl, by congr 2; exact boolC_congr fun x _ => by simp [hg]⟩
  clear e0 e1 e5 e6
  rintro ⟨en, ds⟩ H2 ⟨e0, e1, e5, e6, rfl, rfl⟩
  dsimp only at e0 e1 e5 e6
  rw [hcs] at e0
  refine CW.cut (bhM Hb (refC u p I) b r5 r6 u.regs.toNat (behP u p I k)) ?_ ?_
  · refine CW.walk1 hX mixed d76 rfl ?_
    have hme := fun H => mayEnd62_c hX k.en u.regs.toNat p ⟨g1, g2⟩ (fun q => by have := g3 q; omega) H
    simp only [endC] at hme
    simp [d76, e0, e5, m5s]
    refine (hme _).k ?_
    rintro x H2 ⟨rfl, rfl⟩
    by_cases hm : mayEnd p k.en = true
    · by_cases hc : 0 ≤ k.catch_
      · have hcl : k.catch_.toNat < u.blocks.length := by omega
        simp [d76, hm, hc, e0, e5, e6, m5s, hcl]
        refine (jn _ _ _).k ?_
        rintro x H3 ⟨rfl, rfl⟩
        simp
        exact ⟨by simp [e0, hcs], by simp [e1], by simp [e5], by simp [e6], rfl, by
          congr 2
          exact boolC_congr fun x _ => by
            have : decide ((x : Int) = u.code) = (x == u.code.toNat) := by rw [Bool.eq_iff_iff]; simp; omega
            simp [behP, catchP, hm, hc, this, Bool.and_comm, bne]⟩
      · have hcf : ¬ 0 ≤ k.catch_ := hc
        simp [hm, hc, e5, m5s]
        exact ⟨by simp [e0, hcs], by simp [e1], by simp [e5], by simp [e6], rfl, by congr 2; exact boolC_congr fun x _ => by simp [behP, catchP, hc]⟩
    · simp [hm]
      exact ⟨by simp [e0, hcs], by simp [e1], by simp [e5], by simp [e6], rfl, by congr 2; exact boolC_congr fun x _ => by simp [behP, hm]⟩
  clear e0 e1 e5 e6
  rintro ⟨en, ds⟩ H2 ⟨e0, e1, e5, e6, rfl, rfl⟩
  dsimp only at e0 e1 e5 e6
  refine CW.walk1 hX mixed d76 rfl ?_
  simp [e6]
  exact ⟨_, hleb.set, r6, n6, rfl, rfl⟩
structure asM (Hb : Hp) (cs : List CV) (b t r7 r8 r9 n : Nat) (f : Nat → Bool) (s' : CA) (H' : Hp) : Prop where
  ex : s'.env 0 = .iptr cs ∧ s'.env 1 = .int .i64 b ∧ s'.env 2 = .int .i64 t ∧ s'.env 7 = .ptr r7 0 ∧ s'.env 8 = .ptr r8 0 ∧ s'.env 9 = .ref r9 0 n n ∧ s'.ds = [] ∧ H' = Hb.set r9 (.cells (boolC n f))
theorem aside69_c (hX : CxOk (cx W G)) (u : UUnit) (hw : wfU u = true) (p : Nat → Bool) (I : Nat → Nat → Bool) (b t : Nat) (k : UBlk) (hk : u.blocks[b]? = some k) (o : UOp) (ho : k.ops[t]? = some o) (H : Hp) :
    CC Tryz.prog W 77 [.iptr (refC u p I), .int .i64 b, .int .i64 t] H fun x H' => ∃ r, H r = none ∧ x = .ret (.ref r 0 u.regs.toNat u.regs.toNat) ∧ H' = H.set r (.cells (boolC u.regs.toNat (asideP u p I k o))) := by
  obtain ⟨f1, f2, f3, f4, f5, f6, f7, f8, f9, f10, f11⟩ := wfU_facts hw
  obtain ⟨hct, _, hwo, hwe⟩ := wfB_facts hw hk
  obtain ⟨w1, w2, w3, w4, w5, w6, w7, w8, w9⟩ := wfO_facts (hwo o (List.mem_of_getElem? ho)) f3
  have hb := (List.getElem?_eq_some_iff.1 hk).1
  have hbe := (List.getElem?_eq_some_iff.1 hk).2
  have htl := (List.getElem?_eq_some_iff.1 ho).1
  have hte := (List.getElem?_eq_some_iff.1 ho).2
  refine CC.shrink ?_
  refine CC.of_cw hX Tryz.func77 rfl rfl (Nat.le_of_ble_eq_true rfl) ?_
  refine CW.walk hX mixed d77 rfl ?_
  simp
  refine CW.walk hX mixed d77 rfl ?_
  simp [d77, refC, unitC, hb, hbe, blkC]
  intro r7 n7
  refine CW.walk hX mixed d77 rfl ?_
  simp [d77, htl, hte, opC]
  intro r8 p1 p2 n8
  generalize hHb : Hp.set _ r8 _ = Hb
  have hleb : Le H Hb := by rw [← hHb]; exact (Le.set_new n7).trans (Le.set_new (by rw [hset_ne p1]; exact n8))
  have m7 : Hb r7 = some (.cells (blkC k)) := by rw [← hHb]; simp [Hp.set, p2, blkC]
  have m8 : Hb r8 = some (.cells (opC o)) := by rw [← hHb]; exact set_at
  clear hHb n7 n8 p1 p2
  simp only [blkC, blkT] at m7
  simp only [opC] at m8
  refine CW.walk hX mixed d77 rfl ?_
  simp
  refine ⟨by omega, by omega, by omega, fun r9 n9 => ?_⟩
  rw [zeroB]
  have n9H := hleb.none n9
  have jn : ∀ (f : Nat → Bool) (t : Nat) (but : Int), CC Tryz.prog W 75 [.ref r9 0 u.regs.toNat u.regs.toNat, .sl 1 (boolS u.regs.toNat (I t)), ci but] (Hb.set r9 (.cells (boolC u.regs.toNat f))) _ := fun f t but => join66_c hX u.regs.toNat r9 f (I t) but (.sl 1 (boolS u.regs.toNat (I t))) (H := Hb.set r9 (.cells (boolC u.regs.toNat f))) set_at (.inl rfl) (by omega)
  have hcs : refC u p I = [.sl 1 (u.sizes.map fun n => [ci n]), ci u.params, ci u.regs, ci u.code, ci u.spill, .sl 6 (u.blocks.map blkC), .sl 1 (boolS u.regs.toNat p), .sl 1 (insS u.blocks.length u.regs.toNat I)] := rfl
  have m7s : ∀ x, (Hb.set r9 x) r7 = some (.cells [.sl 7 (k.ops.map opC), ci k.en.kind, ci k.en.a, ci k.en.to, ci k.en.els, ci k.catch_]) := fun x => by rw [hset_ne (fun q => by rw [q, n9] at m7; cases m7)]; exact m7
  have m8s : ∀ x, (Hb.set r9 x) r8 = some (.cells [ci o.kind, ci o.dst, ci o.a, ci o.b, ci o.c, ci o.n, ci o.guard]) := fun x => by rw [hset_ne (fun q => by rw [q, n9] at m8; cases m8)]; exact m8
  refine CW.cut (asM Hb (refC u p I) b t r7 r8 r9 u.regs.toNat (fun r => decide (o.kind = 21) && I o.n.toNat r)) ?_ ?_
  · refine CW.walk1 hX mixed d77 rfl ?_
    by_cases h21 : o.kind = 21
    · have h4 := w6 h21
      have h4' : o.n.toNat < u.blocks.length := by omega
      simp [d77, m8s, h21, h4.1, h4']
      refine (jn _ _ _).k ?_
      rintro x H3 ⟨rfl, rfl⟩
      simp
      exact ⟨by simp [hcs], by simp, by simp, by simp, by simp, by simp, rfl, by congr 2; exact boolC_congr fun x _ => by simp [h21]⟩
    · simp [d77, m8s, h21]
      exact ⟨by simp [hcs], by simp, by simp, by simp, by simp, by simp, rfl, by first | rfl | (congr 2; exact boolC_congr fun x _ => by simp [h21])⟩
  rintro ⟨en, ds⟩ H2 ⟨e0, e1, e2, e7, e8, e9, rfl, rfl⟩
  dsimp only at e0 e1 e2 e7 e8 e9
  rw [hcs] at e0
  refine CW.cut (asM Hb (refC u p I) b t r7 r8 r9 u.regs.toNat (asideP u p I k o)) ?_ ?_
  · refine CW.walk1 hX mixed d77 rfl ?_
    have hme := fun H => may63_c hX o u.regs.toNat p H (fun q => by have := w5 q; omega) (fun q => by have := w8 q; omega)
    simp only [opC] at hme
    simp [d77, e0, e7, e8, m8s]
    refine (hme _).k ?_
    rintro x H2 ⟨rfl, rfl⟩
    by_cases hm : mayTrap p o = true
    · by_cases hc : 0 ≤ k.catch_
      · have hcl : k.catch_.toNat < u.blocks.length := by omega
        simp [d77, hm, hc, e0, e7, e9, m7s, hcl]
        refine (jn _ _ _).k ?_
        rintro x H3 ⟨rfl, rfl⟩
        simp
        exact ⟨by simp [e0, hcs], by simp [e1], by simp [e2], by simp [e7], by simp [e8], by simp [e9], rfl, by
          congr 2
          exact boolC_congr fun x _ => by
            have : decide ((x : Int) = u.code) = (x == u.code.toNat) := by rw [Bool.eq_iff_iff]; simp; omega
            simp [asideP, catchP, hm, hc, this, Bool.and_comm, bne]⟩
      · simp [d77, hm, hc, e7, m7s]
        exact ⟨by simp [e0, hcs], by simp [e1], by simp [e2], by simp [e7], by simp [e8], by simp [e9], rfl, by congr 2; exact boolC_congr fun x _ => by simp [asideP, catchP, hc]⟩
    · simp [hm]
      exact ⟨by simp [e0, hcs], by simp [e1], by simp [e2], by simp [e7], by simp [e8], by simp [e9], rfl, by congr 2; exact boolC_congr fun x _ => by simp [asideP, hm]⟩
  clear e0 e1 e2 e7 e8 e9
  rintro ⟨en, ds⟩ H2 ⟨e0, e1, e2, e7, e8, e9, rfl, rfl⟩
  dsimp only at e0 e1 e2 e7 e8 e9
  refine CW.walk1 hX mixed d77 rfl ?_
  simp [e9]
  exact ⟨_, hleb.set, r9, n9H, rfl, rfl⟩
end Go.Cl
set_option linter.unusedSimpArgs false
set_option linter.unusedVariables false
namespace Go.Cl
open Go.Proofs Dd
variable {W : World} {G : Nat → CV}
set_option maxRecDepth 8000
set_option maxHeartbeats 4000000
theorem CW.condE {X : Cx} {N : Nat} {ρ : Option Nat} {Q : CP} {s : CA} {H : Hp} (hX : CxOk X) {o : Operand} {x y : Code} {b : Bool} (h : evC X N s.env o = .bool b) (ht : b = true → CW X.P X.W N ρ x Q s H) (hf : b = false → CW X.P X.W N ρ y Q s H) : CW X.P X.W N ρ (.cond o x y) Q s H :=
  CW.cond (fun a hr => by
    have := ev_rep hX hr o
    rw [h] at this
    generalize a.eval o = v at this ⊢
    cases this
    rfl) ht hf
theorem Own.new {B H : Hp} {v : CV} {sz : Nat} {xs : List (List CV)} (h : Own B H v sz xs) {r o l c : Nat} (hv : v = .ref r o l c) : B r = none := by
  obtain ⟨_, _, ⟨h1, _⟩ | ⟨q, c', ex, h1, h2, h3, _⟩⟩ := h
  · rw [h1] at hv; cases hv
  · rw [h1] at hv; injection hv with e1; subst e1; exact h2
theorem le_set_of {H H' : Hp} {r : Nat} {o : Ob} (h : Le H H') (hr : H' r = some o) : Le (H.set r o) H' := fun i x hi => by
  simp only [Hp.set] at hi
  split at hi
  · rename_i e; injection hi with hi; rw [e, hr, hi]
  · exact h i x hi
def anyOf (l : List Int) : Nat → Bool := fun x => l.any fun y => x == y.toNat
theorem anyOf_take {l : List Int} {i : Nat} {y : Int} (h : l[i]? = some y) (x : Nat) : anyOf (l.take (i + 1)) x = (anyOf (l.take i) x || x == y.toNat) := by
  obtain ⟨hi, he⟩ := List.getElem?_eq_some_iff.1 h
  simp only [anyOf]
  rw [List.take_add_one, h, List.any_append]
  simp
structure bfM (H : Hp) (cs : List CV) (b t r7 r8 n : Nat) (bl : List CV) (f : Nat → Bool) (s' : CA) (H' : Hp) : Prop where
  ex : s'.env 0 = .iptr cs ∧ s'.env 1 = .int .i64 b ∧ s'.env 2 = .int .i64 t ∧ s'.env 7 = .ptr r7 0 ∧ s'.env 8 = .ref r8 0 n n ∧ s'.ds = [] ∧ Le H H' ∧ H r8 = none ∧ H' r8 = some (.cells (boolC n f)) ∧ H' r7 = some (.cells bl)
structure bfL (H : Hp) (cs : List CV) (b t r7 r8 n tl ti : Nat) (bl : List CV) (v : CV) (l : List Int) (f : Nat → Bool) (d : Nat) (j : Nat) (s' : CA) (H' : Hp) : Prop where
  ex : ∃ i i' : Nat, i ≤ l.length ∧ j = l.length - i ∧ bfM H cs b t r7 r8 n bl (fun x => f x || anyOf (l.take i) x) s' H' ∧ s'.env tl = v ∧ s'.env ti = .int .i64 i' ∧ i' + d = i ∧ SlF H' v l ∧ (∀ o m c, v ≠ .ref r8 o m c)
theorem before41_c (hX : CxOk (cx W G)) (u : UUnit) (hw : wfU u = true) (p : Nat → Bool) (I : Nat → Nat → Bool) (b : Nat) (k : UBlk) (hk : u.blocks[b]? = some k) : ∀ (m t : Nat) (hm : k.ops.length - t = m) (ht : t ≤ k.ops.length) (H : Hp),
    CC Tryz.prog W 41 [.iptr (refC u p I), .int .i64 b, .int .i64 t] H fun x H' => ∃ r, H r = none ∧ x = .ret (.ref r 0 u.regs.toNat u.regs.toNat) ∧ H' = H.set r (.cells (boolC u.regs.toNat (beforeP u p I k (k.ops.drop t)))) := by
  obtain ⟨f1, f2, f3, f4, f5, f6, f7, f8, f9, f10, f11⟩ := wfU_facts hw
  obtain ⟨hct, hlen, hwo, hwe⟩ := wfB_facts hw hk
  obtain ⟨g1, g2, g3, g4, g5⟩ := wfE_facts hwe
  have hb := (List.getElem?_eq_some_iff.1 hk).1
  have hbe := (List.getElem?_eq_some_iff.1 hk).2
  have hcs : refC u p I = [.sl 1 (u.sizes.map fun n => [ci n]), ci u.params, ci u.regs, ci u.code, ci u.spill, .sl 6 (u.blocks.map blkC), .sl 1 (boolS u.regs.toNat p), .sl 1 (insS u.blocks.length u.regs.toNat I)] := rfl
  intro m
  induction m with
  | zero =>
    intro t hm ht H
    have htt : t = k.ops.length := by omega
    subst htt
    refine CC.shrink ?_
    refine CC.of_cw hX Tryz.func41 rfl rfl (Nat.le_of_ble_eq_true rfl) ?_
    refine CW.walk hX mixed d41 rfl ?_
    simp
    refine CW.walk hX mixed d41 rfl ?_
    simp [d41, refC, unitC, hb, hbe, blkC]
    intro r7 n7
    refine CW.walk hX mixed d41 rfl ?_
    simp
    refine ⟨by omega, by omega, by omega, fun r8 q1 q2 n8 => ?_⟩
    rw [zeroB]
    have n8' : (H.set r7 (.cells (.sl 7 (k.ops.map opC) :: blkT k))) r8 = none := by rw [hset_ne q1]; exact n8
    have c10 : Le H ((H.set r7 (.cells (blkC k))).set r8 (.cells (boolC u.regs.toNat fun _ => false))) := (Le.set_new n7).trans (Le.set_new n8')
    have c12 : ((H.set r7 (.cells (blkC k))).set r8 (.cells (boolC u.regs.toNat fun _ => false))) r8 = some (.cells (boolC u.regs.toNat fun _ => false)) := set_at
    have c13 : ((H.set r7 (.cells (blkC k))).set r8 (.cells (boolC u.regs.toNat fun _ => false))) r7 = some (.cells (blkC k)) := by rw [hset_ne q2]; exact set_at
    have c11 := n8
    refine CW.seq ?_
    refine CW.walk hX mixed d41 rfl ?_
    simp [q1, q2]
    refine CW.condE hX (b := true) (by simp) (fun _ => ?_) (fun q => by cases q)
    obtain ⟨l, hl⟩ : ∃ l, l = (if k.en.kind = 1 then [] else [k.en.a]) := ⟨_, rfl⟩
    have hlr : ∀ y ∈ l, 0 ≤ y ∧ y < u.regs := fun y hy => by
      rw [hl] at hy
      split at hy
      · simp at hy
      · simp at hy; subst hy; exact g3 (by assumption)
    have hll : l.length ≤ 10 := by rw [hl]; split <;> simp
    refine CW.cut (fun s' H' => ∃ v, bfM H (refC u p I) b k.ops.length r7 r8 u.regs.toNat (blkC k) (fun _ => false) s' H' ∧ s'.env 9 = v ∧ SlF H' v l ∧ ∀ o m c, v ≠ .ref r8 o m c) ?_ ?_
    · refine CW.walk1 hX mixed d41 rfl ?_
      simp [q1, q2]
      have her := endReads65_c hX k.en ((H.set r7 (.cells (blkC k))).set r8 (.cells (boolC u.regs.toNat fun _ => false)))
      simp only [endC, blkC, blkT] at her
      refine her.k ?_
      rintro x H4 ⟨v, rfl, how⟩
      simp
      rw [← hl] at how
      refine ⟨⟨by simp [hcs], by simp, by simp, by simp, by simp, rfl, c10.trans how.le, c11, how.le _ _ c12, how.le _ _ c13⟩, how.slF, fun o m c q => ?_⟩
      have := Own.new how q
      cases this.symm.trans c12
    rintro ⟨en, ds⟩ H4 ⟨v, ⟨hM⟩, hv, hsl, hvn⟩
    dsimp only at hM hv
    obtain rfl : ds = [] := hM.2.2.2.2.2.1
    refine CW.cut (bfM H (refC u p I) b k.ops.length r7 r8 u.regs.toNat (blkC k) (fun x => (fun _ => false) x || anyOf l x)) ?_ ?_
    · refine CW.walk hX mixed d41 rfl ?_
      simp
      refine CW.block ?_
      refine CW.loop (bfL H (refC u p I) b k.ops.length r7 r8 u.regs.toNat 9 10 (blkC k) v l (fun _ => false) 0) ?_ (m := l.length) ⟨0, 0, by omega, rfl, ⟨by simp [hM.1], by simp [hM.2.1], by simp [hM.2.2.1], by simp [hM.2.2.2.1], by simp [hM.2.2.2.2.1], rfl, hM.2.2.2.2.2.2.1, hM.2.2.2.2.2.2.2.1, by rw [hM.2.2.2.2.2.2.2.2.1]; first | rfl | (congr 2; exact boolC_congr fun x _ => by simp [anyOf]), hM.2.2.2.2.2.2.2.2.2⟩, by simp [hv], by simp, rfl, hsl, hvn⟩
      clear hM hv hsl
      rintro j ⟨en, ds⟩ H5 ⟨i, i', hi, rfl, ⟨e0, e1, e2, e7, e8, rfl, hle, hn8, m8, m7⟩, el, ei, hii, hsl, hvn⟩
      obtain rfl : i = i' := by omega
      dsimp only at e0 e1 e2 e7 e8 el ei
      by_cases hlt : i < l.length
      rotate_left
      · have hil : i = l.length := by omega
        have fin : ∀ en : Env, en 0 = .iptr (refC u p I) → en 1 = .int .i64 b → en 2 = .int .i64 k.ops.length → en 7 = .ptr r7 0 → en 8 = .ref r8 0 u.regs.toNat u.regs.toNat → bfM H (refC u p I) b k.ops.length r7 r8 u.regs.toNat (blkC k) (fun x => (fun _ => false) x || anyOf l x) ⟨en, []⟩ H5 := fun en g0 g1 g2 g7 g8 => ⟨g0, g1, g2, g7, g8, rfl, hle, hn8, by rw [m8, hil, List.take_length], m7⟩
        refine CW.walk hX mixed d41 rfl ?_
        rcases hsl with ⟨rfl, rfl⟩ | ⟨rl, cl, csl, rfl, ml, hcl⟩
        · have : i = 0 := by simpa using hil
          subst this
          simp [el, ei]
          exact fin _ (by simp [e0]) (by simp [e1]) (by simp [e2]) (by simp [e7]) (by simp [e8])
        · simp [el, ei, hlt]
          exact fin _ (by simp [e0]) (by simp [e1]) (by simp [e2]) (by simp [e7]) (by simp [e8])
      rcases hsl with ⟨rfl, rfl⟩ | ⟨rl, cl, csl, rfl, ml, hcl⟩
      · simp at hlt
      obtain ⟨y, hy⟩ : ∃ y, l[i] = y := ⟨_, rfl⟩
      have hy' : l[i]? = some y := by rw [List.getElem?_eq_getElem hlt, hy]
      have hcy := hcl i y hy'
      obtain ⟨y0, y1⟩ := hlr y (List.mem_of_getElem? hy')
      have y2 : y.toNat < u.regs.toNat := by omega
      have hrl : rl ≠ r8 := fun q => hvn 0 l.length (l.length + cl) (by rw [q])
      refine CW.walk hX mixed d41 rfl ?_
      simp [el, ei, hlt]
      refine CW.cut (bfL H (refC u p I) b k.ops.length r7 r8 u.regs.toNat 9 10 (blkC k) (.ref rl 0 l.length (l.length + cl)) l (fun _ => false) 1 (l.length - (i + 1))) ?_ ?_
      · refine CW.block ?_
        refine CW.walk1 hX mixed d41 rfl ?_
        simp [e8, el, ei, hlt, ml, hcy, y0, y1, y2, m8, boolC_len]
        refine ⟨by omega, by omega, i + 1, i, hlt, rfl, ⟨by simp [e0], by simp [e1], by simp [e2], by simp [e7], by simp [e8], rfl, hle.put hn8, hn8, ?_, ?_⟩, by simp [el], by simp [ei], rfl, .inr ⟨rl, cl, csl, rfl, by rw [hset_ne hrl]; exact ml, hcl⟩, fun o m c q => hvn o m c q⟩
        · rw [set_at, boolC_put _ _ y2]
          congr 2
          refine boolC_congr fun x _ => ?_
          rw [anyOf_take hy']
          by_cases hx : x = y.toNat
          · subst hx; simp
          · have hx2 : (x == y.toNat) = false := by simpa using hx
            simp [hx, hx2]
        · rw [hset_ne q2]; exact m7
      · rintro ⟨en, ds⟩ H6 ⟨i', i2, hi', hj', ⟨g0, g1, g2, g7, g8, rfl, hle', hn8', m8', m7'⟩, gl, gi, hii', hsl', hvn'⟩
        dsimp only at g0 g1 g2 g7 g8 gl gi
        refine CW.walk1 hX mixed d41 rfl ?_
        simp [gi]
        exact ⟨l.length - (i + 1), by omega, i', i', hi', hj', ⟨by simp [g0], by simp [g1], by simp [g2], by simp [g7], by simp [g8], rfl, hle', hn8', m8', m7'⟩, by simp [gl], by simp; rw [wrapI (by omega) (by omega)]; omega, rfl, hsl', hvn'⟩
    clear hM hv hsl
    rintro ⟨en, ds⟩ H5 ⟨e0, e1, e2, e7, e8, rfl, hle, hn8, m8, m7⟩
    dsimp only at e0 e1 e2 e7 e8
    refine CW.walk1 hX mixed d41 rfl ?_
    simp [e0, e1, e8]
    refine (behind67_c hX u hw p I b k hk H5).k ?_
    rintro x H6 ⟨r, hr, rfl, rfl⟩
    have hr8 : r ≠ r8 := fun q => by rw [q, m8] at hr; cases hr
    simp [e8]
    have m8' : (H5.set r (.cells (boolC u.regs.toNat (behP u p I k)))) r8 = some (.cells (boolC u.regs.toNat fun x => (fun _ => false) x || anyOf l x)) := by rw [hset_ne (Ne.symm hr8)]; exact m8
    refine (join66_c hX u.regs.toNat r8 _ (behP u p I k) (-1) (.ref r 0 u.regs.toNat u.regs.toNat) m8' (.inr ⟨r, _, rfl, set_at, hr8⟩) (by omega)).k ?_
    rintro x H7 ⟨rfl, rfl⟩
    simp [e8]
    refine ⟨H.set r8 (.cells (boolC u.regs.toNat fun x => anyOf l x || behP u p I k x)), le_set_of ((hle.trans (Le.set_new hr)).put hn8) set_at, r8, hn8, rfl, ?_⟩
    congr 2
    refine boolC_congr fun x _ => ?_
    show _ = endP u p I k x
    simp only [endP, behP, hl, anyOf]
    by_cases h1 : k.en.kind = 1
    · simp [h1]
    · simp [h1, Bool.or_comm]
  | succ m ih =>
    intro t hm ht H
    have htl : t < k.ops.length := by omega
    obtain ⟨o, hoe⟩ : ∃ o, k.ops[t] = o := ⟨_, rfl⟩
    have ho : k.ops[t]? = some o := by rw [List.getElem?_eq_getElem htl, hoe]
    obtain ⟨w1, w2, w3, w4, w5, w6, w7, w8, w9⟩ := wfO_facts (hwo o (List.mem_of_getElem? ho)) f3
    refine CC.shrink ?_
    refine CC.of_cw hX Tryz.func41 rfl rfl (Nat.le_of_ble_eq_true rfl) ?_
    refine CW.walk hX mixed d41 rfl ?_
    simp
    refine CW.walk hX mixed d41 rfl ?_
    simp [d41, refC, unitC, hb, hbe, blkC]
    intro r7 n7
    refine CW.walk hX mixed d41 rfl ?_
    simp
    refine ⟨by omega, by omega, by omega, fun r8 q1 q2 n8 => ?_⟩
    rw [zeroB]
    have n8' : (H.set r7 (.cells (.sl 7 (k.ops.map opC) :: blkT k))) r8 = none := by rw [hset_ne q1]; exact n8
    have c10 : Le H ((H.set r7 (.cells (blkC k))).set r8 (.cells (boolC u.regs.toNat fun _ => false))) := (Le.set_new n7).trans (Le.set_new n8')
    have c12 : ((H.set r7 (.cells (blkC k))).set r8 (.cells (boolC u.regs.toNat fun _ => false))) r8 = some (.cells (boolC u.regs.toNat fun _ => false)) := set_at
    have c13 : ((H.set r7 (.cells (blkC k))).set r8 (.cells (boolC u.regs.toNat fun _ => false))) r7 = some (.cells (blkC k)) := by rw [hset_ne q2]; exact set_at
    simp only [blkC, blkT] at c10 c12 c13
    have htn : ¬ ((t : Int) = k.ops.length) := by omega
    refine CW.walk hX mixed d41 rfl ?_
    simp [q1, q2, htn]
    skip
    generalize hH1 : Hp.set _ r8 _ = H1 at c10 c12 c13 ⊢
    clear hH1
    refine CW.walk hX mixed d41 rfl ?_
    simp [c13, htl, hoe, opC]
    intro r11 n11
    have h811 : r11 ≠ r8 := fun q => by rw [q, c12] at n11; cases n11
    have l11 : Le H1 (H1.set r11 (.cells (opC o))) := Le.set_new n11
    have m11 : (H1.set r11 (.cells (opC o))) r11 = some (.cells (opC o)) := set_at
    simp only [opC] at l11 m11
    generalize H1.set r11 _ = H2 at l11 m11 ⊢
    have c10 := c10.trans l11
    have c12 := l11 _ _ c12
    have c13 := l11 _ _ c13
    refine CW.walk hX mixed d41 rfl ?_
    simp
    obtain ⟨bu, hbu⟩ : ∃ bu : Int, bu = (if uBit o.kind 0 = true ∧ o.guard = -1 then o.dst else -1) := ⟨_, rfl⟩
    have hwr := writes40_c hX o w1 H2
    simp only [opC] at hwr
    refine CW.cut (fun s' H' => (s'.env 0 = .iptr (refC u p I) ∧ s'.env 1 = .int .i64 b ∧ s'.env 2 = .int .i64 t ∧ s'.env 7 = .ptr r7 0 ∧ s'.env 8 = .ref r8 0 u.regs.toNat u.regs.toNat ∧ s'.env 11 = .ptr r11 0 ∧ s'.env 12 = ci bu ∧ s'.ds = []) ∧ H' = H2) ?_ ?_
    · refine CW.walk1 hX mixed d41 rfl ?_
      simp [m11]
      refine hwr.k ?_
      rintro x H3 ⟨rfl, rfl⟩
      by_cases hd : uBit o.kind 0 = true
      · by_cases hg : o.guard = -1
        · simp [hd, m11, hg]
          exact ⟨by simp [hcs], by simp [hbu, hd, hg]⟩
        · simp [hd, m11, hg]
          exact ⟨by simp [hcs], by simp [hbu, hd, hg]⟩
      · simp [hd]
        exact ⟨by simp [hcs], by simp [hbu, hd]⟩
    rintro ⟨en, ds⟩ H3 ⟨⟨e0, e1, e2, e7, e8, e11, e12, rfl⟩, rfl⟩
    dsimp only at e0 e1 e2 e7 e8 e11 e12
    refine CW.walk hX mixed d41 rfl ?_
    simp [e0, e1, e2, e8, e12]
    rw [wrapI (by omega) (by omega)]
    have hih := ih (t + 1) (by omega) (by omega) H3
    refine hih.k ?_
    rintro x H4 ⟨r, hr, rfl, rfl⟩
    have hr8 : r ≠ r8 := fun q => by rw [q, c12] at hr; cases hr
    simp [e8, e12]
    have m8' : (H3.set r (.cells (boolC u.regs.toNat (beforeP u p I k (k.ops.drop (t + 1)))))) r8 = some (.cells (boolC u.regs.toNat fun _ => false)) := by rw [hset_ne (Ne.symm hr8)]; exact c12
    refine (join66_c hX u.regs.toNat r8 _ (beforeP u p I k (k.ops.drop (t + 1))) bu (.ref r 0 u.regs.toNat u.regs.toNat) m8' (.inr ⟨r, _, rfl, set_at, hr8⟩) (by omega)).k ?_
    rintro x H5 ⟨rfl, rfl⟩
    simp
    obtain ⟨S1, hS1⟩ : ∃ S1 : Nat → Bool, S1 = fun x => beforeP u p I k (k.ops.drop (t + 1)) x && !decide ((x : Int) = bu) := ⟨_, rfl⟩
    have l5 : Le H ((H3.set r (.cells (boolC u.regs.toNat (beforeP u p I k (k.ops.drop (t + 1)))))).set r8 (.cells (boolC u.regs.toNat S1))) := (c10.trans (Le.set_new hr)).put n8
    have c12 : ((H3.set r (.cells (boolC u.regs.toNat (beforeP u p I k (k.ops.drop (t + 1)))))).set r8 (.cells (boolC u.regs.toNat S1))) r8 = some (.cells (boolC u.regs.toNat S1)) := set_at
    have hr7 : r7 ≠ r := fun q => by rw [← q, c13] at hr; cases hr
    have hr11 : r11 ≠ r := fun q => by rw [← q, m11] at hr; cases hr
    have c13 : ((H3.set r (.cells (boolC u.regs.toNat (beforeP u p I k (k.ops.drop (t + 1)))))).set r8 (.cells (boolC u.regs.toNat S1))) r7 = some (.cells (blkC k)) := by rw [hset_ne q2, hset_ne hr7]; exact c13
    have m11 : ((H3.set r (.cells (boolC u.regs.toNat (beforeP u p I k (k.ops.drop (t + 1)))))).set r8 (.cells (boolC u.regs.toNat S1))) r11 = some (.cells [ci o.kind, ci o.dst, ci o.a, ci o.b, ci o.c, ci o.n, ci o.guard]) := by rw [hset_ne h811, hset_ne hr11]; exact m11
    rw [← hS1]
    generalize ((H3.set r (.cells (boolC u.regs.toNat (beforeP u p I k (k.ops.drop (t + 1)))))).set r8 (.cells (boolC u.regs.toNat S1))) = H5 at l5 c12 c13 m11 ⊢
    obtain ⟨l, hl⟩ : ∃ l, l = allReads o := ⟨_, rfl⟩
    have hlr : ∀ y ∈ l, 0 ≤ y ∧ y < u.regs := fun y hy => w3 y (by rw [← hl]; exact hy)
    have hll : l.length ≤ 10 := by
      have := reads_len o
      rw [hl]; simp only [allReads]; split <;> simp <;> omega
    refine CW.cut (fun s' H' => ∃ v, bfM H (refC u p I) b t r7 r8 u.regs.toNat (blkC k) S1 s' H' ∧ s'.env 15 = v ∧ SlF H' v l ∧ ∀ o m c, v ≠ .ref r8 o m c) ?_ ?_
    · have hrd := reads68_c hX o w1 H5
      simp only [opC] at hrd
      refine CW.walk1 hX mixed d41 rfl ?_
      simp [e11, m11]
      refine hrd.k ?_
      rintro x H6 ⟨v, rfl, how⟩
      simp
      rw [← hl] at how
      refine ⟨⟨by simp [e0], by simp [e1], by simp [e2], by simp [e7], by simp [e8], rfl, l5.trans how.le, n8, how.le _ _ c12, how.le _ _ c13⟩, how.slF, fun o m c q => ?_⟩
      have := Own.new how q
      rw [c12] at this
      cases this
    clear e0 e1 e2 e7 e8 e11 e12
    rintro ⟨en, ds⟩ H6 ⟨v, ⟨hM⟩, hv, hsl, hvn⟩
    dsimp only at hM hv
    obtain rfl : ds = [] := hM.2.2.2.2.2.1
    refine CW.cut (bfM H (refC u p I) b t r7 r8 u.regs.toNat (blkC k) (fun x => S1 x || anyOf l x)) ?_ ?_
    · refine CW.walk hX mixed d41 rfl ?_
      simp
      refine CW.block ?_
      refine CW.loop (bfL H (refC u p I) b t r7 r8 u.regs.toNat 15 16 (blkC k) v l S1 0) ?_ (m := l.length) ⟨0, 0, by omega, rfl, ⟨by simp [hM.1], by simp [hM.2.1], by simp [hM.2.2.1], by simp [hM.2.2.2.1], by simp [hM.2.2.2.2.1], rfl, hM.2.2.2.2.2.2.1, hM.2.2.2.2.2.2.2.1, by rw [hM.2.2.2.2.2.2.2.2.1]; first | rfl | (congr 2; exact boolC_congr fun x _ => by simp [anyOf]), hM.2.2.2.2.2.2.2.2.2⟩, by simp [hv], by simp, rfl, hsl, hvn⟩
      clear hM hv hsl
      rintro j ⟨en, ds⟩ H5 ⟨i, i', hi, rfl, ⟨e0, e1, e2, e7, e8, rfl, hle, hn8, m8, m7⟩, el, ei, hii, hsl, hvn⟩
      obtain rfl : i = i' := by omega
      dsimp only at e0 e1 e2 e7 e8 el ei
      by_cases hlt : i < l.length
      rotate_left
      · have hil : i = l.length := by omega
        have fin : ∀ en : Env, en 0 = .iptr (refC u p I) → en 1 = .int .i64 b → en 2 = .int .i64 t → en 7 = .ptr r7 0 → en 8 = .ref r8 0 u.regs.toNat u.regs.toNat → bfM H (refC u p I) b t r7 r8 u.regs.toNat (blkC k) (fun x => S1 x || anyOf l x) ⟨en, []⟩ H5 := fun en g0 g1 g2 g7 g8 => ⟨g0, g1, g2, g7, g8, rfl, hle, hn8, by rw [m8, hil, List.take_length], m7⟩
        refine CW.walk hX mixed d41 rfl ?_
        rcases hsl with ⟨rfl, rfl⟩ | ⟨rl, cl, csl, rfl, ml, hcl⟩
        · have : i = 0 := by simpa using hil
          subst this
          simp [el, ei]
          exact fin _ (by simp [e0]) (by simp [e1]) (by simp [e2]) (by simp [e7]) (by simp [e8])
        · simp [el, ei, hlt]
          exact fin _ (by simp [e0]) (by simp [e1]) (by simp [e2]) (by simp [e7]) (by simp [e8])
      rcases hsl with ⟨rfl, rfl⟩ | ⟨rl, cl, csl, rfl, ml, hcl⟩
      · simp at hlt
      obtain ⟨y, hy⟩ : ∃ y, l[i] = y := ⟨_, rfl⟩
      have hy' : l[i]? = some y := by rw [List.getElem?_eq_getElem hlt, hy]
      have hcy := hcl i y hy'
      obtain ⟨y0, y1⟩ := hlr y (List.mem_of_getElem? hy')
      have y2 : y.toNat < u.regs.toNat := by omega
      have hrl : rl ≠ r8 := fun q => hvn 0 l.length (l.length + cl) (by rw [q])
      refine CW.walk hX mixed d41 rfl ?_
      simp [el, ei, hlt]
      refine CW.cut (bfL H (refC u p I) b t r7 r8 u.regs.toNat 15 16 (blkC k) (.ref rl 0 l.length (l.length + cl)) l S1 1 (l.length - (i + 1))) ?_ ?_
      · refine CW.block ?_
        refine CW.walk1 hX mixed d41 rfl ?_
        simp [e8, el, ei, hlt, ml, hcy, y0, y1, y2, m8, boolC_len]
        refine ⟨by omega, by omega, i + 1, i, hlt, rfl, ⟨by simp [e0], by simp [e1], by simp [e2], by simp [e7], by simp [e8], rfl, hle.put hn8, hn8, ?_, ?_⟩, by simp [el], by simp [ei], rfl, .inr ⟨rl, cl, csl, rfl, by rw [hset_ne hrl]; exact ml, hcl⟩, fun o m c q => hvn o m c q⟩
        · rw [set_at, boolC_put _ _ y2]
          congr 2
          refine boolC_congr fun x _ => ?_
          rw [anyOf_take hy']
          by_cases hx : x = y.toNat
          · subst hx; simp
          · have hx2 : (x == y.toNat) = false := by simpa using hx
            simp [hx, hx2]
        · rw [hset_ne q2]; exact m7
      · rintro ⟨en, ds⟩ H6 ⟨i', i2, hi', hj', ⟨g0, g1, g2, g7, g8, rfl, hle', hn8', m8', m7'⟩, gl, gi, hii', hsl', hvn'⟩
        dsimp only at g0 g1 g2 g7 g8 gl gi
        refine CW.walk1 hX mixed d41 rfl ?_
        simp [gi]
        exact ⟨l.length - (i + 1), by omega, i', i', hi', hj', ⟨by simp [g0], by simp [g1], by simp [g2], by simp [g7], by simp [g8], rfl, hle', hn8', m8', m7'⟩, by simp [gl], by simp; rw [wrapI (by omega) (by omega)]; omega, rfl, hsl', hvn'⟩
    clear hM hv hsl
    rintro ⟨en, ds⟩ H5 ⟨e0, e1, e2, e7, e8, rfl, hle, hn8, m8, m7⟩
    dsimp only at e0 e1 e2 e7 e8
    refine CW.walk1 hX mixed d41 rfl ?_
    simp [e0, e1, e2, e8]
    refine (aside69_c hX u hw p I b t k hk o ho H5).k ?_
    rintro x H6 ⟨r, hr, rfl, rfl⟩
    have hr8 : r ≠ r8 := fun q => by rw [q, m8] at hr; cases hr
    simp [e8]
    have m8' : (H5.set r (.cells (boolC u.regs.toNat (asideP u p I k o)))) r8 = some (.cells (boolC u.regs.toNat fun x => S1 x || anyOf l x)) := by rw [hset_ne (Ne.symm hr8)]; exact m8
    refine (join66_c hX u.regs.toNat r8 _ (asideP u p I k o) (-1) (.ref r 0 u.regs.toNat u.regs.toNat) m8' (.inr ⟨r, _, rfl, set_at, hr8⟩) (by omega)).k ?_
    rintro x H7 ⟨rfl, rfl⟩
    simp [e8]
    refine ⟨_, le_set_of ((hle.trans (Le.set_new hr)).put hn8) set_at, r8, hn8, rfl, ?_⟩
    congr 2
    refine boolC_congr fun x hx => ?_
    rw [List.drop_eq_getElem_cons htl, hoe]
    show _ = stepP u p I k o (beforeP u p I k (k.ops.drop (t + 1))) x
    have hb1 : decide ((x : Int) = bu) = (decide (0 ≤ writeOf o) && decide (o.guard = -1) && x == (writeOf o).toNat) := by
      rw [hbu]
      simp only [writeOf]
      by_cases hd : uBit o.kind 0 = true
      · have := w4 hd
        by_cases hg : o.guard = -1
        · rw [Bool.eq_iff_iff]; simp [hd, hg] <;> omega
        · rw [Bool.eq_iff_iff]; simp [hd, hg] <;> omega
      · rw [Bool.eq_iff_iff]; simp [hd] <;> omega
    simp only [stepP, asideP, hS1, hb1, hl, anyOf]
    generalize (beforeP u p I k (k.ops.drop (t + 1)) x && !(decide (0 ≤ writeOf o) && decide (o.guard = -1) && x == (writeOf o).toNat)) = a1
    generalize ((allReads o).any fun y => x == y.toNat) = a2
    generalize (decide (o.kind = 21) && I o.n.toNat x) = a3
    generalize (mayTrap p o && catchP u I k x) = a4
    cases a1 <;> cases a2 <;> cases a3 <;> cases a4 <;> rfl
end Go.Cl
set_option linter.unusedSimpArgs false
set_option linter.unusedVariables false
namespace Go.Cl
open Go.Proofs Dd
variable {W : World} {G : Nat → CV}
set_option maxRecDepth 8000
set_option maxHeartbeats 4000000
/-- What one look at all operations has made so far. -/
structure PV (u : UUnit) (p c : Nat → Bool) (D : List UOp) (p' c' : Nat → Bool) (a : Bool) : Prop where
  low : PLow (opsOf u) p' c'
  gt : a = true → gapP u.regs.toNat u.spill.toNat p' c' < gapP u.regs.toNat u.spill.toNat p c
  same : a = false → p' = p ∧ c' = c ∧ ∀ o ∈ D, spreadN o p c = false
theorem PV.step {u : UUnit} (hu : wfU u = true) {p c : Nat → Bool} {D : List UOp} {p' c' : Nat → Bool} {a : Bool} (h : PV u p c D p' c' a) {o : UOp} (ho : o ∈ opsOf u) : PV u p c (D ++ [o]) (spreadR o p' c') (spreadC o p' c') (a || spreadN o p' c') := by
  have hge : gapP u.regs.toNat u.spill.toNat p' c' ≤ gapP u.regs.toNat u.spill.toNat p c := by
    cases a with
    | true => exact Nat.le_of_lt (h.gt rfl)
    | false => obtain ⟨rfl, rfl, _⟩ := h.same rfl; exact Nat.le_refl _
  refine ⟨h.low.spread ho, fun ha => ?_, fun ha => ?_⟩
  · cases hs : spreadN o p' c' with
    | true => have := spread_gap hu (wf_ops hu ho) hs; omega
    | false => rw [spreadR_same hs, spreadC_same hs]; rw [hs, Bool.or_false] at ha; exact h.gt ha
  · simp only [Bool.or_eq_false_iff] at ha
    obtain ⟨h1, h2, h3⟩ := h.same ha.1
    rw [spreadR_same ha.2, spreadC_same ha.2]
    refine ⟨h1, h2, fun o' ho' => ?_⟩
    rcases List.mem_append.1 ho' with h4 | h4
    · exact h3 o' h4
    · simp at h4; subst h4; rw [← h1, ← h2]; exact ha.2
/-- Where the sets lie. -/
structure psS (H : Hp) (u : UUnit) (r1 rr rc : Nat) (p c : Nat → Bool) (a : Bool) (s' : CA) (H' : Hp) : Prop where
  ex : s'.env 1 = .ptr r1 0 ∧ s'.env 3 = .ref rr 0 u.regs.toNat u.regs.toNat ∧ s'.env 4 = .ref rc 0 u.spill.toNat u.spill.toNat ∧ s'.env 5 = .bool a ∧ s'.ds = [] ∧ Le H H' ∧ H rr = none ∧ H rc = none ∧ rr ≠ rc ∧ H' rr = some (.cells (boolC u.regs.toNat p)) ∧ H' rc = some (.cells (boolC u.spill.toNat c)) ∧ H' r1 = some (.cells (unitC u)) ∧ r1 ≠ rr ∧ r1 ≠ rc
structure psL (H : Hp) (u : UUnit) (r1 rr rc : Nat) (j : Nat) (s' : CA) (H' : Hp) : Prop where
  ex : ∃ p c a, j = 2 * gapP u.regs.toNat u.spill.toNat p c + (if a = true then 1 else 0) ∧ psS H u r1 rr rc p c a s' H' ∧ PLow (opsOf u) p c ∧ (a = false → PCl (opsOf u) p c)
structure psI (H : Hp) (u : UUnit) (r1 rr rc : Nat) (p c : Nat → Bool) (d : Nat) (j : Nat) (s' : CA) (H' : Hp) : Prop where
  ex : ∃ (i i6 : Nat) (p' c' : Nat → Bool) (a : Bool), i ≤ u.blocks.length ∧ j = u.blocks.length - i ∧ psS H u r1 rr rc p' c' a s' H' ∧ s'.env 6 = .int .i64 i6 ∧ i6 + d = i ∧ PV u p c ((u.blocks.take i).flatMap (·.ops)) p' c' a
structure psK (H : Hp) (u : UUnit) (k : UBlk) (r1 rr rc i : Nat) (p c : Nat → Bool) (d : Nat) (j : Nat) (s' : CA) (H' : Hp) : Prop where
  ex : ∃ (t t7 : Nat) (p' c' : Nat → Bool) (a : Bool), t ≤ k.ops.length ∧ j = k.ops.length - t ∧ psS H u r1 rr rc p' c' a s' H' ∧ s'.env 6 = .int .i64 i ∧ s'.env 7 = .int .i64 t7 ∧ t7 + d = t ∧ PV u p c ((u.blocks.take i).flatMap (·.ops) ++ k.ops.take t) p' c' a
structure psO (H : Hp) (u : UUnit) (r1 rr rc : Nat) (p c : Nat → Bool) (s' : CA) (H' : Hp) : Prop where
  ex : ∃ p' c' a, psS H u r1 rr rc p' c' a s' H' ∧ PV u p c (opsOf u) p' c' a
structure psF (H : Hp) (u : UUnit) (r1 rr rc : Nat) (s' : CA) (H' : Hp) : Prop where
  ex : ∃ p c, psS H u r1 rr rc p c false s' H' ∧ PLow (opsOf u) p c ∧ PCl (opsOf u) p c
structure psX (u : UUnit) (r1 rr rc r8 i t : Nat) (a b : Bool) (H6 : Hp) (s' : CA) (H' : Hp) : Prop where
  ex : s'.env 1 = .ptr r1 0 ∧ s'.env 3 = .ref rr 0 u.regs.toNat u.regs.toNat ∧ s'.env 4 = .ref rc 0 u.spill.toNat u.spill.toNat ∧ s'.env 5 = .bool a ∧ s'.env 6 = .int .i64 i ∧ s'.env 7 = .int .i64 t ∧ s'.env 8 = .ptr r8 0 ∧ s'.env 9 = .bool b ∧ s'.ds = [] ∧ H' = H6
structure psY (u : UUnit) (r1 rr rc r8 i t : Nat) (a : Bool) (p : Nat → Bool) (v : CV) (l : List Int) (H6 : Hp) (d : Nat) (j : Nat) (s' : CA) (H' : Hp) : Prop where
  ex : ∃ m m' : Nat, m ≤ l.length ∧ j = l.length - m ∧ psX u r1 rr rc r8 i t a ((l.take m).any fun r => p r.toNat) H6 s' H' ∧ s'.env 10 = v ∧ s'.env 11 = .int .i64 m' ∧ m' + d = m
theorem poisons61_c (hX : CxOk (cx W G)) (u : UUnit) (hu : wfU u = true) (H : Hp) : CC Tryz.prog W 11 [.agg (unitC u)] H fun x H' => ∃ p c rr, x = .ret (.ref rr 0 u.regs.toNat u.regs.toNat) ∧ H rr = none ∧ H' rr = some (.cells (boolC u.regs.toNat p)) ∧ Le H H' ∧ PLeast (opsOf u) p c := by
  obtain ⟨f1, f2, f3, f4, f5, f6, f7, f8, f9, f10, f11⟩ := wfU_facts hu
  refine CC.of_cw hX Tryz.func11 rfl rfl (Nat.le_of_ble_eq_true rfl) ?_
  refine CW.walk hX mixed d11 rfl ?_
  simp [unitC]
  intro r1 n1
  refine CW.walk hX mixed d11 rfl ?_
  simp
  refine ⟨by omega, by omega, by omega, fun rr q1 q2 n2 => ?_⟩
  refine CW.walk hX mixed d11 rfl ?_
  simp [q1, q2]
  refine ⟨by omega, by omega, by omega, fun rc q3 q4 q5 q6 n3 => ?_⟩
  rw [zeroB, zeroB]
  generalize hH1 : Hp.set _ rc _ = H1
  have b1 : (H.set r1 (.cells (unitC u))) rr = none := by rw [hset_ne q1]; exact n2
  have hle : Le H H1 := by rw [← hH1]; exact ((Le.set_new n1).trans (Le.set_new b1)).trans (Le.set_new (by rw [hset_ne q3, hset_ne q5]; exact n3))
  have m1 : H1 r1 = some (.cells (unitC u)) := by rw [← hH1]; simp [Hp.set, q2, q6, unitC]
  have mr : H1 rr = some (.cells (boolC u.regs.toNat fun _ => false)) := by rw [← hH1]; simp [Hp.set, q4]
  have mc : H1 rc = some (.cells (boolC u.spill.toNat fun _ => false)) := by rw [← hH1]; exact set_at
  clear hH1
  refine CW.cut (psF H u r1 rr rc) ?_ ?_
  · refine CW.walk hX mixed d11 rfl ?_
    simp
    refine CW.block ?_
    refine CW.loop (psL H u r1 rr rc) ?_ (m := 2 * gapP u.regs.toNat u.spill.toNat (fun _ => false) (fun _ => false) + 1) ⟨fun _ => false, fun _ => false, true, by simp, ⟨by simp, by simp, by simp, by simp, rfl, hle, n2, n3, Ne.symm q3, mr, mc, m1, q2, q6⟩, PLow.empty _, by simp⟩
    clear mr mc m1 hle
    rintro j ⟨en, ds⟩ H2 ⟨p, c, a, rfl, ⟨e1, e3, e4, e5, rfl, hle, _, _, _, mr, mc, m1, _, _⟩, hlow, hcl⟩
    dsimp only at e1 e3 e4 e5
    cases a with
    | false =>
      refine CW.walk hX mixed d11 rfl ?_
      simp [e5]
      exact ⟨p, c, ⟨by simp [e1], by simp [e3], by simp [e4], by simp [e5], rfl, hle, n2, n3, Ne.symm q3, mr, mc, m1, q2, q6⟩, hlow, hcl rfl⟩
    | true =>
    refine CW.walk hX mixed d11 rfl ?_
    simp [e5]
    refine CW.mono (Q := fun x s' H' => x = .normal ∧ psO H u r1 rr rc p c s' H') ?_ ?_
    · refine CW.block ?_
      refine CW.walk hX mixed d11 rfl ?_
      simp
      refine CW.walk hX mixed d11 rfl ?_
      simp
      refine CW.block ?_
      refine CW.loop (psI H u r1 rr rc p c 0) ?_ (m := u.blocks.length) ⟨0, 0, p, c, false, by omega, rfl, ⟨by simp [e1], by simp [e3], by simp [e4], by simp, rfl, hle, n2, n3, Ne.symm q3, mr, mc, m1, q2, q6⟩, by simp, rfl, ⟨hlow, by simp, fun _ => ⟨rfl, rfl, by simp⟩⟩⟩
      clear e1 e3 e4 e5 mr mc m1 hle
      rintro j ⟨en, ds⟩ H3 ⟨i, i6, p', c', a, hi, rfl, hS, e6, hi6, hV⟩
      obtain rfl : i = i6 := by omega
      obtain ⟨e1, e3, e4, e5, rfl, hle, _, _, _, mr, mc, m1, _, _⟩ := hS.ex
      dsimp only at e1 e3 e4 e5 e6
      have m1' := m1
      simp only [unitC] at m1'
      by_cases hlt : i < u.blocks.length
      rotate_left
      · refine CW.walk hX mixed d11 rfl ?_
        simp [e1, e6, m1', hlt]
        have hil : i = u.blocks.length := by omega
        rw [hil, List.take_length] at hV
        exact ⟨p', c', a, ⟨by simp [e1], by simp [e3], by simp [e4], by simp [e5], rfl, hle, n2, n3, Ne.symm q3, mr, mc, m1, q2, q6⟩, hV⟩
      obtain ⟨k, hke⟩ : ∃ k, u.blocks[i] = k := ⟨_, rfl⟩
      have hk : u.blocks[i]? = some k := by rw [List.getElem?_eq_getElem hlt, hke]
      refine CW.walk hX mixed d11 rfl ?_
      simp [e1, e6, m1', hlt]
      refine CW.cut (psI H u r1 rr rc p c 1 (u.blocks.length - (i + 1))) ?_ ?_
      · refine CW.block ?_
        obtain ⟨_, hlen, hwo, _⟩ := wfB_facts hu hk
        refine CW.walk hX mixed d11 rfl ?_
        simp
        refine CW.block ?_
        refine CW.loop (psK H u k r1 rr rc i p c 0) ?_ (m := k.ops.length) ⟨0, 0, p', c', a, by omega, rfl, ⟨by simp [e1], by simp [e3], by simp [e4], by simp [e5], rfl, hle, n2, n3, Ne.symm q3, mr, mc, m1, q2, q6⟩, by simp [e6], by simp, rfl, by simpa using hV⟩
        clear hS hV e1 e3 e4 e5 e6 mr mc m1 m1' hle
        clear p' c' a
        rintro j ⟨en, ds⟩ H4 ⟨t, t7, p', c', a, ht, rfl, hS, e6, e7, ht7, hV⟩
        obtain rfl : t = t7 := by omega
        obtain ⟨e1, e3, e4, e5, rfl, hle, _, _, _, mr, mc, m1, _, _⟩ := hS.ex
        dsimp only at e1 e3 e4 e5 e6 e7
        have m1' := m1
        simp only [unitC] at m1'
        by_cases htl : t < k.ops.length
        rotate_left
        · refine CW.walk hX mixed d11 rfl ?_
          simp [e1, e6, e7, m1', hlt, hke, blkC, htl]
          have htt : t = k.ops.length := by omega
          rw [htt, List.take_length] at hV
          refine ⟨i + 1, i, p', c', a, hlt, rfl, ⟨by simp [e1], by simp [e3], by simp [e4], by simp [e5], rfl, hle, n2, n3, Ne.symm q3, mr, mc, m1, q2, q6⟩, by simp [e6], rfl, ?_⟩
          rw [List.take_add_one, hk, List.flatMap_append]
          simpa using hV
        obtain ⟨o, hoe⟩ : ∃ o, k.ops[t] = o := ⟨_, rfl⟩
        have ho : k.ops[t]? = some o := by rw [List.getElem?_eq_getElem htl, hoe]
        have hom := List.mem_of_getElem? ho
        have hwo' := hwo o hom
        have hoo : o ∈ opsOf u := List.mem_flatMap.2 ⟨k, List.mem_of_getElem? hk, hom⟩
        have hVs := hV.step hu hoo
        refine CW.walk hX mixed d11 rfl ?_
        simp [e1, e6, e7, m1', hlt, hke, blkC, htl]
        refine CW.cut (psK H u k r1 rr rc i p c 1 (k.ops.length - (t + 1))) ?_ ?_
        · refine CW.block ?_
          obtain ⟨w1, w2, w3, w4, w5, w6, w7, w8, w9⟩ := wfO_facts hwo' f3
          refine CW.walk hX mixed d11 rfl ?_
          simp [e1, e6, e7, m1', hlt, hke, blkC, htl, hoe, opC]
          intro r8 n8
          have l8 : Le H4 (H4.set r8 (.cells (opC o))) := Le.set_new n8
          have m8 : (H4.set r8 (.cells (opC o))) r8 = some (.cells (opC o)) := set_at
          have d8 : ∀ {x y}, H4 x = some y → x ≠ r8 := fun hx q => by rw [q, n8] at hx; cases hx
          simp only [opC] at l8 m8
          generalize H4.set r8 _ = H5 at l8 m8 ⊢
          refine CW.walk hX mixed d11 rfl ?_
          simp
          have hop := operands_c hX o w1 H5
          simp only [opC] at hop
          refine CW.walk hX mixed d11 rfl ?_
          simp [m8]
          refine hop.k ?_
          rintro x H6 ⟨v, rfl, l6, hv⟩
          simp
          have m8 := l6 _ _ m8
          have l46 := l8.trans l6
          have mr6 := l46 _ _ mr
          have mc6 := l46 _ _ mc
          have m16 := l46 _ _ m1
          have hrl := reads_len o
          refine CW.cut (psX u r1 rr rc r8 i t a ((reads o).any fun r => p' r.toNat) H6) ?_ ?_
          · refine CW.walk hX mixed d11 rfl ?_
            simp
            refine CW.block ?_
            refine CW.loop (psY u r1 rr rc r8 i t a p' v (reads o) H6 0) ?_ (m := (reads o).length) ⟨0, 0, by omega, rfl, ⟨by simp [e1], by simp [e3], by simp [e4], by simp [e5], by simp [e6], by simp [e7], by simp, by simp, rfl, rfl⟩, by simp, by simp, rfl⟩
            clear e1 e3 e4 e5 e6 e7
            rintro j ⟨en, ds⟩ H7 ⟨m, m', hm, rfl, ⟨e1, e3, e4, e5, e6, e7, e8, e9, rfl, rfl⟩, e10, e11, hmm⟩
            obtain rfl : m = m' := by omega
            dsimp only at e1 e3 e4 e5 e6 e7 e8 e9 e10 e11
            have fin : ∀ (en : Env) (b : Bool), b = ((reads o).any fun r => p' r.toNat) → en 1 = .ptr r1 0 → en 3 = .ref rr 0 u.regs.toNat u.regs.toNat → en 4 = .ref rc 0 u.spill.toNat u.spill.toNat → en 5 = .bool a → en 6 = .int .i64 i → en 7 = .int .i64 t → en 8 = .ptr r8 0 → en 9 = .bool b → psX u r1 rr rc r8 i t a ((reads o).any fun r => p' r.toNat) H7 ⟨en, []⟩ H7 := fun en b hb g1 g3 g4 g5 g6 g7 g8 g9 => ⟨g1, g3, g4, g5, g6, g7, g8, by rw [← hb]; exact g9, rfl, rfl⟩
            by_cases hml : m < (reads o).length
            rotate_left
            · have hmt : m = (reads o).length := by omega
              have hbb : ((reads o).take m).any (fun r => p' r.toNat) = (reads o).any fun r => p' r.toNat := by rw [hmt, List.take_length]
              refine CW.walk hX mixed d11 rfl ?_
              rcases hv with ⟨rfl, hnil⟩ | ⟨rl, cl, csl, rfl, nl, ml, hcl⟩
              · have h0 : m = 0 := by rw [hmt, hnil]; rfl
                subst h0
                simp [e10, e11]
                exact fin _ _ hbb (by simp [e1]) (by simp [e3]) (by simp [e4]) (by simp [e5]) (by simp [e6]) (by simp [e7]) (by simp [e8]) (by simp [e9])
              · simp [e10, e11, hml]
                exact fin _ _ hbb (by simp [e1]) (by simp [e3]) (by simp [e4]) (by simp [e5]) (by simp [e6]) (by simp [e7]) (by simp [e8]) (by simp [e9])
            rcases hv with ⟨rfl, hnil⟩ | ⟨rl, cl, csl, rfl, nl, ml, hcl⟩
            · rw [hnil] at hml; simp at hml
            obtain ⟨y, hy⟩ : ∃ y, (reads o)[m] = y := ⟨_, rfl⟩
            have hy' : (reads o)[m]? = some y := by rw [List.getElem?_eq_getElem hml, hy]
            have hcy := hcl m y hy'
            obtain ⟨y0, y1⟩ := w3 y (reads_all (List.mem_of_getElem? hy'))
            have y2 : y.toNat < u.regs.toNat := by omega
            refine CW.walk hX mixed d11 rfl ?_
            simp [e10, e11, hml]
            have htk : ((reads o).take (m + 1)).any (fun r => p' r.toNat) = (((reads o).take m).any (fun r => p' r.toNat) || p' y.toNat) := by rw [List.take_add_one, hy', List.any_append]; simp
            refine CW.cut (psY u r1 rr rc r8 i t a p' (.ref rl 0 (reads o).length ((reads o).length + cl)) (reads o) H7 1 ((reads o).length - (m + 1))) ?_ ?_
            · refine CW.block ?_
              refine CW.walk1 hX mixed d11 rfl ?_
              by_cases hb : ((reads o).take m).any (fun r => p' r.toNat) = true
              · rw [hb] at e9
                simp [e9]
                exact ⟨m + 1, m, hml, rfl, ⟨by simp [e1], by simp [e3], by simp [e4], by simp [e5], by simp [e6], by simp [e7], by simp [e8], by simp [htk, hb], rfl, rfl⟩, by simp [e10], by simp [e11], rfl⟩
              · have hb' : ((reads o).take m).any (fun r => p' r.toNat) = false := by simpa using hb
                rw [hb'] at e9
                simp [e3, e9, e10, e11, hml, ml, hcy, y0, y2, mr6, boolC_get]
                exact ⟨by omega, by omega, m + 1, m, hml, rfl, ⟨by simp [e1], by simp [e3], by simp [e4], by simp [e5], by simp [e6], by simp [e7], by simp [e8], by simp [htk, hb'], rfl, rfl⟩, by simp [e10], by simp [e11], rfl⟩
            · rintro ⟨en, ds⟩ H8 ⟨m', m2, hm', hj', ⟨g1, g3, g4, g5, g6, g7, g8, g9, rfl, rfl⟩, g10, g11, hm2⟩
              dsimp only at g1 g3 g4 g5 g6 g7 g8 g9 g10 g11
              refine CW.walk1 hX mixed d11 rfl ?_
              simp [g11]
              exact ⟨(reads o).length - (m + 1), by omega, m', m', hm', hj', ⟨by simp [g1], by simp [g3], by simp [g4], by simp [g5], by simp [g6], by simp [g7], by simp [g8], by simp [g9], rfl, rfl⟩, by simp [g10], by simp; rw [wrapI (by omega) (by omega)]; omega, rfl⟩
          clear e1 e3 e4 e5 e6 e7
          rintro ⟨en, ds⟩ H7 ⟨e1, e3, e4, e5, e6, e7, e8, e9, rfl, rfl⟩
          dsimp only at e1 e3 e4 e5 e6 e7 e8 e9
          have hle7 := hle.trans l46
          generalize hB1 : ((reads o).any fun r => p' r.toNat) = B1 at e9
          have hVs' : PV u p c ((u.blocks.take i).flatMap (·.ops) ++ k.ops.take (t + 1)) (spreadR o p' c') (spreadC o p' c') (a || spreadN o p' c') := by
            rw [List.take_add_one, ho, ← List.append_assoc]; exact hVs
          have fin : ∀ (en : Env) (H' : Hp) (a2 : Bool), en 1 = .ptr r1 0 → en 3 = .ref rr 0 u.regs.toNat u.regs.toNat → en 4 = .ref rc 0 u.spill.toNat u.spill.toNat → en 5 = .bool a2 → en 6 = .int .i64 i → en 7 = .int .i64 t → a2 = (a || spreadN o p' c') → Le H H' → H' rr = some (.cells (boolC u.regs.toNat (spreadR o p' c'))) → H' rc = some (.cells (boolC u.spill.toNat (spreadC o p' c'))) → H' r1 = some (.cells (unitC u)) → psK H u k r1 rr rc i p c 1 (k.ops.length - (t + 1)) ⟨en, []⟩ H' := fun en H' a2 g1 g3 g4 g5 g6 g7 ha h1 h2 h3 h4 =>
            ⟨t + 1, t, _, _, a2, htl, rfl, ⟨g1, g3, g4, g5, rfl, h1, n2, n3, Ne.symm q3, h2, h3, h4, q2, q6⟩, g6, g7, rfl, by rw [ha]; exact hVs'⟩
          by_cases h19 : o.kind = 19
          · have hn7 := w7 (.inr h19)
            have hn2 : o.n.toNat < u.spill.toNat := by omega
            have hbp : badP o p' c' = B1 := by simp [badP, h19, ← hB1]
            have hsR : spreadR o p' c' = p' := by funext r; simp [spreadR, h19]
            have hsC : ∀ b : Bool, b = (c' o.n.toNat || B1) → (boolC u.spill.toNat c').take o.n.toNat ++ CV.bool b :: (boolC u.spill.toNat c').drop (o.n.toNat + 1) = boolC u.spill.toNat (spreadC o p' c') := fun b hb => by
              rw [boolC_put _ _ hn2]
              refine boolC_congr fun x _ => ?_
              simp only [spreadC, hbp, h19]
              by_cases hx : x = o.n.toNat
              · subst hx; simp [hb]
              · have hx2 : (x == o.n.toNat) = false := by simpa using hx
                simp [hx, hx2]
            have hsN : spreadN o p' c' = (B1 && !c' o.n.toNat) := by simp [spreadN, hbp, h19]
            have fin2 : ∀ (en : Env) (H' : Hp) (a2 b : Bool), en 1 = .ptr r1 0 → en 3 = .ref rr 0 u.regs.toNat u.regs.toNat → en 4 = .ref rc 0 u.spill.toNat u.spill.toNat → en 5 = .bool a2 → en 6 = .int .i64 i → en 7 = .int .i64 t → a2 = (a || (B1 && !c' o.n.toNat)) → b = (c' o.n.toNat || B1) → H' = H7.set rc (.cells ((boolC u.spill.toNat c').take o.n.toNat ++ CV.bool b :: (boolC u.spill.toNat c').drop (o.n.toNat + 1))) → psK H u k r1 rr rc i p c 1 (k.ops.length - (t + 1)) ⟨en, []⟩ H' := fun en H' a2 b g1 g3 g4 g5 g6 g7 ha hb hH => by
              rw [hsC b hb] at hH
              refine fin en H' a2 g1 g3 g4 g5 g6 g7 (by rw [hsN]; exact ha) (by rw [hH]; exact hle7.put n3) ?_ (by rw [hH]; exact set_at) ?_
              · rw [hH, hset_ne (Ne.symm q3), hsR]; exact mr6
              · rw [hH, hset_ne q6]; exact m16
            refine CW.walk hX mixed d11 rfl ?_
            have z1 : o.n < max u.spill 0 := by omega
            have z2 : max o.n 0 < u.spill := by omega
            have z3 : o.n.toNat + 1 ≤ u.spill.toNat := by omega
            cases a <;> cases B1 <;> cases hcn : c' o.n.toNat <;> simp [d11, e4, e5, e8, e9, m8, h19, hn7.1, hn2, mc6, boolC_get, hcn, z1, z2, z3]
            all_goals
              exact fin2 _ _ _ _ (by simp [e1]) (by simp [e3]) (by simp [e4]) (by simp [e5]; rfl) (by simp [e6]) (by simp [e7]) (by simp [hcn]) (by simp [hcn]) rfl
          refine CW.cut (psX u r1 rr rc r8 i t a (badP o p' c') H7) ?_ ?_
          · have fin3 : ∀ (en : Env) (b : Bool), b = badP o p' c' → en 1 = .ptr r1 0 → en 3 = .ref rr 0 u.regs.toNat u.regs.toNat → en 4 = .ref rc 0 u.spill.toNat u.spill.toNat → en 5 = .bool a → en 6 = .int .i64 i → en 7 = .int .i64 t → en 8 = .ptr r8 0 → en 9 = .bool b → psX u r1 rr rc r8 i t a (badP o p' c') H7 ⟨en, []⟩ H7 := fun en b hb g1 g3 g4 g5 g6 g7 g8 g9 => ⟨g1, g3, g4, g5, g6, g7, g8, by rw [← hb]; exact g9, rfl, rfl⟩
            refine CW.walk1 hX mixed d11 rfl ?_
            by_cases h23 : 23 ≤ o.kind
            · simp [e8, m8, h23]
              exact fin3 _ _ (by simp only [badP]; rw [if_pos (by omega)]) (by simp [e1]) (by simp [e3]) (by simp [e4]) (by simp [e5]) (by simp [e6]) (by simp [e7]) (by simp [e8]) (by simp)
            by_cases h2 : 2 ≤ o.kind ∧ o.kind ≤ 13
            · simp [e8, m8, h23, h2.1, h2.2]
              exact fin3 _ B1 (by simp only [badP]; rw [if_neg (by omega), if_neg (by omega), if_pos (by omega), hB1]) (by simp [e1]) (by simp [e3]) (by simp [e4]) (by simp [e5]) (by simp [e6]) (by simp [e7]) (by simp [e8]) (by simp [e9])
            by_cases h18 : o.kind = 18
            · have hn7 := w7 (.inl h18)
              have hn2 : o.n.toNat < u.spill.toNat := by omega
              simp [e4, e8, m8, h18, hn7.1, hn2, mc6, boolC_get]
              refine ⟨by omega, by omega, ?_⟩
              exact fin3 _ _ (by simp only [badP]; rw [if_neg (by omega), if_pos h18]) (by simp [e1]) (by simp [e3]) (by simp [e4]) (by simp [e5]) (by simp [e6]) (by simp [e7]) (by simp [e8]) (by simp)
            · have hbz : badP o p' c' = false := by simp only [badP]; rw [if_neg (by omega), if_neg h18, if_neg (by omega)]
              by_cases h2' : 2 ≤ o.kind
              · have h13 : ¬ o.kind ≤ 13 := fun q => h2 ⟨h2', q⟩
                simp [e8, m8, h23, h2', h13, h18, h19]
                exact fin3 _ _ hbz.symm (by simp [e1]) (by simp [e3]) (by simp [e4]) (by simp [e5]) (by simp [e6]) (by simp [e7]) (by simp [e8]) (by simp)
              · simp [e8, m8, h23, h2', h18, h19]
                exact fin3 _ _ hbz.symm (by simp [e1]) (by simp [e3]) (by simp [e4]) (by simp [e5]) (by simp [e6]) (by simp [e7]) (by simp [e8]) (by simp)
          clear e1 e3 e4 e5 e6 e7 e8 e9
          rintro ⟨en, ds⟩ H8 ⟨e1, e3, e4, e5, e6, e7, e8, e9, rfl, rfl⟩
          dsimp only at e1 e3 e4 e5 e6 e7 e8 e9
          have hsN : spreadN o p' c' = (badP o p' c' && !p' o.dst.toNat) := by simp [spreadN, h19]
          have hsC : spreadC o p' c' = c' := by funext r; simp [spreadC, h19]
          by_cases hbp : badP o p' c' = true
          · have hd := w4 (uBit_dst (by
              simp only [badP] at hbp
              split at hbp
              · omega
              split at hbp
              · omega
              split at hbp
              · omega
              · cases hbp))
            have hdn : o.dst.toNat < u.regs.toNat := by omega
            rw [hbp] at e9
            refine CW.walk1 hX mixed d11 rfl ?_
            by_cases hpd : p' o.dst.toNat = true
            · have hs0 : spreadN o p' c' = false := by rw [hsN, hpd]; simp
              simp [e3, e8, e9, m8, hd.1, hdn, mr6, boolC_get, hpd]
              refine ⟨by omega, by omega, ?_⟩
              exact fin _ _ a (by simp [e1]) (by simp [e3]) (by simp [e4]) (by simp [e5]) (by simp [e6]) (by simp [e7]) (by rw [hs0, Bool.or_false]) hle7 (by rw [spreadR_same hs0]; exact mr6) (by rw [hsC]; exact mc6) m16
            · have hs1 : spreadN o p' c' = true := by rw [hsN, hbp]; simp [hpd]
              have hput : (boolC u.regs.toNat p').take o.dst.toNat ++ CV.bool true :: (boolC u.regs.toNat p').drop (o.dst.toNat + 1) = boolC u.regs.toNat (spreadR o p' c') := by
                rw [boolC_put _ _ hdn]
                refine boolC_congr fun x _ => ?_
                simp only [spreadR, hbp]
                by_cases hx : x = o.dst.toNat
                · subst hx; simp [h19]
                · have hx2 : (x == o.dst.toNat) = false := by simpa using hx
                  simp [hx, hx2]
              simp [e3, e8, e9, m8, hd.1, hdn, mr6, boolC_get, hpd]
              refine ⟨by omega, by omega, by omega, by omega, ?_⟩
              rw [hput]
              exact fin _ _ true (by simp [e1]) (by simp [e3]) (by simp [e4]) (by simp) (by simp [e6]) (by simp [e7]) (by rw [hs1, Bool.or_true]) (hle7.put n2) set_at (by rw [hset_ne q3, hsC]; exact mc6) (by rw [hset_ne q2]; exact m16)
          · have hbp' : badP o p' c' = false := by simpa using hbp
            have hs0 : spreadN o p' c' = false := by rw [hsN, hbp']; rfl
            rw [hbp'] at e9
            refine CW.walk1 hX mixed d11 rfl ?_
            simp [e9]
            exact fin _ _ a (by simp [e1]) (by simp [e3]) (by simp [e4]) (by simp [e5]) (by simp [e6]) (by simp [e7]) (by rw [hs0, Bool.or_false]) hle7 (by rw [spreadR_same hs0]; exact mr6) (by rw [hsC]; exact mc6) m16
        · rintro ⟨en, ds⟩ H5 ⟨t', t7, p', c', a, ht', hj', ⟨g1, g3, g4, g5, rfl, hle', _, _, _, mr', mc', m1', _, _⟩, g6, g7, ht7, hV'⟩
          dsimp only at g1 g3 g4 g5 g6 g7
          refine CW.walk1 hX mixed d11 rfl ?_
          simp [g7]
          exact ⟨k.ops.length - (t + 1), by omega, t', t', p', c', a, ht', hj', ⟨by simp [g1], by simp [g3], by simp [g4], by simp [g5], rfl, hle', n2, n3, Ne.symm q3, mr', mc', m1', q2, q6⟩, by simp [g6], by simp; rw [wrapI (by omega) (by omega)]; omega, rfl, hV'⟩
      · rintro ⟨en, ds⟩ H4 ⟨i', i6, p', c', a, hi', hj', ⟨g1, g3, g4, g5, rfl, hle', _, _, _, mr', mc', m1', _, _⟩, g6, hi6, hV'⟩
        dsimp only at g1 g3 g4 g5 g6
        refine CW.walk1 hX mixed d11 rfl ?_
        simp [g6]
        exact ⟨u.blocks.length - (i + 1), by omega, i', i', p', c', a, hi', hj', ⟨by simp [g1], by simp [g3], by simp [g4], by simp [g5], rfl, hle', n2, n3, Ne.symm q3, mr', mc', m1', q2, q6⟩, by simp; rw [wrapI (by omega) (by omega)]; omega, rfl, hV'⟩
    · rintro x s' H' ⟨rfl, ⟨p', c', a, hS, hV⟩⟩
      refine ⟨2 * gapP u.regs.toNat u.spill.toNat p' c' + (if a = true then 1 else 0), ?_, p', c', a, rfl, hS, hV.low, fun ha => ?_⟩
      · cases a with
        | true => have := hV.gt rfl; simp; omega
        | false => obtain ⟨rfl, rfl, _⟩ := hV.same rfl; simp
      · obtain ⟨rfl, rfl, h⟩ := hV.same ha
        exact h
  rintro ⟨en, ds⟩ H2 ⟨p, c, ⟨e1, e3, e4, e5, rfl, hle2, _, _, _, mr2, mc2, _, _, _⟩, hlow, hcl⟩
  dsimp only at e3
  refine CW.walk1 hX mixed d11 rfl ?_
  simp [e3]
  exact ⟨n2, p, mr2, hle2, c, hcl, hlow⟩
end Go.Cl
set_option linter.unusedSimpArgs false
set_option linter.unusedVariables false
namespace Go.Cl
open Go.Proofs Dd
variable {W : World} {G : Nat → CV}
set_option maxRecDepth 8000
set_option maxHeartbeats 4000000
def BndN (u : UUnit) (I : Nat → Nat → Bool) : Prop := ∀ b x, I b x = true → x < u.regs.toNat
theorem FP_bndN {u : UUnit} (hu : wfU u = true) {p : Nat → Bool} {I : Nat → Nat → Bool} (hI : BndN u I) {b : Nat} (hb : b < u.blocks.length) {x : Nat} (h : FP u p I b x = true) : x < u.regs.toNat := by
  obtain ⟨f1, f2, f3, f4, f5, f6, f7, f8, f9, f10, f11⟩ := wfU_facts hu
  have hk : u.blocks[b]? = some (blkAt u b) := by simp [blkAt, List.getD_eq_getElem?_getD, List.getElem?_eq_getElem hb]
  obtain ⟨g1, g2, g3, g4⟩ := wfB_facts hu hk
  obtain ⟨w1, w2, w3, w4, w5⟩ := wfE_facts g4
  simp only [FP] at h
  generalize blkAt u b = k at *
  have hc : ∀ y, catchP u I k y = true → y < u.regs.toNat := fun y hy => by
    simp only [catchP, Bool.and_eq_true] at hy
    exact hI _ _ hy.2.2
  have he : ∀ y, endP u p I k y = true → y < u.regs.toNat := fun y hy => by
    simp only [endP, Bool.or_eq_true, Bool.and_eq_true, decide_eq_true_eq, beq_iff_eq] at hy
    rcases hy with ((hy | hy) | hy) | hy
    · exact hI _ _ hy.2
    · exact hI _ _ hy.2
    · exact hc _ hy.2
    · have := w3 hy.1; omega
  have hs : ∀ l, (∀ o ∈ l, wfOp u o = true) → ∀ y, beforeP u p I k l y = true → y < u.regs.toNat := by
    intro l
    induction l with
    | nil => exact fun _ => he
    | cons o l ih =>
      intro hl y hy
      obtain ⟨o1, o2, o3, o4, o5, o6, o7, o8, o9⟩ := wfO_facts (hl o (List.mem_cons_self ..)) f3
      have hy : stepP u p I k o (beforeP u p I k l) y = true := hy
      simp only [stepP, Bool.or_eq_true, Bool.and_eq_true, List.any_eq_true, beq_iff_eq] at hy
      rcases hy with ((hy | hy) | hy) | ⟨z, hz, rfl⟩
      · exact ih (fun o ho => hl o (List.mem_cons_of_mem _ ho)) y hy.1
      · exact hI _ _ hy.2
      · exact hc _ hy.2
      · have := o3 z hz; omega
  exact hs _ g3 x h
/-- What one look at all blocks, from the last on, has made so far. -/
structure LV (u : UUnit) (p : Nat → Bool) (I : Nat → Nat → Bool) (i : Nat) (I' : Nat → Nat → Bool) (a : Bool) : Prop where
  low : LLow u p I'
  up : LUp u p I'
  bnd : BndN u I'
  gt : a = true → gapL u I' < gapL u I
  same : a = false → I' = I ∧ ∀ b, i ≤ b → b < u.blocks.length → FP u p I b = I b
theorem LV.step {u : UUnit} (hu : wfU u = true) {p : Nat → Bool} {I I' : Nat → Nat → Bool} {i : Nat} {a : Bool} (h : LV u p I (i + 1) I' a) (hi : i < u.blocks.length) {diff : Bool} (hd : diff = true ↔ ∃ x, x < u.regs.toNat ∧ FP u p I' i x ≠ I' i x) : LV u p I i (setAt I' i (FP u p I' i)) (a || diff) := by
  have hm : mOf u = (u.regs.toNat + 63) / 64 := rfl
  have hge : gapL u I' ≤ gapL u I := by
    cases a with
    | true => exact Nat.le_of_lt (h.gt rfl)
    | false => obtain ⟨rfl, _⟩ := h.same rfl; exact Nat.le_refl _
  have hsub := setAt_up h.up i
  have hle := gapL_le (u := u) hsub
  refine ⟨h.low.step hi, h.up.step i, fun b x hx => ?_, fun ha => ?_, fun ha => ?_⟩
  · simp only [setAt] at hx
    split at hx
    · rename_i e; subst e; exact FP_bndN hu h.bnd hi hx
    · exact h.bnd b x hx
  · simp only [Bool.or_eq_true] at ha
    rcases ha with ha | ha
    · have := h.gt ha; omega
    · obtain ⟨x, hx, hne⟩ := hd.1 ha
      have h1 : I' i x = false := by
        cases hc : I' i x
        · rfl
        · rw [h.up i x hc, hc] at hne; exact absurd rfl hne
      have h2 : FP u p I' i x = true := by
        cases hc : FP u p I' i x
        · rw [hc, h1] at hne; exact absurd rfl hne
        · rfl
      have := gapL_lt (u := u) hsub hi (x := x) (by omega) h1 (by simp [setAt, h2])
      omega
  · simp only [Bool.or_eq_false_iff] at ha
    obtain ⟨h1, h2⟩ := h.same ha.1
    have hfix : FP u p I' i = I' i := by
      funext x
      rcases Nat.lt_or_ge x u.regs.toNat with hx | hx
      · refine Classical.byContradiction fun hne => ?_
        have := hd.2 ⟨x, hx, hne⟩
        rw [ha.2] at this
        cases this
      · have e1 : FP u p I' i x = false := by
          cases hc : FP u p I' i x
          · rfl
          · have := FP_bndN hu h.bnd hi hc; omega
        have e2 : I' i x = false := by
          cases hc : I' i x
          · rfl
          · have := h.bnd i x hc; omega
        rw [e1, e2]
    have hset : setAt I' i (FP u p I' i) = I' := by
      funext b
      simp only [setAt]
      split
      · rename_i e; subst e; exact hfix
      · rfl
    rw [hset]
    refine ⟨h1, fun b hb hbl => ?_⟩
    by_cases hbi : b = i
    · subst hbi; rw [← h1]; exact hfix
    · exact h2 b (by omega) hbl
/-- A Live of the reference, as it lies. -/
structure LR (H : Hp) (lp rp ri ci : Nat) (σ : Nat → Nat) (ex : List CV) (u : UUnit) (p : Nat → Bool) (I : Nat → Nat → Bool) : Prop where
  l : H lp = some (.cells (unitC u ++ [.ref rp 0 u.regs.toNat u.regs.toNat, .ref ri 0 u.blocks.length ci]))
  r : H rp = some (.cells (boolC u.regs.toNat p))
  i : H ri = some (.cells (refsC u.blocks.length u.regs.toNat σ ++ ex))
  n : u.blocks.length ≤ ci
  s : ∀ b, b < u.blocks.length → H (σ b) = some (.cells (boolC u.regs.toNat (I b)))
section
variable {H H' : Hp} {lp rp ri ci : Nat} {σ : Nat → Nat} {ex : List CV} {u : UUnit} {p : Nat → Bool} {I : Nat → Nat → Bool}
theorem LR.mono (h : LR H lp rp ri ci σ ex u p I) (hl : Le H H') : LR H' lp rp ri ci σ ex u p I :=
  ⟨hl _ _ h.l, hl _ _ h.r, hl _ _ h.i, h.n, fun b hb => hl _ _ (h.s b hb)⟩
theorem LR.fzIn (h : LR H lp rp ri ci σ ex u p I) : Fz H (.ref ri 0 u.blocks.length ci) (.sl 1 (insS u.blocks.length u.regs.toNat I)) := by
  refine .ref ri 0 _ ci 1 _ _ h.i insS_len h.n (fun i e he => ?_) (fun i _ => .ref (σ i) 0 u.regs.toNat u.regs.toNat) (fun i j hi hj => ?_) (fun i j e x he hx => ?_)
  · simp only [insS, List.getElem?_map] at he
    cases hr : (List.range u.blocks.length)[i]? with
    | none => rw [hr] at he; simp at he
    | some b => rw [hr] at he; simp at he; rw [← he]; rfl
  · have : j = 0 := by omega
    subst this
    rw [show 0 + (i * 1 + 0) = i by omega, List.getElem?_append_left (by rw [refsC_len]; exact hi), refsC_get hi]
  · have hi : i < u.blocks.length := by have := (List.getElem?_eq_some_iff.1 he).1; simpa [insS] using this
    rw [insS_get hi] at he
    injection he with he
    rw [← he] at hx
    cases j with
    | zero => simp at hx; subst hx; exact fz_bool (h.s i hi) (Nat.le_refl _)
    | succ j => simp at hx
theorem LR.fz (h : LR H lp rp ri ci σ ex u p I) : Fz H (.ptr lp 0) (.iptr (refC u p I)) := by
  refine .ptr lp 0 _ _ h.l (fun j => (unitC u ++ [CV.ref rp 0 u.regs.toNat u.regs.toNat, CV.ref ri 0 u.blocks.length ci]).getD j .any) (fun j hj => ?_) (fun j x hx => ?_)
  · have hj : j < 8 := by simpa [refC, unitC] using hj
    rw [Nat.zero_add, List.getD_eq_getElem?_getD, List.getElem?_eq_getElem (by simp [unitC]; omega)]
    rfl
  · simp only [refC, unitC] at hx ⊢
    rcases j with _|_|_|_|_|_|_|_|j
    all_goals simp at hx ⊢
    all_goals subst hx
    all_goals first
      | exact .same _
      | exact fz_bool h.r (Nat.le_refl _)
      | exact h.fzIn
end
/-- Before, on a Live as it lies. -/
theorem before_h (hX : CxOk (cx W G)) (u : UUnit) (hu : wfU u = true) {H : Hp} {lp rp ri ci : Nat} {σ : Nat → Nat} {ex : List CV} {p : Nat → Bool} {I : Nat → Nat → Bool} (hL : LR H lp rp ri ci σ ex u p I) (b : Nat) (k : UBlk) (hb : u.blocks[b]? = some k) (i : Nat) (hi : i ≤ k.ops.length) :
    CC Tryz.prog W 41 [.ptr lp 0, .int .i64 b, .int .i64 i] H fun x H' => ∃ r, H r = none ∧ x = .ret (.ref r 0 u.regs.toNat u.regs.toNat) ∧ H' = H.set r (.cells (boolC u.regs.toNat (beforeP u p I k (k.ops.drop i)))) := by
  refine (CC.freeze2 (args' := [.iptr (refC u p I), .int .i64 b, .int .i64 i]) (R := fun x H' => ∃ r, x = .ret (.ref r 0 u.regs.toNat u.regs.toNat) ∧ H' = Hp.set (fun _ => none) r (.cells (boolC u.regs.toNat (beforeP u p I k (k.ops.drop i))))) (by rfl) ?_ ?_ ?_).mono ?_
  · intro j x y hx hy
    rcases j with _|_|_|j
    · simp at hx hy; subst hx; subst hy; exact hL.fz
    · simp at hx hy; subst hx; subst hy; exact .same _
    · simp at hx hy; subst hx; subst hy; exact .same _
    · simp at hx
  · rintro x H' ⟨r, rfl, rfl⟩
    refine ⟨.ref _ _ _ _, fun q o hq => ?_⟩
    simp only [Hp.set] at hq
    split at hq
    · injection hq with hq
      subst hq
      intro j y hy
      rw [boolC_gets] at hy
      rw [← hy.2]
      exact .bool _
    · cases hq
  · intro w hw
    exact (before41_c (W := w) (CxOk.later hX hw) u hu p I b k hb _ i rfl hi _).mono fun x H' ⟨r, _, h1, h2⟩ => ⟨r, h1, h2⟩
  · rintro x H2 ⟨H', ⟨r, rfl, rfl⟩, hnew, rfl⟩
    have hr := hnew r _ (by simp [Hp.set]; rfl)
    exact ⟨r, hr, rfl, hun_one hr⟩
theorem Own.putB {B H : Hp} {v : CV} {sz : Nat} {xs : List (List CV)} (h : Own B H v sz xs) {q : Nat} {o : Ob} (hq : B q ≠ none) : Own (B.set q o) (H.set q o) v sz xs := by
  obtain ⟨h1, h2, h3⟩ := h
  refine ⟨h1.set, h2, ?_⟩
  rcases h3 with h3 | ⟨r, c, ex, rfl, h4, h5, h6⟩
  · exact .inl h3
  · have hne : r ≠ q := fun e => hq (by rw [← e]; exact h4)
    exact .inr ⟨r, c, ex, rfl, by rw [hset_ne hne]; exact h4, by rw [hset_ne hne]; exact h5, h6⟩
/-- What Of holds while it makes the empty sets. -/
structure O1 (H B : Hp) (u : UUnit) (p : Nat → Bool) (q1 lp rp : Nat) (i : Nat) (v : CV) (σ : Nat → Nat) : Prop where
  base : Le H B
  h1 : B q1 = some (.cells (unitC u))
  l : B lp = some (.cells (unitC u ++ [.ref rp 0 u.regs.toNat u.regs.toNat, v]))
  r : B rp = some (.cells (boolC u.regs.toNat p))
  s : ∀ b, b < i → B (σ b) = some (.cells (boolC u.regs.toNat fun _ => false))
  n1 : lp ≠ q1
  nr : lp ≠ rp
  ns : ∀ b, b < i → lp ≠ σ b
  hl : H lp = none
structure O1I (H : Hp) (u : UUnit) (p : Nat → Bool) (q1 lp rp : Nat) (d : Nat) (j : Nat) (s' : CA) (H' : Hp) : Prop where
  ex : ∃ i i17 v σ B, i ≤ u.blocks.length ∧ j = u.blocks.length - i ∧ s'.env 1 = .ptr q1 0 ∧ s'.env 3 = .ptr lp 0 ∧ s'.env 16 = .int .i64 u.blocks.length ∧ s'.env 17 = .int .i64 (i17 : Nat) ∧ i17 + d = i ∧ s'.ds = [] ∧ O1 H B u p q1 lp rp i v σ ∧ Own B H' v 1 ((refsC i u.regs.toNat σ).map fun x => [x])
structure O1E (H : Hp) (u : UUnit) (p : Nat → Bool) (q1 lp rp : Nat) (s' : CA) (H' : Hp) : Prop where
  ex : ∃ v σ B, s'.env 1 = .ptr q1 0 ∧ s'.env 3 = .ptr lp 0 ∧ s'.ds = [] ∧ O1 H B u p q1 lp rp u.blocks.length v σ ∧ Own B H' v 1 ((refsC u.blocks.length u.regs.toNat σ).map fun x => [x])
/-- What Of holds while it looks again and again. -/
structure O2 (H B : Hp) (u : UUnit) (p : Nat → Bool) (q1 lp rp ri ci : Nat) (σ : Nat → Nat) (ex : List CV) (I : Nat → Nat → Bool) : Prop where
  base : Le H B
  h1 : B q1 = some (.cells (unitC u))
  L : LR B lp rp ri ci σ ex u p I
  i1 : ri ≠ q1
  il : ri ≠ lp
  ir : ri ≠ rp
  is : ∀ b, b < u.blocks.length → ri ≠ σ b
  hi : H ri = none
section
variable {H B : Hp} {u : UUnit} {p : Nat → Bool} {q1 lp rp ri ci : Nat} {σ : Nat → Nat} {ex : List CV} {I : Nat → Nat → Bool}
theorem O2.more (h : O2 H B u p q1 lp rp ri ci σ ex I) {q : Nat} {o : Ob} (hq : B q = none) : O2 H (B.set q o) u p q1 lp rp ri ci σ ex I := by
  have hl : Le B (B.set q o) := Le.set_new hq
  exact ⟨h.base.trans hl, hl _ _ h.h1, h.L.mono hl, h.i1, h.il, h.ir, h.is, h.hi⟩
theorem O2.step (h : O2 H B u p q1 lp rp ri ci σ ex I) {r i : Nat} {f : Nat → Bool} (hr : B r = none) (hi : i < u.blocks.length) :
    O2 H ((B.set r (.cells (boolC u.regs.toNat f))).set ri (.cells (refsC u.blocks.length u.regs.toNat (fun b => if b = i then r else σ b) ++ ex))) u p q1 lp rp ri ci (fun b => if b = i then r else σ b) ex (setAt I i f) := by
  have k : ∀ q o, B q = some o → q ≠ r := fun q o hq e => by rw [e, hr] at hq; cases hq
  have k1 := k _ _ h.h1
  have kl := k _ _ h.L.l
  have kr := k _ _ h.L.r
  have ki := k _ _ h.L.i
  refine ⟨(h.base.trans (Le.set_new hr)).put h.hi, by simp [Ne.symm h.i1, k1, h.h1], ⟨by simp [Ne.symm h.il, kl, h.L.l], by simp [Ne.symm h.ir, kr, h.L.r], by simp, h.L.n, fun b hb => ?_⟩, h.i1, h.il, h.ir, fun b hb => ?_, h.hi⟩
  · by_cases hbi : b = i
    · subst hbi; simp [Ne.symm ki, setAt]
    · have := k _ _ (h.L.s b hb)
      simp [hbi, Ne.symm (h.is b hb), this, h.L.s b hb, setAt]
  · by_cases hbi : b = i
    · subst hbi; simpa using ki
    · simpa [hbi] using h.is b hb
end
structure O2I (H : Hp) (u : UUnit) (p : Nat → Bool) (q1 lp rp ri ci : Nat) (ex : List CV) (j : Nat) (s' : CA) (H' : Hp) : Prop where
  ex : ∃ I σ a, j = 2 * gapL u I + (if a = true then 1 else 0) ∧ s'.env 1 = .ptr q1 0 ∧ s'.env 3 = .ptr lp 0 ∧ s'.env 5 = .bool a ∧ s'.ds = [] ∧ O2 H H' u p q1 lp rp ri ci σ ex I ∧ LLow u p I ∧ LUp u p I ∧ BndN u I ∧ (a = false → ∀ b, b < u.blocks.length → FP u p I b = I b)
structure O2J (H : Hp) (u : UUnit) (p : Nat → Bool) (q1 lp rp ri ci : Nat) (ex : List CV) (I : Nat → Nat → Bool) (d : Nat) (j : Nat) (s' : CA) (H' : Hp) : Prop where
  ex : ∃ i I' σ a, i ≤ u.blocks.length ∧ j = i ∧ s'.env 1 = .ptr q1 0 ∧ s'.env 3 = .ptr lp 0 ∧ s'.env 5 = .bool a ∧ s'.env 6 = .int .i64 ((i : Int) - 1 + d) ∧ s'.ds = [] ∧ O2 H H' u p q1 lp rp ri ci σ ex I' ∧ LV u p I i I' a
structure O2M (H : Hp) (u : UUnit) (p : Nat → Bool) (q1 lp rp ri ci : Nat) (ex : List CV) (I : Nat → Nat → Bool) (s' : CA) (H' : Hp) : Prop where
  ex : ∃ I' σ a, s'.env 1 = .ptr q1 0 ∧ s'.env 3 = .ptr lp 0 ∧ s'.env 5 = .bool a ∧ s'.ds = [] ∧ O2 H H' u p q1 lp rp ri ci σ ex I' ∧ LV u p I 0 I' a
def difN (f g : Nat → Bool) (t : Nat) : Bool := (List.range t).any fun x => f x != g x
theorem difN_iff {f g : Nat → Bool} {t : Nat} : difN f g t = true ↔ ∃ x, x < t ∧ f x ≠ g x := by
  simp [difN]
theorem difN_succ {f g : Nat → Bool} {t : Nat} : difN f g (t + 1) = (difN f g t || (f t != g t)) := by
  simp [difN, List.range_succ]
structure O2X (q1 lp r7 n b : Nat) (x5 : Bool) (H6 : Hp) (s' : CA) (H' : Hp) : Prop where
  ex : s'.env 1 = .ptr q1 0 ∧ s'.env 3 = .ptr lp 0 ∧ s'.env 5 = .bool x5 ∧ s'.env 6 = .int .i64 b ∧ s'.env 7 = .ref r7 0 n n ∧ s'.ds = [] ∧ H' = H6
structure O2Y (q1 lp r7 n b : Nat) (a : Bool) (f g : Nat → Bool) (H6 : Hp) (d : Nat) (j : Nat) (s' : CA) (H' : Hp) : Prop where
  ex : ∃ t t' : Nat, t ≤ n ∧ j = n - t ∧ O2X q1 lp r7 n b (a || difN f g t) H6 s' H' ∧ s'.env 8 = .int .i64 t' ∧ t' + d = t
structure O2Z (H : Hp) (u : UUnit) (p : Nat → Bool) (lp rp ri ci : Nat) (ex : List CV) (s' : CA) (H' : Hp) : Prop where
  ex : ∃ I σ, s'.env 3 = .ptr lp 0 ∧ s'.ds = [] ∧ Le H H' ∧ LLeast u p I ∧ BndN u I ∧ LR H' lp rp ri ci σ ex u p I
/-- What Of gives. -/
structure OfR (H : Hp) (u : UUnit) (x : CE) (H' : Hp) : Prop where
  ex : ∃ lp rp ri ci σ ex p c I, x = .ret (.ptr lp 0) ∧ Le H H' ∧ PLeast (opsOf u) p c ∧ LLeast u p I ∧ BndN u I ∧ LR H' lp rp ri ci σ ex u p I
theorem of38_c (hX : CxOk (cx W G)) (u : UUnit) (hu : wfU u = true) (H : Hp) :
    CC Tryz.prog W 17 [.agg (unitC u)] H (OfR H u) := by
  obtain ⟨f1, f2, f3, f4, f5, f6, f7, f8, f9, f10, f11⟩ := wfU_facts hu
  refine CC.of_cw hX Tryz.func17 rfl rfl (Nat.le_of_ble_eq_true rfl) ?_
  refine CW.walk hX mixed d17 rfl ?_
  simp
  intro q1 hq1
  refine CW.walk hX mixed d17 rfl ?_
  simp [d17, unitC]
  refine (poisons61_c hX u hu _).k ?_
  rintro x H1 ⟨p, c, rp, rfl, hrp, hr, hle, hpl⟩
  simp [cfill]
  refine ⟨stabI_le rfl hle, fun lp hlp => ?_⟩
  have hH1 : Le H H1 := (Le.set_new hq1).trans hle
  have h11 : H1 q1 = some (.cells (unitC u)) := hle q1 _ (by simp [unitC])
  have hl1 : lp ≠ q1 := fun e => by rw [e, h11] at hlp; cases hlp
  have hlr : lp ≠ rp := fun e => by rw [e, hr] at hlp; cases hlp
  refine CW.cut (O1E H u p q1 lp rp) ?_ ?_
  · have hB : O1 H (H1.set lp (.cells (unitC u ++ [.ref rp 0 u.regs.toNat u.regs.toNat, .nilsl]))) u p q1 lp rp 0 .nilsl (fun _ => 0) :=
      ⟨hH1.trans (Le.set_new hlp), by simp [Ne.symm hl1, h11], by simp, by simp [Ne.symm hlr, hr], fun b hb => absurd hb (by omega), hl1, hlr, fun b hb => absurd hb (by omega), hH1.none hlp⟩
    refine CW.walk hX mixed d17 rfl ?_
    simp [Ne.symm hl1, h11, unitC]
    refine CW.block ?_
    refine CW.loop (O1I H u p q1 lp rp 0) ?_ (m := u.blocks.length) ⟨0, 0, .nilsl, fun _ => 0, _, by omega, by omega, by simp, by simp, by simp, by simp, rfl, rfl, hB, by simp [refsC, unitC]; exact Own.nil (Le.refl _)⟩
    clear hB
    rintro j ⟨e, ds⟩ H2 ⟨i, i17, v, σ, B, hi, rfl, e1, e3, e16, e17, hd, rfl, hN, hown⟩
    obtain rfl : i17 = i := by omega
    dsimp only at e1 e3 e16 e17
    have m1 := hown.le _ _ hN.h1
    have ml := hown.le _ _ hN.l
    simp only [unitC] at m1 ml
    by_cases hil : i17 < u.blocks.length
    rotate_left
    · refine CW.walk hX mixed d17 rfl ?_
      simp [e16, e17, hil]
      refine CW.walk hX mixed d17 rfl ?_
      simp
      have : i17 = u.blocks.length := by omega
      subst this
      exact ⟨v, σ, B, by simp [e1], by simp [e3], rfl, hN, hown⟩
    refine CW.walk hX mixed d17 rfl ?_
    simp [e16, e17, hil]
    refine CW.walk hX mixed d17 rfl ?_
    simp
    refine CW.cut (O1I H u p q1 lp rp 1 (u.blocks.length - (i17 + 1))) ?_ ?_
    · refine CW.block ?_
      refine CW.walk hX mixed d17 rfl ?_
      simp [e1, e3, ml]
      refine CW.walk1 hX mixed d17 rfl ?_
      simp [e1, e3, ml, m1, -vcAppend]
      refine ⟨by omega, by omega, by omega, ?_⟩
      intro r hr0
      rw [zeroB]
      simp [cfill, -vcAppend]
      intro q hqr hrq hq
      have hkB : ∀ z o, B z = some o → z ≠ r := fun z o hz e => by have := hown.le z o hz; rw [e, hr0] at this; cases this
      have hkq : ∀ z o, B z = some o → z ≠ q := fun z o hz e => by have := hown.le z o hz; rw [e, hq] at this; cases this
      have hBr := hown.le.none hr0
      have hg0 : Own (B.set r (.cells (boolC u.regs.toNat fun _ => false))) (H2.set r (.cells (boolC u.regs.toNat fun _ => false))) v 1 ((refsC i17 u.regs.toNat σ).map fun x => [x]) := hown.grow hr0
      have hg := hg0.more (r := q) (o := .cells [.ref r 0 u.regs.toNat u.regs.toNat]) (by simp [hqr, hq])
      refine hg.append (ys := [[.ref r 0 u.regs.toNat u.regs.toNat]]) (by simp) (by simp [refsC_len]; omega) (src_one set_at rfl) fun v' H3 how3 _ => ?_
      have kl := how3.le lp _ (show _ = some _ by simp only [Hp.set, if_neg (hkB lp _ hN.l)]; exact hN.l)
      simp only [unitC] at kl
      obtain ⟨qv, cv, hv'⟩ := how3.isRef (by simp)
      have hlen : ((refsC i17 u.regs.toNat σ).map (fun x => [x]) ++ [[CV.ref r 0 u.regs.toNat u.regs.toNat]]).length = i17 + 1 := by simp [refsC_len]
      rw [hlen] at hv'
      subst hv'
      simp [e1, e3, e16, e17, kl]
      refine ⟨i17 + 1, i17, .ref qv 0 (i17 + 1) cv, fun b => if b = i17 then r else σ b, (B.set r (.cells (boolC u.regs.toNat fun _ => false))).set lp (.cells (unitC u ++ [.ref rp 0 u.regs.toNat u.regs.toNat, .ref qv 0 (i17 + 1) cv])), by omega, rfl, by simp [e1], by simp [e3], by simp [e16], by simp [e17], rfl, rfl, ?_, ?_⟩
      · have g1 := hkB q1 _ hN.h1
        have gr := hkB rp _ hN.r
        have gl := hkB lp _ hN.l
        refine ⟨?_, by simp [Ne.symm hN.n1, g1, hN.h1], by simp, by simp [Ne.symm hN.nr, gr, hN.r], fun b hb => ?_, hN.n1, hN.nr, fun b hb => ?_, hN.hl⟩
        · exact ((hN.base.trans (Le.set_new hBr)).put hN.hl)
        · by_cases hbi : b = i17
          · subst hbi; simp [Ne.symm gl]
          · have hbl : b < i17 := by omega
            have := hkB _ _ (hN.s b hbl)
            simp [hbi, Ne.symm (hN.ns b hbl), this, hN.s b hbl]
        · by_cases hbi : b = i17
          · subst hbi; simpa using gl
          · simpa [hbi] using hN.ns b (by omega)
      · rw [refsC_succ, List.map_append]
        have := how3.setBase (r := lp) (o := .cells (unitC u ++ [.ref rp 0 u.regs.toNat u.regs.toNat, .ref qv 0 (i17 + 1) cv])) (by simp [hkB lp _ hN.l, hN.l])
        simpa [unitC] using this
    · rintro ⟨en, ds⟩ H3 ⟨i', i17', v', σ', B', hi', hj', g1, g3, g16, g17, hd', rfl, hN', hown'⟩
      dsimp only at g1 g3 g16 g17
      refine CW.walk1 hX mixed d17 rfl ?_
      simp [g17]
      exact ⟨u.blocks.length - (i17 + 1), by omega, i', i', v', σ', B', hi', hj', by simp [g1], by simp [g3], by simp [g16], by simp; rw [wrapI (by omega) (by omega)]; omega, rfl, rfl, hN', hown'⟩
  rintro ⟨e, ds⟩ H2 ⟨v, σ, B, e1, e3, rfl, hN, hown⟩
  dsimp only at e1 e3
  obtain ⟨ri, ci, ex, rfl, hri, hri2, hci⟩ : ∃ ri ci ex, v = .ref ri 0 u.blocks.length ci ∧ B ri = none ∧ H2 ri = some (.cells (refsC u.blocks.length u.regs.toNat σ ++ ex)) ∧ u.blocks.length ≤ ci := by
    obtain ⟨_, _, ⟨_, hx⟩ | ⟨q, c, ex, rfl, h1, h2, _, h4⟩⟩ := hown
    · have := congrArg List.length hx
      simp [refsC_len] at this
      rw [this] at f7
      simp at f7
    · refine ⟨q, c, ex, by simp [refsC_len], h1, ?_, by simpa [refsC_len] using h4⟩
      rw [h2]
      congr 3
      simp [List.flatten_eq_flatMap, List.flatMap_map]
  have kB : ∀ z o, B z = some o → ri ≠ z := fun z o hz e => by rw [← e, hri] at hz; cases hz
  have hO2 : O2 H H2 u p q1 lp rp ri ci σ ex (fun _ _ => false) := by
    have gl := hown.le
    exact ⟨hN.base.trans gl, gl _ _ hN.h1, ⟨gl _ _ hN.l, gl _ _ hN.r, hri2, hci, fun b hb => gl _ _ (hN.s b hb)⟩, kB _ _ hN.h1, kB _ _ hN.l, kB _ _ hN.r, fun b hb => kB _ _ (hN.s b hb), hN.base.none hri⟩
  clear hN hown hri hri2 hci kB hl1 hlr h11 hH1 hlp hle hr hrp hq1
  refine CW.cut (O2Z H u p lp rp ri ci ex) ?_ ?_
  · refine CW.walk hX mixed d17 rfl ?_
    simp
    refine CW.block ?_
    refine CW.loop (O2I H u p q1 lp rp ri ci ex) ?_ (m := 2 * gapL u (fun _ _ => false) + 1) ⟨fun _ _ => false, σ, true, rfl, by simp [e1], by simp [e3], by simp, rfl, hO2, LLow.empty u p, fun b x hx => by simp at hx, fun b x hx => by simp at hx, by simp⟩
    clear hO2 e1 e3
    clear σ e H2
    rintro j ⟨e, ds⟩ H2 ⟨I, σ, a, rfl, e1, e3, e5, rfl, hN, hlow, hup, hbnd, heq⟩
    dsimp only at e1 e3 e5
    cases a with
    | false =>
      refine CW.walk hX mixed d17 rfl ?_
      simp [e5]
      exact ⟨I, σ, by simp [e3], rfl, hN.base, ⟨fun b hb x hx => by rw [← heq rfl b hb]; exact hx, hlow⟩, hbnd, hN.L⟩
    | true =>
    refine CW.walk hX mixed d17 rfl ?_
    simp [e5]
    refine CW.mono (Q := fun x s' H' => x = .normal ∧ O2M H u p q1 lp rp ri ci ex I s' H') ?_ ?_
    · refine CW.block ?_
      refine CW.walk hX mixed d17 rfl ?_
      simp
      have m1 := hN.h1
      simp only [unitC] at m1
      refine CW.walk hX mixed d17 rfl ?_
      simp [e1, e3, m1]
      refine CW.block ?_
      refine CW.loop (O2J H u p q1 lp rp ri ci ex I 0) ?_ (m := u.blocks.length) ⟨u.blocks.length, I, σ, false, by omega, rfl, by simp [e1], by simp [e3], by simp, by simp; rw [wrapI (by omega) (by omega)], rfl, hN, ⟨hlow, hup, hbnd, by simp, fun _ => ⟨rfl, fun b h1 h2 => absurd h2 (by omega)⟩⟩⟩
      clear hN hlow hup hbnd heq m1 e1 e3 e5
      clear σ e H2
      rintro i ⟨e, ds⟩ H2 ⟨_, I', σ, a, hi, rfl, e1, e3, e5, e6, rfl, hN, hV⟩
      dsimp only at e1 e3 e5 e6
      cases i with
      | zero =>
        rw [show (((0 : Nat) : Int) - 1 + (0 : Nat)) = -1 by omega] at e6
        refine CW.walk hX mixed d17 rfl ?_
        simp [e6]
        exact ⟨I', σ, a, by simp [e1], by simp [e3], by simp [e5], rfl, hN, hV⟩
      | succ b =>
      rw [show (((b + 1 : Nat) : Int) - 1 + (0 : Nat)) = (b : Int) by omega] at e6
      have hbl : b < u.blocks.length := hi
      refine CW.walk hX mixed d17 rfl ?_
      simp [e6]
      refine CW.cut (O2J H u p q1 lp rp ri ci ex I 1 b) ?_ ?_
      · refine CW.block ?_
        obtain ⟨kb, hkb⟩ : ∃ kb, u.blocks[b]? = some kb := ⟨_, List.getElem?_eq_getElem hbl⟩
        refine CW.walk hX mixed d17 rfl ?_
        simp [e3, e6]
        have hat := before_h hX u hu hN.L b kb hkb 0 (Nat.zero_le _)
        simp only [List.drop_zero] at hat
        have hfp : beforeP u p I' kb kb.ops = FP u p I' b := by rw [← FP_blk hkb]
        rw [hfp] at hat
        refine hat.k ?_
        rintro x H3 ⟨r, hr, rfl, rfl⟩
        simp
        have kr : ∀ z o, H2 z = some o → z ≠ r := fun z o hz e => by rw [e, hr] at hz; cases hz
        have hNr : O2 H (H2.set r (.cells (boolC u.regs.toNat (FP u p I' b)))) u p q1 lp rp ri ci σ ex I' := hN.more hr
        have mr : (H2.set r (.cells (boolC u.regs.toNat (FP u p I' b)))) r = some (.cells (boolC u.regs.toNat (FP u p I' b))) := set_at
        have m1 := hNr.h1
        have ml := hNr.L.l
        have mi := hNr.L.i
        have ms := hNr.L.s b hbl
        simp only [unitC] at m1 ml
        have hget : (refsC u.blocks.length u.regs.toNat σ ++ ex)[b]? = some (.ref (σ b) 0 u.regs.toNat u.regs.toNat) := by rw [List.getElem?_append_left (by rw [refsC_len]; exact hbl), refsC_get hbl]
        refine CW.cut (O2X q1 lp r u.regs.toNat b (a || difN (FP u p I' b) (I' b) u.regs.toNat) (H2.set r (.cells (boolC u.regs.toNat (FP u p I' b))))) ?_ ?_
        · refine CW.walk hX mixed d17 rfl ?_
          simp
          refine CW.block ?_
          refine CW.loop (O2Y q1 lp r u.regs.toNat b a (FP u p I' b) (I' b) (H2.set r (.cells (boolC u.regs.toNat (FP u p I' b)))) 0) ?_ (m := u.regs.toNat) ⟨0, 0, by omega, rfl, ⟨by simp [e1], by simp [e3], by simp [e5, difN], by simp [e6], by simp, rfl, rfl⟩, by simp, rfl⟩
          clear e1 e3 e5 e6
          generalize hH3 : H2.set r (.cells (boolC u.regs.toNat (FP u p I' b))) = H3 at *
          rintro j ⟨e, ds⟩ H4 ⟨t, t', ht, rfl, ⟨e1, e3, e5, e6, e7, rfl, rfl⟩, e8, htt⟩
          obtain rfl : t' = t := by omega
          dsimp only at e1 e3 e5 e6 e7 e8
          by_cases htl : t' < u.regs.toNat
          rotate_left
          · have : t' = u.regs.toNat := by omega
            subst this
            have hnl : ¬ (u.regs.toNat : Int) < u.regs := by omega
            refine CW.walk hX mixed d17 rfl ?_
            simp [e1, e8, m1, hnl]
            refine ⟨fun h => absurd h (by omega), fun _ => ?_⟩
            exact ⟨by simp [e1], by simp [e3], by simp [e5], by simp [e6], by simp [e7], rfl, rfl⟩
          have htl' : (t' : Int) < u.regs := by omega
          refine CW.walk hX mixed d17 rfl ?_
          simp [e1, e8, m1, htl']
          refine CW.cut (O2Y q1 lp r u.regs.toNat b a (FP u p I' b) (I' b) H4 1 (u.regs.toNat - (t' + 1))) ?_ ?_
          · refine CW.block ?_
            refine CW.walk1 hX mixed d17 rfl ?_
            cases hx5 : (a || difN (FP u p I' b) (I' b) t') with
            | true =>
              rw [hx5] at e5
              simp [d17, e5]
              exact ⟨t' + 1, t', htl, rfl, ⟨by simp [e1], by simp [e3], by simp [difN_succ, ← Bool.or_assoc, hx5], by simp [e6], by simp [e7], rfl, rfl⟩, by simp [e8], rfl⟩
            | false =>
              rw [hx5] at e5
              simp [d17, e3, e5, e6, e7, e8, ml, mi, mr, ms, hget, hbl, htl, boolC_get]
              refine ⟨by omega, t' + 1, t', htl, rfl, ⟨by simp [e1], by simp [e3], ?_, by simp [e6], by simp [e7], rfl, rfl⟩, by simp [e8], rfl⟩
              rw [difN_succ, ← Bool.or_assoc, hx5]
              simp [bne]
          · rintro ⟨e, ds⟩ H5 ⟨t2, t3, ht2, hj2, ⟨g1, g3, g5, g6, g7, rfl, rfl⟩, g8, htt2⟩
            dsimp only at g1 g3 g5 g6 g7 g8
            refine CW.walk1 hX mixed d17 rfl ?_
            simp [g8]
            exact ⟨u.regs.toNat - (t' + 1), by omega, t2, t2, ht2, hj2, ⟨by simp [g1], by simp [g3], by simp [g5], by simp [g6], by simp [g7], rfl, rfl⟩, by simp; rw [wrapI (by omega) (by omega)]; omega, rfl⟩
        · clear e1 e3 e5 e6
          rintro ⟨e, ds⟩ H4 ⟨e1, e3, e5, e6, e7, rfl, rfl⟩
          dsimp only at e1 e3 e5 e6 e7
          refine CW.walk1 hX mixed d17 rfl ?_
          simp [e3, e6, e7, ml, mi, hbl]
          refine ⟨by rw [refsC_len]; omega, ?_⟩
          rw [refsC_set hbl]
          exact ⟨b, _, _, _, by omega, rfl, by simp [e1], by simp [e3], by simp [e5], by simp [e6], rfl, hN.step hr hbl, hV.step hu hbl difN_iff⟩
      · rintro ⟨e, ds⟩ H3 ⟨_, I2, σ', a', hi', rfl, g1, g3, g5, g6, rfl, hN', hV'⟩
        dsimp only at g1 g3 g5 g6
        rw [show ((b : Int) - 1 + (1 : Nat)) = (b : Int) by omega] at g6
        refine CW.walk1 hX mixed d17 rfl ?_
        simp [g6]
        exact ⟨b, by omega, b, I2, σ', a', hi', rfl, by simp [g1], by simp [g3], by simp [g5], by simp; rw [wrapI (by omega) (by omega)], rfl, hN', hV'⟩
    · rintro x s' H' ⟨rfl, ⟨I', σ', a, g1, g3, g5, g6, hO, hV⟩⟩
      refine ⟨2 * gapL u I' + (if a = true then 1 else 0), ?_, I', σ', a, rfl, g1, g3, g5, g6, hO, hV.low, hV.up, hV.bnd, fun ha => ?_⟩
      · cases a with
        | true => have := hV.gt rfl; simp; omega
        | false => obtain ⟨rfl, _⟩ := hV.same rfl; simp
      · obtain ⟨rfl, h⟩ := hV.same ha
        exact fun b hb => h b (Nat.zero_le _) hb
  rintro ⟨e, ds⟩ H3 ⟨I, σ, e3, rfl, hle3, hll, hbnd, hL⟩
  dsimp only at e3
  refine CW.walk1 hX mixed d17 rfl ?_
  simp [e3]
  exact ⟨lp, rp, ri, ci, σ, ex, p, c, I, rfl, hle3, hpl, hll, hbnd, hL⟩
end Go.Cl
set_option linter.unusedSimpArgs false
set_option linter.unusedVariables false
namespace Go.Cl
open Go.Proofs Dd
variable {W : World} {G : Nat → CV}
set_option maxRecDepth 8000
set_option maxHeartbeats 4000000
/-- Frozen: the poison as it lies. -/
theorem mayEnd_h (hX : CxOk (cx W G)) (e : UEnd) (n rr : Nat) (p : Nat → Bool) (hk : 1 ≤ e.kind ∧ e.kind ≤ 4) (ha : e.kind ≠ 1 → 0 ≤ e.a ∧ e.a < n) {H : Hp} (hr : H rr = some (.cells (boolC n p))) : CC Tryz.prog W 37 [.agg (endC e), .ref rr 0 n n] H fun x H' => x = .ret (.bool (mayEnd p e)) ∧ H' = H := by
  refine (CC.freeze (args' := [.agg (endC e), .sl 1 (boolS n p)]) (R := fun v => v = .bool (mayEnd p e)) (by rfl) ?_ ?_ ?_).mono ?_
  · intro j x y hx hy
    rcases j with _|_|j
    · simp at hx hy; subst hx; subst hy; exact .same _
    · simp at hx hy; subst hx; subst hy; exact fz_bool hr (Nat.le_refl _)
    · simp at hx
  · rintro v rfl; simp [plainV]
  · intro w hw
    exact (mayEnd62_c (W := w) (CxOk.later hX hw) e n p hk ha _).mono fun x H' ⟨h1, _⟩ => ⟨_, h1, rfl⟩
  · rintro x H2 ⟨v, rfl, rfl, rfl⟩
    exact ⟨rfl, rfl⟩
theorem may_h (hX : CxOk (cx W G)) (o : UOp) (n rr : Nat) (p : Nat → Bool) (hg : o.guard ≠ -1 → 0 ≤ o.guard ∧ o.guard < n) (ha : o.kind = 20 ∨ o.kind = 21 ∨ o.kind = 22 → 0 ≤ o.a ∧ o.a < n) {H : Hp} (hr : H rr = some (.cells (boolC n p))) : CC Tryz.prog W 32 [.agg (opC o), .ref rr 0 n n] H fun x H' => x = .ret (.bool (mayTrap p o)) ∧ H' = H := by
  refine (CC.freeze (args' := [.agg (opC o), .sl 1 (boolS n p)]) (R := fun v => v = .bool (mayTrap p o)) (by rfl) ?_ ?_ ?_).mono ?_
  · intro j x y hx hy
    rcases j with _|_|j
    · simp at hx hy; subst hx; subst hy; exact .same _
    · simp at hx hy; subst hx; subst hy; exact fz_bool hr (Nat.le_refl _)
    · simp at hx
  · rintro v rfl; simp [plainV]
  · intro w hw
    exact (may63_c (W := w) (CxOk.later hX hw) o n p _ hg ha).mono fun x H' ⟨h1, _⟩ => ⟨_, h1, rfl⟩
  · rintro x H2 ⟨v, rfl, rfl, rfl⟩
    exact ⟨rfl, rfl⟩
def throwsB (p : Nat → Bool) (k : UBlk) : Bool := mayEnd p k.en || k.ops.any (mayTrap p)
def thrL (p : Nat → Bool) (l : List UBlk) : List (List CV) := l.map fun k => [.bool (throwsB p k)]
structure thI (H H1 : Hp) (u : UUnit) (p : Nat → Bool) (q1 rr : Nat) (d : Nat) (j : Nat) (s' : CA) (H' : Hp) : Prop where
  ex : ∃ (i i5 : Nat) (v : CV), i ≤ u.blocks.length ∧ j = u.blocks.length - i ∧ s'.env 1 = .ptr q1 0 ∧ s'.env 3 = .ref rr 0 u.regs.toNat u.regs.toNat ∧ s'.env 4 = v ∧ s'.env 5 = .int .i64 i5 ∧ i5 + d = i ∧ s'.ds = [] ∧ Own H1 H' v 1 (thrL p (u.blocks.take i))
structure thE (H H1 : Hp) (u : UUnit) (p : Nat → Bool) (s' : CA) (H' : Hp) : Prop where
  ex : ∃ (v : CV), s'.env 4 = v ∧ s'.ds = [] ∧ Own H1 H' v 1 (thrL p u.blocks)
structure thX (q1 rr n r6 i : Nat) (v : CV) (b : Bool) (H6 : Hp) (s' : CA) (H' : Hp) : Prop where
  ex : s'.env 1 = .ptr q1 0 ∧ s'.env 3 = .ref rr 0 n n ∧ s'.env 4 = v ∧ s'.env 5 = .int .i64 i ∧ s'.env 6 = .ptr r6 0 ∧ s'.env 7 = .bool b ∧ s'.ds = [] ∧ H' = H6
structure thY (q1 rr n r6 i : Nat) (v : CV) (p : Nat → Bool) (k : UBlk) (H6 : Hp) (d : Nat) (j : Nat) (s' : CA) (H' : Hp) : Prop where
  ex : ∃ t t8 : Nat, t ≤ k.ops.length ∧ j = k.ops.length - t ∧ thX q1 rr n r6 i v (mayEnd p k.en || (k.ops.take t).any (mayTrap p)) H6 s' H' ∧ s'.env 8 = .int .i64 t8 ∧ t8 + d = t
structure ThR (H : Hp) (u : UUnit) (x : CE) (H' : Hp) : Prop where
  ex : ∃ v p c H1, x = .ret v ∧ Le H H1 ∧ PLeast (opsOf u) p c ∧ Own H1 H' v 1 (thrL p u.blocks)
theorem throws39_c (hX : CxOk (cx W G)) (u : UUnit) (hu : wfU u = true) (H : Hp) : CC Tryz.prog W 78 [.agg (unitC u)] H (ThR H u) := by
  obtain ⟨f1, f2, f3, f4, f5, f6, f7, f8, f9, f10, f11⟩ := wfU_facts hu
  refine CC.of_cw hX Tryz.func78 rfl rfl (Nat.le_of_ble_eq_true rfl) ?_
  refine CW.walk hX mixed d78 rfl ?_
  simp
  intro q1 hq1
  refine CW.walk hX mixed d78 rfl ?_
  simp [unitC]
  refine (poisons61_c hX u hu _).k ?_
  rintro x H1 ⟨p, c, rr, rfl, hrp, hr, hle, hpl⟩
  simp
  have hH1 : Le H H1 := (Le.set_new hq1).trans hle
  have h11 : H1 q1 = some (.cells (unitC u)) := hle q1 _ (by simp [unitC])
  clear hle hrp hq1
  refine CW.walk hX mixed d78 rfl ?_
  simp
  refine CW.cut (thE H H1 u p) ?_ ?_
  · refine CW.walk hX mixed d78 rfl ?_
    simp
    refine CW.block ?_
    refine CW.loop (thI H H1 u p q1 rr 0) ?_ (m := u.blocks.length) ⟨0, 0, .nilsl, by omega, rfl, by simp, by simp, by simp, by simp, rfl, rfl, Own.nil (Le.refl _)⟩
    rintro j ⟨e, ds⟩ H2 ⟨i, i5, v, hi, rfl, e1, e3, e4, e5, hd, rfl, hown⟩
    obtain rfl : i5 = i := by omega
    dsimp only at e1 e3 e4 e5
    have m1 := hown.le _ _ h11
    have mr := hown.le _ _ hr
    simp only [unitC] at m1
    by_cases hil : i5 < u.blocks.length
    rotate_left
    · refine CW.walk hX mixed d78 rfl ?_
      simp [e1, e5, m1, hil]
      have : i5 = u.blocks.length := by omega
      subst this
      rw [List.take_length] at hown
      exact ⟨v, by simp [e4], rfl, hown⟩
    obtain ⟨k, hke⟩ : ∃ k, u.blocks[i5] = k := ⟨_, rfl⟩
    have hk : u.blocks[i5]? = some k := by rw [List.getElem?_eq_getElem hil, hke]
    obtain ⟨hct, hlen, hwo, hwe⟩ := wfB_facts hu hk
    obtain ⟨g1, g2, g3, g4, g5⟩ := wfE_facts hwe
    refine CW.walk hX mixed d78 rfl ?_
    simp [e1, e5, m1, hil]
    refine CW.cut (thI H H1 u p q1 rr 1 (u.blocks.length - (i5 + 1))) ?_ ?_
    · refine CW.block ?_
      refine CW.walk hX mixed d78 rfl ?_
      simp [e1, e5, m1, hil, hke, blkC]
      intro r6 hr6
      have hl6 : Le H2 (H2.set r6 (.cells (blkC k))) := Le.set_new hr6
      have m6 : (H2.set r6 (.cells (blkC k))) r6 = some (.cells (blkC k)) := set_at
      have hown6 := hown.mono hl6
      simp only [blkC, blkT] at hl6 m6 hown6
      have mr6 := hl6 _ _ mr
      generalize H2.set r6 _ = H3 at hl6 m6 mr6 hown6 ⊢
      have hme := mayEnd_h hX k.en u.regs.toNat rr p ⟨g1, g2⟩ (fun q => by have := g3 q; omega) mr6
      simp only [endC] at hme
      refine CW.walk hX mixed d78 rfl ?_
      simp [e3, m6]
      refine hme.k ?_
      rintro x H4 ⟨rfl, rfl⟩
      simp
      refine CW.cut (thX q1 rr u.regs.toNat r6 i5 v (throwsB p k) H4) ?_ ?_
      · refine CW.walk hX mixed d78 rfl ?_
        simp
        refine CW.block ?_
        refine CW.loop (thY q1 rr u.regs.toNat r6 i5 v p k H4 0) ?_ (m := k.ops.length) ⟨0, 0, by omega, rfl, ⟨by simp [e1], by simp [e3], by simp [e4], by simp [e5], by simp, by simp, rfl, rfl⟩, by simp, rfl⟩
        clear e1 e3 e4 e5
        rintro j ⟨e, ds⟩ H5 ⟨t, t', ht, rfl, ⟨e1, e3, e4, e5, e6, e7, rfl, rfl⟩, e8, htt⟩
        obtain rfl : t' = t := by omega
        dsimp only at e1 e3 e4 e5 e6 e7 e8
        by_cases htl : t' < k.ops.length
        rotate_left
        · have htt : t' = k.ops.length := by omega
          rw [htt, List.take_length] at e7
          refine CW.walk hX mixed d78 rfl ?_
          simp [e6, e8, m6, htl]
          exact ⟨by simp [e1], by simp [e3], by simp [e4], by simp [e5], by simp [e6], by simp [e7, throwsB], rfl, rfl⟩
        obtain ⟨o, hoe⟩ : ∃ o, k.ops[t'] = o := ⟨_, rfl⟩
        have ho : k.ops[t']? = some o := by rw [List.getElem?_eq_getElem htl, hoe]
        obtain ⟨w1, w2, w3, w4, w5, w6, w7, w8, w9⟩ := wfO_facts (hwo o (List.mem_of_getElem? ho)) f3
        refine CW.walk hX mixed d78 rfl ?_
        simp [e6, e8, m6, htl]
        have htk : (k.ops.take (t' + 1)).any (mayTrap p) = ((k.ops.take t').any (mayTrap p) || mayTrap p o) := by rw [List.take_add_one, ho, List.any_append]; simp
        refine CW.cut (thY q1 rr u.regs.toNat r6 i5 v p k H5 1 (k.ops.length - (t' + 1))) ?_ ?_
        · refine CW.block ?_
          refine CW.walk1 hX mixed d78 rfl ?_
          cases hx7 : (mayEnd p k.en || (k.ops.take t').any (mayTrap p)) with
          | true =>
            rw [hx7] at e7
            simp [d78, e7]
            exact ⟨t' + 1, t', htl, rfl, ⟨by simp [e1], by simp [e3], by simp [e4], by simp [e5], by simp [e6], by simp [htk, ← Bool.or_assoc, hx7], rfl, rfl⟩, by simp [e8], rfl⟩
          | false =>
            rw [hx7] at e7
            have hmt := may_h hX o u.regs.toNat rr p (fun q => by have := w5 q; omega) (fun q => by have := w8 q; omega) mr6
            simp only [opC] at hmt
            simp [d78, e3, e6, e7, e8, m6, htl, hoe, opC]
            refine hmt.k ?_
            rintro x H6 ⟨rfl, rfl⟩
            simp [d78]
            exact ⟨t' + 1, t', htl, rfl, ⟨by simp [e1], by simp [e3], by simp [e4], by simp [e5], by simp [e6], by simp [htk, ← Bool.or_assoc, hx7], rfl, rfl⟩, by simp [e8], rfl⟩
        · rintro ⟨e, ds⟩ H6 ⟨t2, t3, ht2, hj2, ⟨g1, g3, g4, g5, g6, g7, rfl, rfl⟩, g8, htt2⟩
          dsimp only at g1 g3 g4 g5 g6 g7 g8
          refine CW.walk1 hX mixed d78 rfl ?_
          simp [g8]
          exact ⟨k.ops.length - (t' + 1), by omega, t2, t2, ht2, hj2, ⟨by simp [g1], by simp [g3], by simp [g4], by simp [g5], by simp [g6], by simp [g7], rfl, rfl⟩, by simp; rw [wrapI (by omega) (by omega)]; omega, rfl⟩
      · clear e1 e3 e4 e5
        rintro ⟨e, ds⟩ H5 ⟨e1, e3, e4, e5, e6, e7, rfl, rfl⟩
        dsimp only at e1 e3 e4 e5 e6 e7
        refine CW.walk1 hX mixed d78 rfl ?_
        simp [e4, e7, cfill, -vcAppend]
        intro q hq
        refine (hown6.more (r := q) (o := .cells [.bool (throwsB p k)]) hq).append (ys := [[.bool (throwsB p k)]]) (by simp) (by simp [thrL]; omega) (src_one set_at rfl) fun v' H6 how6 _ => ?_
        have hnew : thrL p (u.blocks.take i5) ++ [[CV.bool (throwsB p k)]] = thrL p (u.blocks.take (i5 + 1)) := by rw [List.take_add_one, hk]; simp [thrL]
        rw [hnew] at how6
        simp
        exact ⟨i5 + 1, i5, v', hil, rfl, by simp [e1], by simp [e3], by simp, by simp [e5], rfl, rfl, how6⟩
    · rintro ⟨en, ds⟩ H3 ⟨i', i5', v', hi', hj', g1, g3, g4, g5, hd', rfl, hown'⟩
      dsimp only at g1 g3 g4 g5
      refine CW.walk1 hX mixed d78 rfl ?_
      simp [g5]
      exact ⟨u.blocks.length - (i5 + 1), by omega, i', i', v', hi', hj', by simp [g1], by simp [g3], by simp [g4], by simp; rw [wrapI (by omega) (by omega)]; omega, rfl, rfl, hown'⟩
  rintro ⟨e, ds⟩ H2 ⟨v, e4, rfl, hown⟩
  dsimp only at e4
  refine CW.walk1 hX mixed d78 rfl ?_
  simp [e4]
  exact ⟨v, p, c, H1, rfl, hH1, hpl, hown⟩
end Go.Cl
