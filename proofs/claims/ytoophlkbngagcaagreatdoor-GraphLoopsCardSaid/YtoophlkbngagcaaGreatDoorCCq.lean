/- DERIVED HERE. The checker: its small parts. DERIVED HERE. The checker: an operation. DERIVED HERE. The checker: an End. DERIVED HERE. The checker: a unit. -/
import Derived.Test.YtoophlkbngagcaaGreatDoorUMq
set_option linter.unusedSimpArgs false
set_option linter.unusedVariables false
namespace Go.Cl
open Go.Proofs
variable {W : World} {G : Nat → CV}
set_option maxRecDepth 8000
/-- A checker's cells. -/
def chkC (u : UUnit) (b a : Int) : List CV := unitC u ++ [ci b, ci a]
def faultV (b a e : Int) : CV := .iface 110 (.agg [ci b, ci a, ci e])
theorem must_c (hX : CxOk (cx W G)) (u : UUnit) (b a e : Int) (r : Nat) (ok : Bool) (H : Hp) (hr : H r = some (.cells (chkC u b a))) : CC Tryz.prog W 123 [.ptr r 0, .bool ok, ci e] H fun x H' => H' = H ∧ ((ok = true ∧ x = .ret (.tuple [])) ∨ (ok = false ∧ x = .panic (faultV b a e))) := by
  refine CC.of_ev hX mixed d123 Tryz.func123 rfl rfl (Nat.le_of_ble_eq_true rfl) d123_ok ?_
  simp only [chkC, unitC] at hr
  simp [Tryz.f123, d123, hr, cfill, faultV]
theorem within_c (hX : CxOk (cx W G)) (n m : Int) (H : Hp) : CC Tryz.prog W 125 [ci n, ci m] H fun x H' => x = .ret (.bool (inR n m)) ∧ H' = H := by
  refine CC.at0 ?_ H
  refine CC.of_ev hX mixed d125 Tryz.func125 rfl rfl (Nat.le_of_ble_eq_true rfl) d125_ok ?_
  simp [Tryz.f125, d125, inR]
  omega
theorem reg_c (hX : CxOk (cx W G)) (u : UUnit) (b a : Int) (r : Nat) (x : Int) (used : Bool) (H : Hp) (hr : H r = some (.cells (chkC u b a))) : CC Tryz.prog W 144 [.ptr r 0, ci x, .bool used] H fun y H' => H' = H ∧ (((!used || inR x u.regs) = true ∧ y = .ret (.tuple [])) ∨ ((!used || inR x u.regs) = false ∧ y = .panic (faultV b a 2))) := by
  have hr0 := hr
  refine CC.of_ev hX mixed d144 Tryz.func144 rfl rfl (Nat.le_of_ble_eq_true rfl) d144_ok ?_
  simp only [chkC, unitC] at hr
  simp [Tryz.f144, d144, hr]
  refine ⟨fun hu => ?_, fun hu => ?_⟩
  · refine (must_c hX u b a 2 r _ H hr0).k ?_
    rintro y H3 ⟨rfl, ⟨h, rfl⟩ | ⟨h, rfl⟩⟩ <;> simp [hu] at h ⊢
  · refine (within_c hX x u.regs H).k ?_
    rintro y H2 ⟨rfl, rfl⟩
    simp
    refine (must_c hX u b a 2 r _ H2 hr0).k ?_
    rintro y H3 ⟨rfl, ⟨h, rfl⟩ | ⟨h, rfl⟩⟩ <;> simp [hu, h]
theorem unit1_c (hX : CxOk (cx W G)) (n : Int) (H : Hp) : CC Tryz.prog W 124 [ci n] H fun x H' => x = .ret (.bool (decide (n < 1) || decide (65536 < n))) ∧ H' = H := by
  refine CC.at0 ?_ H
  refine CC.of_ev hX mixed d124 Tryz.func124 rfl rfl (Nat.le_of_ble_eq_true rfl) d124_ok ?_
  simp [Tryz.f124, d124]
  omega
end Go.Cl
set_option linter.unusedSimpArgs false
set_option linter.unusedVariables false
namespace Go.Cl
open Go.Proofs
variable {W : World} {G : Nat → CV}
set_option maxRecDepth 8000
def Bad (e b a : Int) (x : CE) : Prop := e ≠ 0 ∧ x = .panic (faultV b a e)
theorem Bad.of {e e' b a : Int} (h : e = e') (hn : e' ≠ 0) : Bad e b a (.panic (faultV b a e')) := by subst h; exact ⟨hn, rfl⟩
def topM (u : UUnit) (o : UOp) (r q3 q4 : Nat) (H1 : Hp) : CA → Hp → Prop := fun s' H' => s'.env 0 = .ptr r 0 ∧ s'.env 3 = .ptr q3 0 ∧ s'.env 4 = .ptr q4 0 ∧ s'.env 6 = ci (topOf u o.kind) ∧ s'.ds = [] ∧ H' = H1
def topN (u : UUnit) (o : UOp) (r q3 q4 : Nat) (H1 : Hp) : CA → Hp → Prop := fun s' H' => topM u o r q3 q4 H1 s' H' ∧ (decide (topOf u o.kind < 0) || (decide (0 ≤ o.n) && decide (o.n < topOf u o.kind))) = true
structure idleM (u : UUnit) (o : UOp) (r : Nat) (H1 : Hp) (s' : CA) (H' : Hp) : Prop where
  e0 : s'.env 0 = .ptr r 0
  e7 : s'.env 7 = .bool (idleB u o)
  d : s'.ds = []
  h : H' = H1
theorem usesN_0 (k : Int) : (zAnd .i64 (usesOf k) 1 != 0) = uBit k 0 := uses_and k 0 (by omega)
theorem usesE_0 (k : Int) : (zAnd .i64 (usesOf k) 1 = 0) = (uBit k 0 = false) := uses_and' k 0 1 (by omega) rfl
theorem usesB_0 (k : Int) : (zAnd .i64 (usesOf k) 1 == 0) = !uBit k 0 := by rw [← usesN_0]; simp [bne]
theorem usesN_1 (k : Int) : (zAnd .i64 (usesOf k) 2 != 0) = uBit k 1 := uses_and k 1 (by omega)
theorem usesE_1 (k : Int) : (zAnd .i64 (usesOf k) 2 = 0) = (uBit k 1 = false) := uses_and' k 1 2 (by omega) rfl
theorem usesB_1 (k : Int) : (zAnd .i64 (usesOf k) 2 == 0) = !uBit k 1 := by rw [← usesN_1]; simp [bne]
theorem usesN_2 (k : Int) : (zAnd .i64 (usesOf k) 4 != 0) = uBit k 2 := uses_and k 2 (by omega)
theorem usesE_2 (k : Int) : (zAnd .i64 (usesOf k) 4 = 0) = (uBit k 2 = false) := uses_and' k 2 4 (by omega) rfl
theorem usesB_2 (k : Int) : (zAnd .i64 (usesOf k) 4 == 0) = !uBit k 2 := by rw [← usesN_2]; simp [bne]
theorem usesN_3 (k : Int) : (zAnd .i64 (usesOf k) 8 != 0) = uBit k 3 := uses_and k 3 (by omega)
theorem usesE_3 (k : Int) : (zAnd .i64 (usesOf k) 8 = 0) = (uBit k 3 = false) := uses_and' k 3 8 (by omega) rfl
theorem usesB_3 (k : Int) : (zAnd .i64 (usesOf k) 8 == 0) = !uBit k 3 := by rw [← usesN_3]; simp [bne]
theorem usesN_4 (k : Int) : (zAnd .i64 (usesOf k) 16 != 0) = uBit k 4 := uses_and k 4 (by omega)
theorem usesE_4 (k : Int) : (zAnd .i64 (usesOf k) 16 = 0) = (uBit k 4 = false) := uses_and' k 4 16 (by omega) rfl
theorem usesB_4 (k : Int) : (zAnd .i64 (usesOf k) 16 == 0) = !uBit k 4 := by rw [← usesN_4]; simp [bne]
theorem usesN_5 (k : Int) : (zAnd .i64 (usesOf k) 32 != 0) = uBit k 5 := uses_and k 5 (by omega)
theorem usesE_5 (k : Int) : (zAnd .i64 (usesOf k) 32 = 0) = (uBit k 5 = false) := uses_and' k 5 32 (by omega) rfl
theorem usesB_5 (k : Int) : (zAnd .i64 (usesOf k) 32 == 0) = !uBit k 5 := by rw [← usesN_5]; simp [bne]
theorem usesN_6 (k : Int) : (zAnd .i64 (usesOf k) 64 != 0) = uBit k 6 := uses_and k 6 (by omega)
theorem usesE_6 (k : Int) : (zAnd .i64 (usesOf k) 64 = 0) = (uBit k 6 = false) := uses_and' k 6 64 (by omega) rfl
theorem usesB_6 (k : Int) : (zAnd .i64 (usesOf k) 64 == 0) = !uBit k 6 := by rw [← usesN_6]; simp [bne]
theorem usesN_7 (k : Int) : (zAnd .i64 (usesOf k) 128 != 0) = uBit k 7 := uses_and k 7 (by omega)
theorem usesE_7 (k : Int) : (zAnd .i64 (usesOf k) 128 = 0) = (uBit k 7 = false) := uses_and' k 7 128 (by omega) rfl
theorem usesB_7 (k : Int) : (zAnd .i64 (usesOf k) 128 == 0) = !uBit k 7 := by rw [← usesN_7]; simp [bne]
set_option maxHeartbeats 2000000 in
theorem op_c (hX : CxOk (cx W G)) (hG : G 0 = .iptr formsC) (u : UUnit) (b a : Int) (r : Nat) (o : UOp) (hk : Kd o.kind) (hsz : u.sizes.length ≤ 16) (hbl : u.blocks.length ≤ 2000) (H : Hp) (hr : H r = some (.cells (chkC u b a))) : CC Tryz.prog W 126 [.ptr r 0, .agg (opC o)] H fun x H' => ((wfOp u o = true ∧ x = .ret (.tuple [])) ∨ (wfOp u o = false ∧ Bad (errOp u o) b a x)) ∧ H' = H := by
  refine CC.shrink ?_
  refine CC.of_cw hX Tryz.func126 rfl rfl (Nat.le_of_ble_eq_true rfl) ?_
  refine CW.walk hX mixed d126 rfl ?_
  simp [opC]
  intro q3 hq3
  refine CW.walk hX mixed d126 rfl ?_
  simp
  refine (of_c hX hG o.kind (by have := hk; simp only [Kd] at this; omega) _).k ?_
  rintro x H' ⟨rfl, rfl⟩
  obtain ⟨fa, fb, hf, hfa, hfb⟩ := formOf_0 o.kind
  simp (config := {contextual := true}) [hf]
  intro q4 h43 h34 hq4
  have hr3 : r ≠ q3 := fun e => by rw [← e, hr] at hq3; cases hq3
  have hr4 : r ≠ q4 := fun e => by rw [← e, hr] at hq4; cases hq4
  generalize hH1 : (H.set q3 _).set q4 _ = H1
  have hle : Le H H1 := by rw [← hH1]; exact (Le.set_new hq3).trans (Le.set_new (by simp [h43, hq4]))
  have m3 : H1 q3 = some (.cells (opC o)) := by rw [← hH1]; simp [h34, opC]
  have m4 : H1 q4 = some (.cells [ci (usesOf o.kind), fa, fb]) := by rw [← hH1]; simp
  have mr := hle r _ hr
  simp only [opC] at m3
  refine CW.walk hX mixed d126 rfl ?_
  simp
  refine (must_c hX u b a 4 r _ H1 mr).k ?_
  rintro x H' ⟨rfl, ⟨k1, rfl⟩ | ⟨k1, rfl⟩⟩
  rotate_left
  · simp
    exact ⟨hle, by simp [wfOp, k1], .of (by simp [errOp, k1]) (by omega)⟩
  simp
  refine CW.walk hX mixed d126 rfl ?_
  simp [m3, m4]
  rw [usesN_0]
  refine (reg_c hX u b a r o.dst _ _ mr).k ?_
  rintro x H2 ⟨rfl, ⟨k2, rfl⟩ | ⟨k2, rfl⟩⟩
  rotate_left
  · simp
    exact ⟨hle, by simp [wfOp, k2], .of (by simp only [errOp, regsOk, k1, k2, Bool.and_false, Bool.false_and]; rfl) (by omega)⟩
  simp
  refine CW.walk hX mixed d126 rfl ?_
  simp [m3, m4]
  rw [usesN_1]
  refine (reg_c hX u b a r o.a _ _ mr).k ?_
  rintro x H2 ⟨rfl, ⟨k3, rfl⟩ | ⟨k3, rfl⟩⟩
  rotate_left
  · simp
    exact ⟨hle, by simp [wfOp, k3], .of (by simp only [errOp, regsOk, k1, k3, Bool.and_false, Bool.false_and]; rfl) (by omega)⟩
  simp
  refine CW.walk hX mixed d126 rfl ?_
  simp [m3, m4]
  rw [usesN_2]
  refine (reg_c hX u b a r o.b _ _ mr).k ?_
  rintro x H2 ⟨rfl, ⟨k4, rfl⟩ | ⟨k4, rfl⟩⟩
  rotate_left
  · simp
    exact ⟨hle, by simp [wfOp, k4], .of (by simp only [errOp, regsOk, k1, k4, Bool.and_false, Bool.false_and]; rfl) (by omega)⟩
  simp
  refine CW.walk hX mixed d126 rfl ?_
  simp [m3, m4]
  rw [usesN_3]
  refine (reg_c hX u b a r o.c _ _ mr).k ?_
  rintro x H2 ⟨rfl, ⟨k5, rfl⟩ | ⟨k5, rfl⟩⟩
  rotate_left
  · simp
    exact ⟨hle, by simp [wfOp, k5], .of (by simp only [errOp, regsOk, k1, k5, Bool.and_false, Bool.false_and]; rfl) (by omega)⟩
  simp
  refine CW.walk hX mixed d126 rfl ?_
  simp [m3, m4]
  refine (reg_c hX u b a r o.guard _ _ mr).k ?_
  rintro x H3 ⟨rfl, ⟨k6, rfl⟩ | ⟨k6, rfl⟩⟩
  rotate_left
  · have k6' : o.guard ≠ -1 ∧ inR o.guard u.regs = false := by simpa using k6
    simp
    exact ⟨hle, by simp [wfOp, k6'.1, k6'.2], .of (by simp only [errOp, regsOk, k1, k6'.1, k6'.2, decide_false, Bool.or_false, Bool.and_false]; rfl) (by omega)⟩
  have k6' : (decide (o.guard = -1) || inR o.guard u.regs) = true := by simpa using k6
  simp
  refine CW.walk hX mixed d126 rfl ?_
  simp
  have mr' := mr
  simp only [chkC, unitC] at mr'
  refine CW.cut (topM u o r q3 q4 H3) ?_ ?_
  · refine CW.walk1 hX mixed d126 rfl ?_
    simp [m3, m4, mr', usesE_5, usesE_6, usesE_7]
    refine ⟨fun h => ?_, fun h => ⟨fun h2 => ?_, fun h2 => ⟨fun h3 => ?_, fun h3 => ?_⟩⟩⟩
    · exact ⟨by simp, by simp, by simp, by simp [topOf, h], rfl, rfl⟩
    · exact ⟨by simp, by simp, by simp, by simp [topOf, h, h2], rfl, rfl⟩
    · exact ⟨by simp, by simp, by simp, by simp [topOf, h, h2, h3], rfl, rfl⟩
    · exact ⟨by simp, by simp, by simp, by simp [topOf, h, h2, h3], rfl, rfl⟩
  rintro ⟨e, ds⟩ H' ⟨e0, e3, e4, e6, rfl, rfl⟩
  dsimp only at e0 e3 e4 e6
  refine CW.cut (topN u o r q3 q4 H') ?_ ?_
  · refine CW.walk1 hX mixed d126 rfl ?_
    simp [e0, e3, e4, e6, m3, m4]
    have hbad : (decide (topOf u o.kind < 0) || (decide (0 ≤ o.n) && decide (o.n < topOf u o.kind))) = false → wfOp u o = false ∧ Bad (errOp u o) b a (.panic (faultV b a 5)) := fun h => ⟨by simp only [wfOp, h, Bool.and_false, Bool.false_and], .of (by simp only [errOp, regsOk, topOk, k1, k2, k3, k4, k5, k6', h, Bool.and_self]; rfl) (by omega)⟩
    refine ⟨fun h1 => ?_, fun h1 => ⟨fun h2 => ?_, fun h2 => ?_⟩⟩
    · refine (must_c hX u b a 5 r _ _ mr).k ?_
      rintro x H3 ⟨rfl, ⟨k7, rfl⟩ | ⟨k7, rfl⟩⟩
      · simp
        exact ⟨⟨by simp [e0], by simp [e3], by simp [e4], by simp [e6], rfl, rfl⟩, by simp [h1]⟩
      · cases k7
    · refine (must_c hX u b a 5 r _ _ mr).k ?_
      rintro x H3 ⟨rfl, ⟨k7, rfl⟩ | ⟨k7, rfl⟩⟩
      · simp
        simp at k7
        exact ⟨⟨by simp [e0], by simp [e3], by simp [e4], by simp [e6], rfl, rfl⟩, by simp [h2, k7]⟩
      · simp
        simp at k7
        exact ⟨hle, hbad (by simp; omega)⟩
    · refine (must_c hX u b a 5 r _ _ mr).k ?_
      rintro x H3 ⟨rfl, ⟨k7, rfl⟩ | ⟨k7, rfl⟩⟩
      · cases k7
      · simp
        exact ⟨hle, hbad (by simp; omega)⟩
  clear e0 e3 e4 e6
  clear e
  rintro ⟨e, ds⟩ H2 ⟨⟨e0, e3, e4, e6, rfl, rfl⟩, k7⟩
  dsimp only at e0 e3 e4 e6
  refine CW.cut (idleM u o r H2) ?_ ?_
  · refine CW.walk1 hX mixed d126 rfl ?_
    simp (config := {maxSteps := 4000000}) [e0, e3, e4, e6, m3, m4, usesE_0, usesE_1, usesE_2, usesE_3, usesE_4]
    clear hf
    repeat' (first | intro _ | apply And.intro)
    all_goals
      refine ⟨by simp [e0], ?_, rfl, rfl⟩
      clear hk hsz hbl hr hq3 hq4 hfa hfb hle m3 m4 mr mr' e3 e4 e6
      simp [idleB, *] <;> first
        | (rw [Bool.eq_iff_iff]; simp; done)
        | (intros; omega)
  rintro ⟨e, ds⟩ H' ⟨e0, e7, rfl, rfl⟩
  dsimp only at e0 e7
  refine CW.walk1 hX mixed d126 rfl ?_
  simp [e0, e7]
  refine (must_c hX u b a 4 r _ _ mr).k ?_
  have hw : wfOp u o = !idleB u o := by
    simp only [wfOp, k1, k2, k3, k4, k5, k6', k7, Bool.true_and, idleB]
  rintro x H3 ⟨rfl, ⟨k8, rfl⟩ | ⟨k8, rfl⟩⟩
  · simp
    exact ⟨hle, .inl (by rw [hw]; exact k8)⟩
  · simp
    exact ⟨hle, by rw [hw]; exact k8, .of (by simp only [errOp, regsOk, topOk, k1, k2, k3, k4, k5, k6', k7, Bool.and_self]; simp at k8; simp [k8]) (by omega)⟩
end Go.Cl
set_option linter.unusedSimpArgs false
set_option linter.unusedVariables false
namespace Go.Cl
open Go.Proofs
variable {W : World} {G : Nat → CV}
set_option maxRecDepth 8000
structure eM1 (r q3 : Nat) (H1 : Hp) (s' : CA) (H' : Hp) : Prop where
  e0 : s'.env 0 = .ptr r 0
  e3 : s'.env 3 = .ptr q3 0
  d : s'.ds = []
  h : H' = H1
structure eM2 (e : UEnd) (r q3 : Nat) (H1 : Hp) (s' : CA) (H' : Hp) : Prop where
  e0 : s'.env 0 = .ptr r 0
  e3 : s'.env 3 = .ptr q3 0
  e4 : s'.env 4 = .bool (goes e)
  e5 : s'.env 5 = .bool (branches e)
  d : s'.ds = []
  h : H' = H1
theorem decide_beq (x y : Int) : (x == y) = decide (x = y) := by rw [Bool.eq_iff_iff]; simp
theorem decide_bne (x y : Int) : (x != y) = decide (x ≠ y) := by rw [Bool.eq_iff_iff]; simp
set_option maxHeartbeats 2000000 in
theorem endChk_c (hX : CxOk (cx W G)) (u : UUnit) (b a : Int) (r : Nat) (en : UEnd) (H : Hp) (hr : H r = some (.cells (chkC u b a))) : CC Tryz.prog W 127 [.ptr r 0, .agg (endC en)] H fun x H' => ((wfEnd u en = true ∧ x = .ret (.tuple [])) ∨ (wfEnd u en = false ∧ Bad (errEnd u en) b a x)) ∧ H' = H := by
  refine CC.shrink ?_
  refine CC.of_cw hX Tryz.func127 rfl rfl (Nat.le_of_ble_eq_true rfl) ?_
  refine CW.walk hX mixed d127 rfl ?_
  simp [endC]
  intro q3 hq3
  have hr3 : r ≠ q3 := fun e => by rw [← e, hr] at hq3; cases hq3
  generalize hH1 : H.set q3 _ = H1
  have hle : Le H H1 := by rw [← hH1]; exact Le.set_new hq3
  have m3 : H1 q3 = some (.cells (endC en)) := by rw [← hH1]; simp [endC]
  have mr := hle r _ hr
  clear hH1
  simp only [endC] at m3
  have mr' := mr
  simp only [chkC, unitC] at mr'
  have hb1 : (decide (1 ≤ en.kind) && decide (en.kind ≤ 4)) = false → wfEnd u en = false ∧ Bad (errEnd u en) b a (.panic (faultV b a 4)) := fun h => ⟨by simp only [wfEnd, h, Bool.false_and], .of (by simp only [errEnd, h]; rfl) (by omega)⟩
  refine CW.cut (fun s' H' => eM1 r q3 H1 s' H' ∧ (decide (1 ≤ en.kind) && decide (en.kind ≤ 4)) = true) ?_ ?_
  · refine CW.walk1 hX mixed d127 rfl ?_
    simp [m3]
    refine ⟨fun h1 => ?_, fun h1 => ?_⟩
    · refine (must_c hX u b a 4 r _ _ mr).k ?_
      rintro x H3 ⟨rfl, ⟨k, rfl⟩ | ⟨k, rfl⟩⟩
      · simp at k ⊢
        exact ⟨⟨by simp, by simp, rfl, rfl⟩, h1, k⟩
      · simp at k ⊢
        exact ⟨hle, hb1 (by simp; omega)⟩
    · refine (must_c hX u b a 4 r _ _ mr).k ?_
      rintro x H3 ⟨rfl, ⟨k, rfl⟩ | ⟨k, rfl⟩⟩
      · cases k
      · simp at k ⊢
        exact ⟨hle, hb1 (by simp; omega)⟩
  rintro ⟨e, ds⟩ H' ⟨⟨e0, e3, rfl, rfl⟩, k1⟩
  dsimp only at e0 e3
  refine CW.cut (eM2 en r q3 H') ?_ ?_
  · refine CW.walk1 hX mixed d127 rfl ?_
    simp [e0, e3, m3, d127]
    refine ⟨fun h => ?_, fun h => ?_⟩
    · exact ⟨by simp [e0], by simp [e3], by simp [goes, h], by simp [branches, h], rfl, rfl⟩
    · exact ⟨by simp [e0], by simp [e3], by simp [goes, h, decide_beq], by simp [branches, decide_beq], rfl, rfl⟩
  clear e0 e3
  clear e
  rintro ⟨e, ds⟩ H1 ⟨e0, e3, e4, e5, rfl, rfl⟩
  dsimp only at e0 e3 e4 e5
  refine CW.walk hX mixed d127 rfl ?_
  simp [e0, e3, e4, e5, m3]
  refine (reg_c hX u b a r en.a _ _ mr).k ?_
  rintro x H3 ⟨rfl, ⟨k2, rfl⟩ | ⟨k2, rfl⟩⟩
  rotate_left
  · simp
    have k2' : (decide (en.kind = 1) || inR en.a u.regs) = false := by simpa [decide_bne] using k2
    exact ⟨hle, by simp only [wfEnd, k2', Bool.and_false, Bool.false_and], .of (by simp only [errEnd, k1, k2']; rfl) (by omega)⟩
  have k2' : (decide (en.kind = 1) || inR en.a u.regs) = true := by simpa [decide_bne] using k2
  simp
  have hb3 : (!goes en || inR en.to u.blocks.length) = false → wfEnd u en = false ∧ Bad (errEnd u en) b a (.panic (faultV b a 5)) := fun h => ⟨by simp only [wfEnd, h, Bool.and_false, Bool.false_and], .of (by simp only [errEnd, k1, k2', h, Bool.false_and]; rfl) (by omega)⟩
  refine CW.cut (fun s' H' => eM2 en r q3 H3 s' H' ∧ (!goes en || inR en.to u.blocks.length) = true) ?_ ?_
  · refine CW.walk1 hX mixed d127 rfl ?_
    simp [e0, e3, e4, e5, m3, mr', d127]
    refine ⟨fun h => ?_, fun h => ?_⟩
    · refine (must_c hX u b a 5 r _ _ mr).k ?_
      rintro x H4 ⟨rfl, ⟨k, rfl⟩ | ⟨k, rfl⟩⟩
      · simp
        exact ⟨⟨by simp [e0], by simp [e3], by simp [e4], by simp [e5], rfl, rfl⟩, by simp [h]⟩
      · cases k
    · refine (within_c hX en.to u.blocks.length _).k ?_
      rintro x H4 ⟨rfl, rfl⟩
      simp
      refine (must_c hX u b a 5 r _ _ mr).k ?_
      rintro x H5 ⟨rfl, ⟨k, rfl⟩ | ⟨k, rfl⟩⟩
      · simp
        exact ⟨⟨by simp [e0], by simp [e3], by simp [e4], by simp [e5], rfl, rfl⟩, by simp [k]⟩
      · simp
        exact ⟨hle, hb3 (by simp [h, k])⟩
  clear e0 e3 e4 e5
  clear e
  rintro ⟨e, ds⟩ H1 ⟨⟨e0, e3, e4, e5, rfl, rfl⟩, k3⟩
  dsimp only at e0 e3 e4 e5
  have hb4 : (!branches en || inR en.els u.blocks.length) = false → wfEnd u en = false ∧ Bad (errEnd u en) b a (.panic (faultV b a 5)) := fun h => ⟨by simp only [wfEnd, h, Bool.and_false, Bool.false_and], .of (by simp only [errEnd, k1, k2', k3, h, Bool.and_false]; rfl) (by omega)⟩
  refine CW.cut (fun s' H' => eM2 en r q3 H1 s' H' ∧ (!branches en || inR en.els u.blocks.length) = true) ?_ ?_
  · refine CW.walk1 hX mixed d127 rfl ?_
    simp [e0, e3, e4, e5, m3, mr', d127]
    refine ⟨fun h => ?_, fun h => ?_⟩
    · refine (must_c hX u b a 5 r _ _ mr).k ?_
      rintro x H4 ⟨rfl, ⟨k, rfl⟩ | ⟨k, rfl⟩⟩
      · simp
        exact ⟨⟨by simp [e0], by simp [e3], by simp [e4], by simp [e5], rfl, rfl⟩, by simp [h]⟩
      · cases k
    · refine (within_c hX en.els u.blocks.length _).k ?_
      rintro x H4 ⟨rfl, rfl⟩
      simp
      refine (must_c hX u b a 5 r _ _ mr).k ?_
      rintro x H5 ⟨rfl, ⟨k, rfl⟩ | ⟨k, rfl⟩⟩
      · simp
        exact ⟨⟨by simp [e0], by simp [e3], by simp [e4], by simp [e5], rfl, rfl⟩, by simp [k]⟩
      · simp
        exact ⟨hle, hb4 (by simp [h, k])⟩
  clear e0 e3 e4 e5
  clear e
  rintro ⟨e, ds⟩ H2 ⟨⟨e0, e3, e4, e5, rfl, rfl⟩, k4⟩
  dsimp only at e0 e3 e4 e5
  refine CW.walk1 hX mixed d127 rfl ?_
  simp [e0, e3, e4, e5, m3]
  have hw : wfEnd u en = ((decide (en.kind ≠ 1) || decide (en.a = 0)) && (goes en || decide (en.to = 0)) && (branches en || decide (en.els = 0))) := by simp only [wfEnd, k1, k2', k3, k4, Bool.true_and]
  have hwb : wfEnd u en = false → Bad (errEnd u en) b a (.panic (faultV b a 4)) := fun h => by
    rw [hw] at h
    exact .of (by simp only [errEnd, k1, k2', k3, k4, h, Bool.and_self]; rfl) (by omega)
  have hwc : ∀ {x : CE}, x = .panic (faultV b a 4) → wfEnd u en = false → wfEnd u en = false ∧ Bad (errEnd u en) b a x := fun hx h => ⟨h, by rw [hx]; exact hwb h⟩
  clear hb1 hb3 hb4 k1 k2 k2' k3 k4 mr' hwb
  repeat' (first | intro _ | apply And.intro)
  all_goals
    refine (must_c hX u b a 4 r _ _ mr).k ?_
    rintro x H3 ⟨rfl, ⟨k, rfl⟩ | ⟨k, rfl⟩⟩
    · first
        | (exfalso; revert k; simp; done)
        | (simp [decide_beq, decide_bne] at k ⊢; exact ⟨hle, .inl (by rw [hw]; simp [*])⟩)
        | (simp; exact ⟨hle, .inl (by rw [hw]; simp [*])⟩)
    · first
        | (exfalso; revert k; simp; done)
        | (simp [decide_beq, decide_bne] at k ⊢; exact ⟨hle, hwc rfl (by rw [hw]; simp [*])⟩)
        | (simp; exact ⟨hle, hwc rfl (by rw [hw]; simp [*])⟩)
end Go.Cl
set_option linter.unusedSimpArgs false
set_option linter.unusedVariables false
namespace Go.Cl
open Go.Proofs
variable {W : World} {G : Nat → CV}
set_option maxRecDepth 8000
/-- A unit that can be looked at: its numbers are ones. -/
structure UOk (u : UUnit) : Prop where
  sz : u.sizes.length ≤ 1000000
  bl : u.blocks.length ≤ 100000
  op : ∀ b ∈ u.blocks, b.ops.length ≤ 1000000
  kd : ∀ b ∈ u.blocks, ∀ o ∈ b.ops, Kd o.kind
def cut0 (H : Hp) (r : Nat) : Hp := fun i => if i = r then none else H i
structure uM (H : Hp) (u : UUnit) (r q2 : Nat) (s' : CA) (H' : Hp) : Prop where
  e0 : s'.env 0 = .ptr r 0
  e2 : s'.env 2 = .ptr q2 0
  d : s'.ds = []
  hr : ∃ b a, H' r = some (.cells (chkC u b a))
  h2 : H' q2 = some (.cells (unitC u))
  n2 : q2 ≠ r
  le : Le (cut0 H r) H'
structure bM (H : Hp) (u : UUnit) (r q2 q5 i c3 : Nat) (k : UBlk) (s' : CA) (H' : Hp) : Prop where
  e0 : s'.env 0 = .ptr r 0
  e2 : s'.env 2 = .ptr q2 0
  e3 : s'.env 3 = .int .i64 c3
  e5 : s'.env 5 = .ptr q5 0
  e81 : s'.env 81 = .sl 6 (u.blocks.map blkC)
  e82 : s'.env 82 = .int .i64 u.blocks.length
  e83 : s'.env 83 = .int .i64 i
  d : s'.ds = []
  hr : ∃ b a, H' r = some (.cells (chkC u b a))
  h2 : H' q2 = some (.cells (unitC u))
  h5 : H' q5 = some (.cells (blkC k))
  n2 : q2 ≠ r
  n5 : q5 ≠ r
  n52 : q5 ≠ q2
  le : Le (cut0 H r) H'
def lI (H : Hp) (u : UUnit) (r q2 j : Nat) (s' : CA) (H' : Hp) : Prop := ∃ i, i ≤ u.blocks.length ∧ j = u.blocks.length - i ∧ uM H u r q2 s' H' ∧ s'.env 3 = .int .i64 (off u i) ∧ s'.env 81 = .sl 6 (u.blocks.map blkC) ∧ s'.env 82 = .int .i64 u.blocks.length ∧ s'.env 83 = .int .i64 i ∧ ∀ j k, j < i → u.blocks[j]? = some k → wfBlk u k = true
def lE (H : Hp) (u : UUnit) (r q2 : Nat) (s' : CA) (H' : Hp) : Prop := uM H u r q2 s' H' ∧ s'.env 3 = .int .i64 (opsOf u).length ∧ ∀ k ∈ u.blocks, wfBlk u k = true
def lO (H : Hp) (u : UUnit) (r q2 q5 i : Nat) (k : UBlk) (j : Nat) (s' : CA) (H' : Hp) : Prop := ∃ t, t ≤ k.ops.length ∧ j = k.ops.length - t ∧ bM H u r q2 q5 i (off u i) k s' H' ∧ s'.env 118 = .sl 7 (k.ops.map opC) ∧ s'.env 119 = .int .i64 k.ops.length ∧ s'.env 120 = .int .i64 t ∧ ∀ j o, j < t → k.ops[j]? = some o → wfOp u o = true
theorem cut0_put {H H' : Hp} {r : Nat} {o : Ob} (h : Le (cut0 H r) H') : Le (cut0 H r) (H'.set r o) := fun i x hi => by
  have hi' := hi
  simp only [cut0] at hi
  split at hi
  · cases hi
  · rename_i hne
    simp only [Hp.set, if_neg hne]
    exact h i x hi'
def BadU (u : UUnit) (x : CE) : Prop := wfU u = false ∧ ∃ b a, Bad (errU u) b a x
theorem off_le {u : UUnit} (hu : UOk u) : ∀ i, i ≤ u.blocks.length → off u i ≤ i * 1000000
  | 0, _ => by simp [off]
  | i + 1, h => by
    have := off_le hu i (by omega)
    have hk : u.blocks[i]? = some u.blocks[i] := List.getElem?_eq_getElem (by omega)
    have := hu.op _ (List.mem_of_getElem? hk)
    rw [off_succ hk]
    omega
structure Bef (u : UUnit) (i : Nat) : Prop where
  h1 : wfHead u = true
  h2 : wfSizes u = true
  h3 : wfNums u = true
  a : ∀ j k, j < i → u.blocks[j]? = some k → wfBlk u k = true
theorem badB {u : UUnit} {k : UBlk} {i : Nat} (hB : Bef u i) (hk : u.blocks[i]? = some k) (b a e : Int) (he : e ≠ 0) (h : errBlk u k = e) : BadU u (.panic (faultV b a e)) := by
  have hn : errBlk u k ≠ 0 := by rw [h]; exact he
  have h0 := errBlks_at hk hB.a hn
  have h1 : errU u = e := by
    simp only [errU, hB.h1, hB.h2, hB.h3, h0, h]
    simp [he]
  refine ⟨?_, b, a, .of h1 he⟩
  cases hw : wfU u
  · rfl
  · rw [errU_wf.2 hw] at h1; exact absurd h1.symm he
set_option maxHeartbeats 2000000 in
theorem unit_c (hX : CxOk (cx W G)) (hG : G 0 = .iptr formsC) (u : UUnit) (hu : UOk u) (r : Nat) (H : Hp) (hr : H r = some (.cells (chkC u 0 0))) : CC Tryz.prog W 99 [.ptr r 0] H fun x H' => ((wfU u = true ∧ x = .ret (.tuple [])) ∨ BadU u x) ∧ Le (cut0 H r) H' := by
  refine CC.of_cw hX Tryz.func99 rfl rfl (Nat.le_of_ble_eq_true rfl) ?_
  have hr' := hr
  simp only [chkC, unitC] at hr'
  refine CW.walk hX mixed d99 rfl ?_
  simp [hr']
  intro q2 hq2
  have hr2 : r ≠ q2 := fun e => by rw [← e, hr] at hq2; cases hq2
  have hst : uM H u r q2 ⟨env0 [.ptr r 0], []⟩ H → True := fun _ => trivial
  generalize hH1 : H.set q2 _ = H1
  have hle : Le (cut0 H r) H1 := by
    rw [← hH1]
    intro i o hi
    simp only [cut0] at hi
    split at hi
    · cases hi
    · exact Le.set_new hq2 i o hi
  have m2 : H1 q2 = some (.cells (unitC u)) := by rw [← hH1]; simp [unitC]
  have mr : H1 r = some (.cells (chkC u 0 0)) := by rw [← hH1]; simp [hr2, hr]
  clear hH1
  refine CW.cut (fun s' H' => uM H u r q2 s' H' ∧ wfHead u = true) ?_ ?_
  · refine CW.walk1 hX mixed d99 rfl ?_
    have m2' := m2
    simp only [unitC] at m2'
    simp (config := {maxSteps := 8000000}) [m2']
    have hbad : wfHead u = false → BadU u (.panic (faultV 0 0 3)) := fun h => ⟨by simp [wfU, h], 0, 0, .of (by simp [errU, h]) (by omega)⟩
    repeat' (first | intro _ | apply And.intro)
    all_goals
      refine (must_c hX u 0 0 3 r _ _ mr).k ?_
      rintro x H3 ⟨rfl, ⟨k, rfl⟩ | ⟨k, rfl⟩⟩
      · first
          | (exfalso; revert k; simp; done)
          | (simp at k ⊢; exact ⟨⟨by simp, by simp, rfl, ⟨0, 0, mr⟩, m2, Ne.symm hr2, hle⟩, by simp [wfHead]; omega⟩)
          | (simp; exact ⟨⟨by simp, by simp, rfl, ⟨0, 0, mr⟩, m2, Ne.symm hr2, hle⟩, by simp [wfHead]; omega⟩)
      · first
          | (exfalso; revert k; simp; done)
          | (simp at k ⊢; exact ⟨hbad (by simp [wfHead]; omega), hle⟩)
          | (simp; exact ⟨hbad (by simp [wfHead]; omega), hle⟩)
  rintro ⟨e, ds⟩ H1 ⟨⟨e0, e2, rfl, ⟨b, a, mr⟩, m2, hr2, hle⟩, k1⟩
  have hsz16 : u.sizes.length ≤ 16 := by simp [wfHead] at k1; omega
  have hbl2 : u.blocks.length ≤ 2000 := by simp [wfHead] at k1; omega
  dsimp only at e0 e2
  have m2' := m2
  simp only [unitC] at m2'
  refine CW.walk hX mixed d99 rfl ?_
  simp [e0, e2, m2']
  refine (containsFunc_c hX (.sl 1 (ints u.sizes)) u.sizes 124 [] [] (fun n => decide (n < 1) || decide (65536 < n)) H1 (.inl rfl) hu.sz fun x hx => unit1_c hX x H1).k ?_
  rintro x H3 ⟨rfl, rfl⟩
  simp
  refine (must_c hX u b a 2 r _ _ mr).k ?_
  have hsz : wfSizes u = !(u.sizes.any fun n => decide (n < 1) || decide (65536 < n)) := by
    simp only [wfSizes]
    rw [List.not_any_eq_all_not]
  rintro x H4 ⟨rfl, ⟨k, rfl⟩ | ⟨k, rfl⟩⟩
  rotate_left
  · simp
    exact ⟨⟨by simp only [wfU, hsz, k]; simp, b, a, .of (by simp only [errU, k1, hsz, k]; simp) (by omega)⟩, hle⟩
  have k2 : wfSizes u = true := by rw [hsz]; exact k
  simp
  have mr' := mr
  simp only [chkC, unitC] at mr'
  refine CW.cut (fun s' H' => uM H u r q2 s' H' ∧ wfNums u = true) ?_ ?_
  · refine CW.walk1 hX mixed d99 rfl ?_
    simp (config := {maxSteps := 8000000}) [e0, e2, m2']
    have hbad : wfNums u = false → BadU u (.panic (faultV b a 2)) := fun h => ⟨by simp [wfU, h], b, a, .of (by simp [errU, k1, k2, h]) (by omega)⟩
    repeat' (first | intro _ | apply And.intro)
    all_goals first
      | (refine (must_c hX u b a 2 r _ _ mr).k ?_
         rintro x H3 ⟨rfl, ⟨k, rfl⟩ | ⟨k, rfl⟩⟩
         · cases k
         · simp
           exact ⟨hbad (by simp [wfNums, inR]; omega), hle⟩)
      | (refine (within_c hX u.code u.regs _).k ?_
         rintro x H3 ⟨rfl, rfl⟩
         simp
         refine (must_c hX u b a 2 r _ _ mr).k ?_
         rintro x H5 ⟨rfl, ⟨k, rfl⟩ | ⟨k, rfl⟩⟩
         · simp
           exact ⟨⟨by simp [e0], by simp [e2], rfl, ⟨b, a, mr⟩, m2, hr2, hle⟩, by simp [wfNums, k]; omega⟩
         · simp
           exact ⟨hbad (by simp [wfNums, k]), hle⟩)
  clear e0 e2
  clear e
  rintro ⟨e, ds⟩ H2 ⟨⟨e0, e2, rfl, ⟨b1, a1, mr⟩, m2, hr2, hle⟩, k3⟩
  dsimp only at e0 e2
  clear mr' m2'
  have mr' := mr
  have m2' := m2
  simp only [unitC] at m2'
  simp only [chkC, unitC] at mr'
  refine CW.walk hX mixed d99 rfl ?_
  simp [e0, e2, m2']
  refine CW.cut (lE H u r q2) ?_ ?_
  · refine CW.walk hX mixed d99 rfl ?_
    simp [e0, e2, m2']
    refine CW.walk1 hX mixed d99 rfl ?_
    simp
    refine CW.loop (lI H u r q2) ?_ (m := u.blocks.length) ⟨0, by omega, by omega, ⟨by simp [e0], by simp [e2], rfl, ⟨b1, a1, mr⟩, m2, hr2, hle⟩, by simp [off], by simp, by simp, by simp, fun j k hj => absurd hj (by omega)⟩
    clear e0 e2 mr mr' m2 m2' hle
    clear e b1 a1 H2
    rintro j ⟨e, ds⟩ H2 ⟨i, hi, rfl, ⟨e0, e2, rfl, ⟨b1, a1, mr⟩, m2, hr2, hle⟩, e3, e81, e82, e83, hall⟩
    dsimp only at e0 e2 e3 e81 e82 e83
    refine CW.walk hX mixed d99 rfl ?_
    simp [e82, e83]
    refine CW.walk hX mixed d99 rfl ?_
    simp
    refine ⟨fun hil => ?_, fun hil => ?_⟩
    · refine CW.cut (fun s' H' => ∃ q5 k, u.blocks[i]? = some k ∧ bM H u r q2 q5 i (off u (i + 1)) k s' H' ∧ wfBlk u k = true) ?_ ?_
      · refine CW.block ?_
        obtain ⟨k, hke⟩ : ∃ k, u.blocks[i] = k := ⟨_, rfl⟩
        have hk : u.blocks[i]? = some k := by rw [List.getElem?_eq_getElem hil, hke]
        have hkm : k ∈ u.blocks := List.mem_of_getElem? hk
        have hB : Bef u i := ⟨k1, k2, k3, hall⟩
        refine CW.walk hX mixed d99 rfl ?_
        simp [e0, e2, e81, e82, e83, hil, hke, blkC]
        intro q5 hq5
        have n5 : q5 ≠ r := fun e => by rw [e, mr] at hq5; cases hq5
        have n52 : q5 ≠ q2 := fun e => by rw [e, m2] at hq5; cases hq5
        have mr' := mr
        simp only [chkC, unitC] at mr'
        refine CW.cut (bM H u r q2 q5 i (off u i) k) ?_ ?_
        · refine CW.walk1 hX mixed d99 rfl ?_
          simp [d99, e0, mr', Ne.symm n5]
          refine ⟨by simp [stabI, Stab, IsV, n5], ?_⟩
          exact ⟨by simp [e0], by simp [e2], by simp [e3], by simp, by simp [e81], by simp [e82], by simp [e83], rfl, ⟨i, k.ops.length, by simp [chkC, unitC]⟩, by simp [hr2, Ne.symm n52, m2], by simp [n5, blkC], hr2, n5, n52, cut0_put (hle.trans (Le.set_new hq5))⟩
        clear e0 e2 e3 e81 e82 e83 mr m2 hle mr' hq5 n5 n52
        clear e b1 a1 H2
        rintro ⟨e, ds⟩ H2 ⟨e0, e2, e3, e5, e81, e82, e83, rfl, ⟨b1, a1, mr⟩, m2, m5, n2, n5, n52, hle⟩
        dsimp only at e0 e2 e3 e5 e81 e82 e83
        have mr' := mr
        simp only [chkC, unitC] at mr'
        have m5' := m5
        simp only [blkC] at m5'
        refine CW.cut (fun s' H' => bM H u r q2 q5 i (off u i) k s' H' ∧ (decide (k.catch_ = -1) || inR k.catch_ u.blocks.length) = true) ?_ ?_
        · refine CW.walk1 hX mixed d99 rfl ?_
          have m2' := m2
          simp only [unitC] at m2'
          simp [e0, e2, e5, m5', mr', m2']
          have hbad : (decide (k.catch_ = -1) || inR k.catch_ u.blocks.length) = false → errBlk u k = 2 := fun h => by simp only [errBlk, h]; rfl
          refine ⟨fun h => ?_, fun h => ?_⟩
          · refine (must_c hX u b1 a1 2 r _ _ mr).k ?_
            rintro x H4 ⟨rfl, ⟨h4, rfl⟩ | ⟨h4, rfl⟩⟩
            · simp
              exact ⟨⟨by simp [e0], by simp [e2], by simp [e3], by simp [e5], by simp [e81], by simp [e82], by simp [e83], rfl, ⟨b1, a1, mr⟩, m2, m5, n2, n5, n52, hle⟩, by simp [h]⟩
            · cases h4
          · refine (within_c hX k.catch_ u.blocks.length _).k ?_
            rintro x H4 ⟨rfl, rfl⟩
            simp
            refine (must_c hX u b1 a1 2 r _ _ mr).k ?_
            rintro x H5 ⟨rfl, ⟨h4, rfl⟩ | ⟨h4, rfl⟩⟩
            · simp
              exact ⟨⟨by simp [e0], by simp [e2], by simp [e3], by simp [e5], by simp [e81], by simp [e82], by simp [e83], rfl, ⟨b1, a1, mr⟩, m2, m5, n2, n5, n52, hle⟩, by simp [h4]⟩
            · simp
              exact ⟨badB hB hk _ _ _ (by omega) (hbad (by simp [h, h4])), hle⟩
        clear e0 e2 e3 e5 e81 e82 e83 mr m2 m5 n2 n5 n52 hle mr' m5'
        clear e b1 a1 H2
        rintro ⟨e, ds⟩ H2 ⟨⟨e0, e2, e3, e5, e81, e82, e83, rfl, ⟨b1, a1, mr⟩, m2, m5, n2, n5, n52, hle⟩, j1⟩
        dsimp only at e0 e2 e3 e5 e81 e82 e83
        have mr' := mr
        simp only [chkC, unitC] at mr'
        have m5' := m5
        simp only [blkC] at m5'
        refine CW.cut (fun s' H' => bM H u r q2 q5 i (off u i) k s' H' ∧ k.ops.length ≤ 400) ?_ ?_
        · refine CW.walk1 hX mixed d99 rfl ?_
          simp [e0, e5, m5', mr']
          refine (must_c hX u b1 a1 3 r _ _ mr).k ?_
          rintro x H4 ⟨rfl, ⟨h4, rfl⟩ | ⟨h4, rfl⟩⟩
          · simp
            exact ⟨⟨by simp [e0], by simp [e2], by simp [e3], by simp [e5], by simp [e81], by simp [e82], by simp [e83], rfl, ⟨b1, a1, mr⟩, m2, m5, n2, n5, n52, hle⟩, by simp at h4; omega⟩
          · simp
            exact ⟨badB hB hk _ _ _ (by omega) (by simp at h4; simp only [errBlk, j1]; simp; omega), hle⟩
        clear e0 e2 e3 e5 e81 e82 e83 mr m2 m5 n2 n5 n52 hle mr' m5'
        clear e b1 a1 H2
        rintro ⟨e, ds⟩ H2 ⟨⟨e0, e2, e3, e5, e81, e82, e83, rfl, ⟨b1, a1, mr⟩, m2, m5, n2, n5, n52, hle⟩, j2⟩
        dsimp only at e0 e2 e3 e5 e81 e82 e83
        have mr' := mr
        simp only [chkC, unitC] at mr'
        have m5' := m5
        simp only [blkC] at m5'
        refine CW.cut (fun s' H' => bM H u r q2 q5 i (off u i) k s' H' ∧ ∀ o ∈ k.ops, wfOp u o = true) ?_ ?_
        · refine CW.walk hX mixed d99 rfl ?_
          simp [e0, e5, m5', mr']
          refine CW.walk1 hX mixed d99 rfl ?_
          simp
          refine CW.loop (lO H u r q2 q5 i k) ?_ (m := k.ops.length) ⟨0, by omega, by omega, ⟨by simp [e0], by simp [e2], by simp [e3], by simp [e5], by simp [e81], by simp [e82], by simp [e83], rfl, ⟨b1, a1, mr⟩, m2, m5, n2, n5, n52, hle⟩, by simp, by simp, by simp, fun j o hj => absurd hj (by omega)⟩
          clear e0 e2 e3 e5 e81 e82 e83 mr m2 m5 n2 n5 n52 hle mr' m5'
          clear e b1 a1 H2
          rintro j ⟨e, ds⟩ H2 ⟨t, ht, rfl, ⟨e0, e2, e3, e5, e81, e82, e83, rfl, ⟨b1, a1, mr⟩, m2, m5, n2, n5, n52, hle⟩, e118, e119, e120, hall2⟩
          dsimp only at e0 e2 e3 e5 e81 e82 e83 e118 e119 e120
          have mr' := mr
          simp only [chkC, unitC] at mr'
          refine vw_sound hX mixed (D := d99) _ _ _ _ (by kernel_rfl) ?_
          by_cases htl : t < k.ops.length
          · obtain ⟨o, hoe⟩ : ∃ o, k.ops[t] = o := ⟨_, rfl⟩
            have ho : k.ops[t]? = some o := by rw [List.getElem?_eq_getElem htl, hoe]
            have hom : o ∈ k.ops := List.mem_of_getElem? ho
            simp [e0, e118, e119, e120, htl, hoe, opC]
            intro q7 hq7
            have n7 : r ≠ q7 := fun e => by rw [← e, mr] at hq7; cases hq7
            simp [mr', n7, Ne.symm n7]
            have hco := op_c hX hG u b1 t r o (hu.kd k hkm o hom) hsz16 hbl2 ((H2.set q7 (.cells (opC o))).set r (.cells (chkC u b1 t))) set_at
            simp only [opC, chkC, unitC] at hco
            refine hco.k ?_
            rintro x H4 ⟨⟨h4, rfl⟩ | ⟨h4, ⟨hee, rfl⟩⟩, rfl⟩
            · simp [e0, e118, e119, e120]
              refine ⟨k.ops.length - (t + 1), by omega, t + 1, by omega, rfl, ⟨by simp [e0], by simp [e2], by simp [e3], by simp [e5], by simp [e81], by simp [e82], by simp [e83], rfl, ⟨b1, t, by simp [chkC, unitC]⟩, ?_, ?_, n2, n5, n52, cut0_put (hle.trans (Le.set_new hq7))⟩, by simp [e118], by simp [e119], by simp; rw [wrapI (by omega) (by omega)], ?_⟩
              · have : q2 ≠ q7 := fun e => by rw [← e, m2] at hq7; cases hq7
                simp [n2, this, m2]
              · have : q5 ≠ q7 := fun e => by rw [← e, m5] at hq7; cases hq7
                simp [n5, this, m5]
              · intro j o' hj hoj
                rcases Nat.lt_or_ge j t with h | h
                · exact hall2 j o' h hoj
                · have : j = t := by omega
                  subst this
                  rw [ho] at hoj
                  injection hoj with hoj
                  rw [← hoj]
                  exact h4
            · simp
              refine ⟨badB hB hk _ _ _ hee ?_, cut0_put (hle.trans (Le.set_new hq7))⟩
              have := errOps_at ho hall2 hee
              simp only [errBlk, j1, this, hee]
              simp [j2, hee]
              exact fun q => absurd q (by omega)
          · have : t = k.ops.length := by omega
            subst this
            simp [e118, e119, e120]
            exact ⟨⟨by simp [e0], by simp [e2], by simp [e3], by simp [e5], by simp [e81], by simp [e82], by simp [e83], rfl, ⟨b1, a1, mr⟩, m2, m5, n2, n5, n52, hle⟩, fun o ho => by
              obtain ⟨j, hj, hoj⟩ := List.mem_iff_getElem.1 ho
              exact hall2 j o hj (by rw [List.getElem?_eq_getElem hj, hoj])⟩
        clear e0 e2 e3 e5 e81 e82 e83 mr m2 m5 n2 n5 n52 hle mr' m5'
        clear e b1 a1 H2
        rintro ⟨e, ds⟩ H2 ⟨⟨e0, e2, e3, e5, e81, e82, e83, rfl, ⟨b1, a1, mr⟩, m2, m5, n2, n5, n52, hle⟩, j3⟩
        dsimp only at e0 e2 e3 e5 e81 e82 e83
        have mr' := mr
        simp only [chkC, unitC] at mr'
        have m5' := m5
        simp only [blkC] at m5'
        refine CW.cut (bM H u r q2 q5 i (off u i) k) ?_ ?_
        · refine CW.walk1 hX mixed d99 rfl ?_
          simp [e0, e5, m5', mr', Ne.symm n5]
          exact ⟨by simp [e0], by simp [e2], by simp [e3], by simp [e5], by simp [e81], by simp [e82], by simp [e83], rfl, ⟨b1, k.ops.length, by simp [chkC, unitC]⟩, by simp [n2, m2], by simp [n5, m5], n2, n5, n52, cut0_put hle⟩
        clear e0 e2 e3 e5 e81 e82 e83 mr m2 m5 n2 n5 n52 hle mr' m5'
        clear e b1 a1 H2
        rintro ⟨e, ds⟩ H2 ⟨e0, e2, e3, e5, e81, e82, e83, rfl, ⟨b1, a1, mr⟩, m2, m5, n2, n5, n52, hle⟩
        dsimp only at e0 e2 e3 e5 e81 e82 e83
        have mr' := mr
        simp only [chkC, unitC] at mr'
        have m5' := m5
        simp only [blkC] at m5'
        refine CW.cut (fun s' H' => bM H u r q2 q5 i (off u i) k s' H' ∧ wfEnd u k.en = true) ?_ ?_
        · refine CW.walk1 hX mixed d99 rfl ?_
          simp [e0, e5, m5', mr']
          refine (endChk_c hX u b1 a1 r k.en H2 mr).k ?_
          rintro x H4 ⟨⟨h4, rfl⟩ | ⟨h4, ⟨hee, rfl⟩⟩, rfl⟩
          · simp
            exact ⟨⟨by simp [e0], by simp [e2], by simp [e3], by simp [e5], by simp [e81], by simp [e82], by simp [e83], rfl, ⟨b1, a1, mr⟩, m2, m5, n2, n5, n52, hle⟩, h4⟩
          · simp
            exact ⟨badB hB hk _ _ _ hee (by have h0 := errOps_wf.2 (List.all_eq_true.2 j3); simp only [errBlk, j1, h0]; simp [j2]; exact fun q => absurd q (by omega)), hle⟩
        clear e0 e2 e3 e5 e81 e82 e83 mr m2 m5 n2 n5 n52 hle mr' m5'
        clear e b1 a1 H2
        rintro ⟨e, ds⟩ H2 ⟨⟨e0, e2, e3, e5, e81, e82, e83, rfl, ⟨b1, a1, mr⟩, m2, m5, n2, n5, n52, hle⟩, j4⟩
        dsimp only at e0 e2 e3 e5 e81 e82 e83
        have mr' := mr
        simp only [chkC, unitC] at mr'
        have m5' := m5
        simp only [blkC] at m5'
        refine CW.walk1 hX mixed d99 rfl ?_
        simp [e0, e3, e5, m5', mr']
        have hop := hu.op k hkm
        have hbl := hu.bl
        have hoff := off_le hu i (by omega)
        exact ⟨q5, k, hk, ⟨by simp [e0], by simp [e2], by simp; rw [wrapI (by omega) (by omega), off_succ hk]; simp, by simp [e5], by simp [e81], by simp [e82], by simp [e83], rfl, ⟨b1, a1, mr⟩, m2, m5, n2, n5, n52, hle⟩, by simp only [wfBlk, j1, j4, Bool.true_and, Bool.and_true, Bool.and_eq_true, decide_eq_true_eq, List.all_eq_true]; exact ⟨j2, j3⟩⟩
      clear e0 e2 e3 e81 e82 e83 mr m2 hle
      clear e b1 a1 H2
      rintro ⟨e, ds⟩ H2 ⟨q5, k, hk, ⟨e0, e2, e3, e5, e81, e82, e83, rfl, ⟨b1, a1, mr⟩, m2, m5, n2, n5, n52, hle⟩, hwk⟩
      dsimp only at e0 e2 e3 e5 e81 e82 e83
      refine CW.walk1 hX mixed d99 rfl ?_
      simp [e83]
      refine ⟨u.blocks.length - (i + 1), by omega, i + 1, by omega, rfl, ⟨by simp [e0], by simp [e2], rfl, ⟨b1, a1, mr⟩, m2, n2, hle⟩, by simp [e3], by simp [e81], by simp [e82], by simp; rw [wrapI (by omega) (by omega)], fun j k' hj hkj => ?_⟩
      rcases Nat.lt_or_ge j i with h | h
      · exact hall j k' h hkj
      · have : j = i := by omega
        subst this
        rw [hk] at hkj
        injection hkj with hkj
        rw [← hkj]
        exact hwk
    · have : i = u.blocks.length := by omega
      subst this
      rw [off_all] at e3
      exact ⟨⟨by simp [e0], by simp [e2], rfl, ⟨b1, a1, mr⟩, m2, hr2, hle⟩, by simp [e3], fun k hk => by
        obtain ⟨j, hj, hkj⟩ := List.mem_iff_getElem.1 hk
        exact hall j k hj (by rw [List.getElem?_eq_getElem hj, hkj])⟩
  clear e0 e2 mr mr' m2 m2' hle
  clear e b1 a1 H2
  rintro ⟨e, ds⟩ H2 ⟨⟨e0, e2, rfl, ⟨b1, a1, mr⟩, m2, hr2, hle⟩, e3, hall⟩
  dsimp only at e0 e2 e3
  have mr' := mr
  simp only [chkC, unitC] at mr'
  refine CW.walk hX mixed d99 rfl ?_
  simp [e0, e2, mr']
  refine CW.walk1 hX mixed d99 rfl ?_
  simp [e0, e3]
  refine (must_c hX u 0 0 3 r _ _ (by simp [chkC, unitC])).k ?_
  have hall' : u.blocks.all (wfBlk u) = true := by rw [List.all_eq_true]; exact hall
  rintro x H4 ⟨rfl, ⟨h4, rfl⟩ | ⟨h4, rfl⟩⟩
  · simp
    simp at h4
    exact ⟨.inl (by simp only [wfU, k1, k2, k3, hall', Bool.true_and, decide_eq_true_eq]; omega), cut0_put hle⟩
  · simp
    simp at h4
    exact ⟨⟨by simp only [wfU, k1, k2, k3, hall', Bool.true_and, decide_eq_false_iff_not]; omega, 0, 0, .of (by simp only [errU, k1, k2, k3, errBlks_wf.2 hall']; simp; omega) (by omega)⟩, cut0_put hle⟩
end Go.Cl
