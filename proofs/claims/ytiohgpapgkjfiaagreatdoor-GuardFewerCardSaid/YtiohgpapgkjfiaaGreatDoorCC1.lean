/- DERIVED HERE. The checker: its small parts. DERIVED HERE. The checker: an operation. DERIVED HERE. The checker: an End. -/
import Derived.Test.YtiohgpapgkjfiaaGreatDoorLM
set_option linter.unusedSimpArgs false
set_option linter.unusedVariables false
namespace Go.Cl
open Go.Proofs
variable {W : World} {G : Nat → CV}
set_option maxRecDepth 8000
/-- A checker's cells. -/
def chkC (u : UUnit) (b a : Int) : List CV := unitC u ++ [ci b, ci a]
def faultV (b a e : Int) : CV := .iface 116 (.agg [ci b, ci a, ci e])
theorem must_c (hX : CxOk (cx W G)) (u : UUnit) (b a e : Int) (r : Nat) (ok : Bool) (H : Hp) (hr : H r = some (.cells (chkC u b a))) : CC Tryz.prog W 114 [.ptr r 0, .bool ok, ci e] H fun x H' => H' = H ∧ ((ok = true ∧ x = .ret (.tuple [])) ∨ (ok = false ∧ x = .panic (faultV b a e))) := by
  refine CC.of_ev hX mixed d114 Tryz.func114 rfl rfl (Nat.le_of_ble_eq_true rfl) d114_ok ?_
  simp only [chkC, unitC] at hr
  simp [Tryz.f114, d114, hr, cfill, faultV]
theorem within_c (hX : CxOk (cx W G)) (n m : Int) (H : Hp) : CC Tryz.prog W 117 [ci n, ci m] H fun x H' => x = .ret (.bool (inR n m)) ∧ H' = H := by
  refine CC.at0 ?_ H
  refine CC.of_ev hX mixed d117 Tryz.func117 rfl rfl (Nat.le_of_ble_eq_true rfl) d117_ok ?_
  simp [Tryz.f117, d117, inR]
  omega
theorem reg_c (hX : CxOk (cx W G)) (u : UUnit) (b a : Int) (r : Nat) (x : Int) (used : Bool) (H : Hp) (hr : H r = some (.cells (chkC u b a))) : CC Tryz.prog W 137 [.ptr r 0, ci x, .bool used] H fun y H' => H' = H ∧ (((!used || inR x u.regs) = true ∧ y = .ret (.tuple [])) ∨ ((!used || inR x u.regs) = false ∧ y = .panic (faultV b a 2))) := by
  have hr0 := hr
  refine CC.of_ev hX mixed d137 Tryz.func137 rfl rfl (Nat.le_of_ble_eq_true rfl) d137_ok ?_
  simp only [chkC, unitC] at hr
  simp [Tryz.f137, d137, hr]
  refine ⟨fun hu => ?_, fun hu => ?_⟩
  · refine (must_c hX u b a 2 r _ H hr0).k ?_
    rintro y H3 ⟨rfl, ⟨h, rfl⟩ | ⟨h, rfl⟩⟩ <;> simp [hu] at h ⊢
  · refine (within_c hX x u.regs H).k ?_
    rintro y H2 ⟨rfl, rfl⟩
    simp
    refine (must_c hX u b a 2 r _ H2 hr0).k ?_
    rintro y H3 ⟨rfl, ⟨h, rfl⟩ | ⟨h, rfl⟩⟩ <;> simp [hu, h]
theorem unit1_c (hX : CxOk (cx W G)) (n : Int) (H : Hp) : CC Tryz.prog W 116 [ci n] H fun x H' => x = .ret (.bool (decide (n < 1) || decide (65536 < n))) ∧ H' = H := by
  refine CC.at0 ?_ H
  refine CC.of_ev hX mixed d116 Tryz.func116 rfl rfl (Nat.le_of_ble_eq_true rfl) d116_ok ?_
  simp [Tryz.f116, d116]
  omega
end Go.Cl
set_option linter.unusedSimpArgs false
set_option linter.unusedVariables false
namespace Go.Cl
open Go.Proofs
variable {W : World} {G : Nat → CV}
set_option maxRecDepth 8000
def Bad (e b a : Int) (x : CE) : Prop := e ≠ 0 ∧ x = .panic (faultV b a e)
theorem Bad.of {e e' b a : Int} (h : e = e') (hn : e' ≠ 0) : Bad e b a (.panic (faultV b a e')) := by subst h; exact ⟨hn, rfl⟩
def topM (u : UUnit) (o : UOp) (r q3 q4 : Nat) (H1 : Hp) : CA → Hp → Prop := fun s' H' => s'.env 0 = .ptr r 0 ∧ s'.env 3 = .ptr q3 0 ∧ s'.env 4 = .ptr q4 0 ∧ s'.env 6 = ci (topOf u o.kind) ∧ s'.ds = [] ∧ H' = H1
def topN (u : UUnit) (o : UOp) (r q3 q4 : Nat) (H1 : Hp) : CA → Hp → Prop := fun s' H' => topM u o r q3 q4 H1 s' H' ∧ (decide (topOf u o.kind < 0) || (decide (0 ≤ o.n) && decide (o.n < topOf u o.kind))) = true
structure idleM (u : UUnit) (o : UOp) (r : Nat) (H1 : Hp) (s' : CA) (H' : Hp) : Prop where
  e0 : s'.env 0 = .ptr r 0
  e7 : s'.env 7 = .bool (idleB u o)
  d : s'.ds = []
  h : H' = H1
theorem usesN_0 (k : Int) : (zAnd .i64 (usesOf k) 1 != 0) = uBit k 0 := uses_and k 0 (by omega)
theorem usesE_0 (k : Int) : (zAnd .i64 (usesOf k) 1 = 0) = (uBit k 0 = false) := uses_and' k 0 1 (by omega) rfl
theorem usesN_1 (k : Int) : (zAnd .i64 (usesOf k) 2 != 0) = uBit k 1 := uses_and k 1 (by omega)
theorem usesE_1 (k : Int) : (zAnd .i64 (usesOf k) 2 = 0) = (uBit k 1 = false) := uses_and' k 1 2 (by omega) rfl
theorem usesN_2 (k : Int) : (zAnd .i64 (usesOf k) 4 != 0) = uBit k 2 := uses_and k 2 (by omega)
theorem usesE_2 (k : Int) : (zAnd .i64 (usesOf k) 4 = 0) = (uBit k 2 = false) := uses_and' k 2 4 (by omega) rfl
theorem usesN_3 (k : Int) : (zAnd .i64 (usesOf k) 8 != 0) = uBit k 3 := uses_and k 3 (by omega)
theorem usesE_3 (k : Int) : (zAnd .i64 (usesOf k) 8 = 0) = (uBit k 3 = false) := uses_and' k 3 8 (by omega) rfl
theorem usesE_4 (k : Int) : (zAnd .i64 (usesOf k) 16 = 0) = (uBit k 4 = false) := uses_and' k 4 16 (by omega) rfl
theorem usesE_5 (k : Int) : (zAnd .i64 (usesOf k) 32 = 0) = (uBit k 5 = false) := uses_and' k 5 32 (by omega) rfl
theorem usesE_6 (k : Int) : (zAnd .i64 (usesOf k) 64 = 0) = (uBit k 6 = false) := uses_and' k 6 64 (by omega) rfl
theorem usesE_7 (k : Int) : (zAnd .i64 (usesOf k) 128 = 0) = (uBit k 7 = false) := uses_and' k 7 128 (by omega) rfl
set_option maxHeartbeats 2000000 in
theorem op_c (hX : CxOk (cx W G)) (hG : G 0 = .iptr formsC) (u : UUnit) (b a : Int) (r : Nat) (o : UOp) (hk : Kd o.kind) (hsz : u.sizes.length ≤ 16) (hbl : u.blocks.length ≤ 2000) (H : Hp) (hr : H r = some (.cells (chkC u b a))) : CC Tryz.prog W 118 [.ptr r 0, .agg (opC o)] H fun x H' => ((wfOp u o = true ∧ x = .ret (.tuple [])) ∨ (wfOp u o = false ∧ Bad (errOp u o) b a x)) ∧ H' = H := by
  refine CC.shrink ?_
  refine CC.of_cw hX Tryz.func118 rfl rfl (Nat.le_of_ble_eq_true rfl) ?_
  refine CW.walk hX mixed d118 rfl ?_
  simp [opC]
  intro q3 hq3
  refine CW.walk hX mixed d118 rfl ?_
  simp
  refine (of_c hX hG o.kind (by have := hk; simp only [Kd] at this; omega) _).k ?_
  rintro x H' ⟨rfl, rfl⟩
  obtain ⟨fa, fb, hf, hfa, hfb⟩ := formOf_0 o.kind
  simp (config := {contextual := true}) [hf]
  intro q4 h43 h34 hq4
  have hr3 : r ≠ q3 := fun e => by rw [← e, hr] at hq3; cases hq3
  have hr4 : r ≠ q4 := fun e => by rw [← e, hr] at hq4; cases hq4
  generalize hH1 : (H.set q3 _).set q4 _ = H1
  have hle : Le H H1 := by rw [← hH1]; exact (Le.set_new hq3).trans (Le.set_new (by simp [h43, hq4]))
  have m3 : H1 q3 = some (.cells (opC o)) := by rw [← hH1]; simp [h34, opC]
  have m4 : H1 q4 = some (.cells [ci (usesOf o.kind), fa, fb]) := by rw [← hH1]; simp
  have mr := hle r _ hr
  simp only [opC] at m3
  refine CW.walk hX mixed d118 rfl ?_
  simp
  refine (must_c hX u b a 4 r _ H1 mr).k ?_
  rintro x H' ⟨rfl, ⟨k1, rfl⟩ | ⟨k1, rfl⟩⟩
  rotate_left
  · simp
    exact ⟨hle, by simp [wfOp, k1], .of (by simp [errOp, k1]) (by omega)⟩
  simp
  refine CW.walk hX mixed d118 rfl ?_
  simp [m3, m4]
  rw [usesN_0]
  refine (reg_c hX u b a r o.dst _ _ mr).k ?_
  rintro x H2 ⟨rfl, ⟨k2, rfl⟩ | ⟨k2, rfl⟩⟩
  rotate_left
  · simp
    exact ⟨hle, by simp [wfOp, k2], .of (by simp only [errOp, regsOk, k1, k2, Bool.and_false, Bool.false_and]; rfl) (by omega)⟩
  simp
  refine CW.walk hX mixed d118 rfl ?_
  simp [m3, m4]
  rw [usesN_1]
  refine (reg_c hX u b a r o.a _ _ mr).k ?_
  rintro x H2 ⟨rfl, ⟨k3, rfl⟩ | ⟨k3, rfl⟩⟩
  rotate_left
  · simp
    exact ⟨hle, by simp [wfOp, k3], .of (by simp only [errOp, regsOk, k1, k3, Bool.and_false, Bool.false_and]; rfl) (by omega)⟩
  simp
  refine CW.walk hX mixed d118 rfl ?_
  simp [m3, m4]
  rw [usesN_2]
  refine (reg_c hX u b a r o.b _ _ mr).k ?_
  rintro x H2 ⟨rfl, ⟨k4, rfl⟩ | ⟨k4, rfl⟩⟩
  rotate_left
  · simp
    exact ⟨hle, by simp [wfOp, k4], .of (by simp only [errOp, regsOk, k1, k4, Bool.and_false, Bool.false_and]; rfl) (by omega)⟩
  simp
  refine CW.walk hX mixed d118 rfl ?_
  simp [m3, m4]
  rw [usesN_3]
  refine (reg_c hX u b a r o.c _ _ mr).k ?_
  rintro x H2 ⟨rfl, ⟨k5, rfl⟩ | ⟨k5, rfl⟩⟩
  rotate_left
  · simp
    exact ⟨hle, by simp [wfOp, k5], .of (by simp only [errOp, regsOk, k1, k5, Bool.and_false, Bool.false_and]; rfl) (by omega)⟩
  simp
  refine CW.walk hX mixed d118 rfl ?_
  simp [m3, m4]
  refine (reg_c hX u b a r o.guard _ _ mr).k ?_
  rintro x H3 ⟨rfl, ⟨k6, rfl⟩ | ⟨k6, rfl⟩⟩
  rotate_left
  · have k6' : o.guard ≠ -1 ∧ inR o.guard u.regs = false := by simpa using k6
    simp
    exact ⟨hle, by simp [wfOp, k6'.1, k6'.2], .of (by simp only [errOp, regsOk, k1, k6'.1, k6'.2, decide_false, Bool.or_false, Bool.and_false]; rfl) (by omega)⟩
  have k6' : (decide (o.guard = -1) || inR o.guard u.regs) = true := by simpa using k6
  simp
  refine CW.walk hX mixed d118 rfl ?_
  simp
  have mr' := mr
  simp only [chkC, unitC] at mr'
  refine CW.cut (topM u o r q3 q4 H3) ?_ ?_
  · refine CW.walk1 hX mixed d118 rfl ?_
    simp [m3, m4, mr', usesE_5, usesE_6, usesE_7]
    refine ⟨fun h => ?_, fun h => ⟨fun h2 => ?_, fun h2 => ⟨fun h3 => ?_, fun h3 => ?_⟩⟩⟩
    · exact ⟨by simp, by simp, by simp, by simp [topOf, h], rfl, rfl⟩
    · exact ⟨by simp, by simp, by simp, by simp [topOf, h, h2], rfl, rfl⟩
    · exact ⟨by simp, by simp, by simp, by simp [topOf, h, h2, h3], rfl, rfl⟩
    · exact ⟨by simp, by simp, by simp, by simp [topOf, h, h2, h3], rfl, rfl⟩
  rintro ⟨e, ds⟩ H' ⟨e0, e3, e4, e6, rfl, rfl⟩
  dsimp only at e0 e3 e4 e6
  refine CW.cut (topN u o r q3 q4 H') ?_ ?_
  · refine CW.walk1 hX mixed d118 rfl ?_
    simp [e0, e3, e4, e6, m3, m4]
    have hbad : (decide (topOf u o.kind < 0) || (decide (0 ≤ o.n) && decide (o.n < topOf u o.kind))) = false → wfOp u o = false ∧ Bad (errOp u o) b a (.panic (faultV b a 5)) := fun h => ⟨by simp only [wfOp, h, Bool.and_false, Bool.false_and], .of (by simp only [errOp, regsOk, topOk, k1, k2, k3, k4, k5, k6', h, Bool.and_self]; rfl) (by omega)⟩
    refine ⟨fun h1 => ?_, fun h1 => ⟨fun h2 => ?_, fun h2 => ?_⟩⟩
    · refine (must_c hX u b a 5 r _ _ mr).k ?_
      rintro x H3 ⟨rfl, ⟨k7, rfl⟩ | ⟨k7, rfl⟩⟩
      · simp
        exact ⟨⟨by simp [e0], by simp [e3], by simp [e4], by simp [e6], rfl, rfl⟩, by simp [h1]⟩
      · cases k7
    · refine (must_c hX u b a 5 r _ _ mr).k ?_
      rintro x H3 ⟨rfl, ⟨k7, rfl⟩ | ⟨k7, rfl⟩⟩
      · simp
        simp at k7
        exact ⟨⟨by simp [e0], by simp [e3], by simp [e4], by simp [e6], rfl, rfl⟩, by simp [h2, k7]⟩
      · simp
        simp at k7
        exact ⟨hle, hbad (by simp; omega)⟩
    · refine (must_c hX u b a 5 r _ _ mr).k ?_
      rintro x H3 ⟨rfl, ⟨k7, rfl⟩ | ⟨k7, rfl⟩⟩
      · cases k7
      · simp
        exact ⟨hle, hbad (by simp; omega)⟩
  clear e0 e3 e4 e6
  clear e
  rintro ⟨e, ds⟩ H2 ⟨⟨e0, e3, e4, e6, rfl, rfl⟩, k7⟩
  dsimp only at e0 e3 e4 e6
  refine CW.cut (idleM u o r H2) ?_ ?_
  · refine CW.walk1 hX mixed d118 rfl ?_
    simp (config := {maxSteps := 4000000}) [e0, e3, e4, e6, m3, m4, usesE_0, usesE_1, usesE_2, usesE_3, usesE_4]
    clear hf
    repeat' (first | intro _ | apply And.intro)
    all_goals
      refine ⟨by simp [e0], ?_, rfl, rfl⟩
      clear hk hsz hbl hr hq3 hq4 hfa hfb hle m3 m4 mr mr' e3 e4 e6
      simp [idleB, *] <;> first
        | (rw [Bool.eq_iff_iff]; simp; done)
        | (intros; omega)
  rintro ⟨e, ds⟩ H' ⟨e0, e7, rfl, rfl⟩
  dsimp only at e0 e7
  refine CW.walk1 hX mixed d118 rfl ?_
  simp [e0, e7]
  refine (must_c hX u b a 4 r _ _ mr).k ?_
  have hw : wfOp u o = !idleB u o := by
    simp only [wfOp, k1, k2, k3, k4, k5, k6', k7, Bool.true_and, idleB]
  rintro x H3 ⟨rfl, ⟨k8, rfl⟩ | ⟨k8, rfl⟩⟩
  · simp
    exact ⟨hle, .inl (by rw [hw]; exact k8)⟩
  · simp
    exact ⟨hle, by rw [hw]; exact k8, .of (by simp only [errOp, regsOk, topOk, k1, k2, k3, k4, k5, k6', k7, Bool.and_self]; simp at k8; simp [k8]) (by omega)⟩
end Go.Cl
set_option linter.unusedSimpArgs false
set_option linter.unusedVariables false
namespace Go.Cl
open Go.Proofs
variable {W : World} {G : Nat → CV}
set_option maxRecDepth 8000
structure eM1 (r q3 : Nat) (H1 : Hp) (s' : CA) (H' : Hp) : Prop where
  e0 : s'.env 0 = .ptr r 0
  e3 : s'.env 3 = .ptr q3 0
  d : s'.ds = []
  h : H' = H1
structure eM2 (e : UEnd) (r q3 : Nat) (H1 : Hp) (s' : CA) (H' : Hp) : Prop where
  e0 : s'.env 0 = .ptr r 0
  e3 : s'.env 3 = .ptr q3 0
  e4 : s'.env 4 = .bool (goes e)
  e5 : s'.env 5 = .bool (branches e)
  d : s'.ds = []
  h : H' = H1
theorem decide_beq (x y : Int) : (x == y) = decide (x = y) := by rw [Bool.eq_iff_iff]; simp
theorem decide_bne (x y : Int) : (x != y) = decide (x ≠ y) := by rw [Bool.eq_iff_iff]; simp
set_option maxHeartbeats 2000000 in
theorem endChk_c (hX : CxOk (cx W G)) (u : UUnit) (b a : Int) (r : Nat) (en : UEnd) (H : Hp) (hr : H r = some (.cells (chkC u b a))) : CC Tryz.prog W 119 [.ptr r 0, .agg (endC en)] H fun x H' => ((wfEnd u en = true ∧ x = .ret (.tuple [])) ∨ (wfEnd u en = false ∧ Bad (errEnd u en) b a x)) ∧ H' = H := by
  refine CC.shrink ?_
  refine CC.of_cw hX Tryz.func119 rfl rfl (Nat.le_of_ble_eq_true rfl) ?_
  refine CW.walk hX mixed d119 rfl ?_
  simp [endC]
  intro q3 hq3
  have hr3 : r ≠ q3 := fun e => by rw [← e, hr] at hq3; cases hq3
  generalize hH1 : H.set q3 _ = H1
  have hle : Le H H1 := by rw [← hH1]; exact Le.set_new hq3
  have m3 : H1 q3 = some (.cells (endC en)) := by rw [← hH1]; simp [endC]
  have mr := hle r _ hr
  clear hH1
  simp only [endC] at m3
  have mr' := mr
  simp only [chkC, unitC] at mr'
  have hb1 : (decide (1 ≤ en.kind) && decide (en.kind ≤ 4)) = false → wfEnd u en = false ∧ Bad (errEnd u en) b a (.panic (faultV b a 4)) := fun h => ⟨by simp only [wfEnd, h, Bool.false_and], .of (by simp only [errEnd, h]; rfl) (by omega)⟩
  refine CW.cut (fun s' H' => eM1 r q3 H1 s' H' ∧ (decide (1 ≤ en.kind) && decide (en.kind ≤ 4)) = true) ?_ ?_
  · refine CW.walk1 hX mixed d119 rfl ?_
    simp [m3]
    refine ⟨fun h1 => ?_, fun h1 => ?_⟩
    · refine (must_c hX u b a 4 r _ _ mr).k ?_
      rintro x H3 ⟨rfl, ⟨k, rfl⟩ | ⟨k, rfl⟩⟩
      · simp at k ⊢
        exact ⟨⟨by simp, by simp, rfl, rfl⟩, h1, k⟩
      · simp at k ⊢
        exact ⟨hle, hb1 (by simp; omega)⟩
    · refine (must_c hX u b a 4 r _ _ mr).k ?_
      rintro x H3 ⟨rfl, ⟨k, rfl⟩ | ⟨k, rfl⟩⟩
      · cases k
      · simp at k ⊢
        exact ⟨hle, hb1 (by simp; omega)⟩
  rintro ⟨e, ds⟩ H' ⟨⟨e0, e3, rfl, rfl⟩, k1⟩
  dsimp only at e0 e3
  refine CW.cut (eM2 en r q3 H') ?_ ?_
  · refine CW.walk1 hX mixed d119 rfl ?_
    simp [e0, e3, m3, d119]
    refine ⟨fun h => ?_, fun h => ?_⟩
    · exact ⟨by simp [e0], by simp [e3], by simp [goes, h], by simp [branches, h], rfl, rfl⟩
    · exact ⟨by simp [e0], by simp [e3], by simp [goes, h, decide_beq], by simp [branches, decide_beq], rfl, rfl⟩
  clear e0 e3
  clear e
  rintro ⟨e, ds⟩ H1 ⟨e0, e3, e4, e5, rfl, rfl⟩
  dsimp only at e0 e3 e4 e5
  refine CW.walk hX mixed d119 rfl ?_
  simp [e0, e3, e4, e5, m3]
  refine (reg_c hX u b a r en.a _ _ mr).k ?_
  rintro x H3 ⟨rfl, ⟨k2, rfl⟩ | ⟨k2, rfl⟩⟩
  rotate_left
  · simp
    have k2' : (decide (en.kind = 1) || inR en.a u.regs) = false := by simpa [decide_bne] using k2
    exact ⟨hle, by simp only [wfEnd, k2', Bool.and_false, Bool.false_and], .of (by simp only [errEnd, k1, k2']; rfl) (by omega)⟩
  have k2' : (decide (en.kind = 1) || inR en.a u.regs) = true := by simpa [decide_bne] using k2
  simp
  have hb3 : (!goes en || inR en.to u.blocks.length) = false → wfEnd u en = false ∧ Bad (errEnd u en) b a (.panic (faultV b a 5)) := fun h => ⟨by simp only [wfEnd, h, Bool.and_false, Bool.false_and], .of (by simp only [errEnd, k1, k2', h, Bool.false_and]; rfl) (by omega)⟩
  refine CW.cut (fun s' H' => eM2 en r q3 H3 s' H' ∧ (!goes en || inR en.to u.blocks.length) = true) ?_ ?_
  · refine CW.walk1 hX mixed d119 rfl ?_
    simp [e0, e3, e4, e5, m3, mr', d119]
    refine ⟨fun h => ?_, fun h => ?_⟩
    · refine (must_c hX u b a 5 r _ _ mr).k ?_
      rintro x H4 ⟨rfl, ⟨k, rfl⟩ | ⟨k, rfl⟩⟩
      · simp
        exact ⟨⟨by simp [e0], by simp [e3], by simp [e4], by simp [e5], rfl, rfl⟩, by simp [h]⟩
      · cases k
    · refine (within_c hX en.to u.blocks.length _).k ?_
      rintro x H4 ⟨rfl, rfl⟩
      simp
      refine (must_c hX u b a 5 r _ _ mr).k ?_
      rintro x H5 ⟨rfl, ⟨k, rfl⟩ | ⟨k, rfl⟩⟩
      · simp
        exact ⟨⟨by simp [e0], by simp [e3], by simp [e4], by simp [e5], rfl, rfl⟩, by simp [k]⟩
      · simp
        exact ⟨hle, hb3 (by simp [h, k])⟩
  clear e0 e3 e4 e5
  clear e
  rintro ⟨e, ds⟩ H1 ⟨⟨e0, e3, e4, e5, rfl, rfl⟩, k3⟩
  dsimp only at e0 e3 e4 e5
  have hb4 : (!branches en || inR en.els u.blocks.length) = false → wfEnd u en = false ∧ Bad (errEnd u en) b a (.panic (faultV b a 5)) := fun h => ⟨by simp only [wfEnd, h, Bool.and_false, Bool.false_and], .of (by simp only [errEnd, k1, k2', k3, h, Bool.and_false]; rfl) (by omega)⟩
  refine CW.cut (fun s' H' => eM2 en r q3 H1 s' H' ∧ (!branches en || inR en.els u.blocks.length) = true) ?_ ?_
  · refine CW.walk1 hX mixed d119 rfl ?_
    simp [e0, e3, e4, e5, m3, mr', d119]
    refine ⟨fun h => ?_, fun h => ?_⟩
    · refine (must_c hX u b a 5 r _ _ mr).k ?_
      rintro x H4 ⟨rfl, ⟨k, rfl⟩ | ⟨k, rfl⟩⟩
      · simp
        exact ⟨⟨by simp [e0], by simp [e3], by simp [e4], by simp [e5], rfl, rfl⟩, by simp [h]⟩
      · cases k
    · refine (within_c hX en.els u.blocks.length _).k ?_
      rintro x H4 ⟨rfl, rfl⟩
      simp
      refine (must_c hX u b a 5 r _ _ mr).k ?_
      rintro x H5 ⟨rfl, ⟨k, rfl⟩ | ⟨k, rfl⟩⟩
      · simp
        exact ⟨⟨by simp [e0], by simp [e3], by simp [e4], by simp [e5], rfl, rfl⟩, by simp [k]⟩
      · simp
        exact ⟨hle, hb4 (by simp [h, k])⟩
  clear e0 e3 e4 e5
  clear e
  rintro ⟨e, ds⟩ H2 ⟨⟨e0, e3, e4, e5, rfl, rfl⟩, k4⟩
  dsimp only at e0 e3 e4 e5
  refine CW.walk1 hX mixed d119 rfl ?_
  simp [e0, e3, e4, e5, m3]
  have hw : wfEnd u en = ((decide (en.kind ≠ 1) || decide (en.a = 0)) && (goes en || decide (en.to = 0)) && (branches en || decide (en.els = 0))) := by simp only [wfEnd, k1, k2', k3, k4, Bool.true_and]
  have hwb : wfEnd u en = false → Bad (errEnd u en) b a (.panic (faultV b a 4)) := fun h => by
    rw [hw] at h
    exact .of (by simp only [errEnd, k1, k2', k3, k4, h, Bool.and_self]; rfl) (by omega)
  have hwc : ∀ {x : CE}, x = .panic (faultV b a 4) → wfEnd u en = false → wfEnd u en = false ∧ Bad (errEnd u en) b a x := fun hx h => ⟨h, by rw [hx]; exact hwb h⟩
  clear hb1 hb3 hb4 k1 k2 k2' k3 k4 mr' hwb
  repeat' (first | intro _ | apply And.intro)
  all_goals
    refine (must_c hX u b a 4 r _ _ mr).k ?_
    rintro x H3 ⟨rfl, ⟨k, rfl⟩ | ⟨k, rfl⟩⟩
    · first
        | (exfalso; revert k; simp; done)
        | (simp [decide_beq, decide_bne] at k ⊢; exact ⟨hle, .inl (by rw [hw]; simp [*])⟩)
        | (simp; exact ⟨hle, .inl (by rw [hw]; simp [*])⟩)
    · first
        | (exfalso; revert k; simp; done)
        | (simp [decide_beq, decide_bne] at k ⊢; exact ⟨hle, hwc rfl (by rw [hw]; simp [*])⟩)
        | (simp; exact ⟨hle, hwc rfl (by rw [hw]; simp [*])⟩)
end Go.Cl
