/- DERIVED HERE. The checker: an End. -/
import Derived.Test.YtfkdjajpopocpaaDoorCAB
set_option linter.unusedSimpArgs false
set_option linter.unusedVariables false
namespace Go.Cl
open Go.Proofs
variable {W : World} {G : Nat → CV}
set_option maxRecDepth 8000
structure eM1 (r q3 : Nat) (H1 : Hp) (s' : CA) (H' : Hp) : Prop where
  e0 : s'.env 0 = .ptr r 0
  e3 : s'.env 3 = .ptr q3 0
  d : s'.ds = []
  h : H' = H1
structure eM2 (e : UEnd) (r q3 : Nat) (H1 : Hp) (s' : CA) (H' : Hp) : Prop where
  e0 : s'.env 0 = .ptr r 0
  e3 : s'.env 3 = .ptr q3 0
  e4 : s'.env 4 = .bool (goes e)
  e5 : s'.env 5 = .bool (branches e)
  d : s'.ds = []
  h : H' = H1
theorem decide_beq (x y : Int) : (x == y) = decide (x = y) := by rw [Bool.eq_iff_iff]; simp
theorem decide_bne (x y : Int) : (x != y) = decide (x ≠ y) := by rw [Bool.eq_iff_iff]; simp
set_option maxHeartbeats 2000000 in
theorem endChk_c (hX : CxOk (cx W G)) (u : UUnit) (b a : Int) (r : Nat) (en : UEnd) (H : Hp) (hr : H r = some (.cells (chkC u b a))) : CC Tryd.prog W 101 [.ptr r 0, .agg (endC en)] H fun x H' => ((wfEnd u en = true ∧ x = .ret (.tuple [])) ∨ (wfEnd u en = false ∧ Bad b a x)) ∧ H' = H := by
  refine CC.shrink ?_
  refine CC.of_cw hX Tryd.func101 rfl rfl (Nat.le_of_ble_eq_true rfl) ?_
  refine CW.walk hX mixed d101 rfl ?_
  simp [endC]
  intro q3 hq3
  have hr3 : r ≠ q3 := fun e => by rw [← e, hr] at hq3; cases hq3
  generalize hH1 : H.set q3 _ = H1
  have hle : Le H H1 := by rw [← hH1]; exact Le.set_new hq3
  have m3 : H1 q3 = some (.cells (endC en)) := by rw [← hH1]; simp [endC]
  have mr := hle r _ hr
  clear hH1
  simp only [endC] at m3
  have mr' := mr
  simp only [chkC, unitC] at mr'
  have hb1 : (decide (1 ≤ en.kind) && decide (en.kind ≤ 4)) = false → wfEnd u en = false := fun h => by simp only [wfEnd, h, Bool.false_and]
  refine CW.cut (fun s' H' => eM1 r q3 H1 s' H' ∧ (decide (1 ≤ en.kind) && decide (en.kind ≤ 4)) = true) ?_ ?_
  · refine CW.walk1 hX mixed d101 rfl ?_
    simp [m3]
    refine ⟨fun h1 => ?_, fun h1 => ?_⟩
    · refine (must_c hX u b a 4 r _ _ mr).k ?_
      rintro x H3 ⟨rfl, ⟨k, rfl⟩ | ⟨k, rfl⟩⟩
      · simp at k ⊢
        exact ⟨⟨by simp, by simp, rfl, rfl⟩, h1, k⟩
      · simp at k ⊢
        exact ⟨hle, hb1 (by simp; omega), 4, by omega, rfl⟩
    · refine (must_c hX u b a 4 r _ _ mr).k ?_
      rintro x H3 ⟨rfl, ⟨k, rfl⟩ | ⟨k, rfl⟩⟩
      · cases k
      · simp at k ⊢
        exact ⟨hle, hb1 (by simp; omega), 4, by omega, rfl⟩
  rintro ⟨e, ds⟩ H' ⟨⟨e0, e3, rfl, rfl⟩, k1⟩
  dsimp only at e0 e3
  refine CW.cut (eM2 en r q3 H') ?_ ?_
  · refine CW.walk1 hX mixed d101 rfl ?_
    simp [e0, e3, m3, d101]
    refine ⟨fun h => ?_, fun h => ?_⟩
    · exact ⟨by simp [e0], by simp [e3], by simp [goes, h], by simp [branches, h], rfl, rfl⟩
    · exact ⟨by simp [e0], by simp [e3], by simp [goes, h, decide_beq], by simp [branches, decide_beq], rfl, rfl⟩
  clear e0 e3
  clear e
  rintro ⟨e, ds⟩ H1 ⟨e0, e3, e4, e5, rfl, rfl⟩
  dsimp only at e0 e3 e4 e5
  refine CW.walk hX mixed d101 rfl ?_
  simp [e0, e3, e4, e5, m3]
  refine (reg_c hX u b a r en.a _ _ mr).k ?_
  rintro x H3 ⟨rfl, ⟨k2, rfl⟩ | ⟨k2, rfl⟩⟩
  rotate_left
  · simp
    have k2' : (decide (en.kind = 1) || inR en.a u.regs) = false := by simpa [decide_bne] using k2
    exact ⟨hle, by simp only [wfEnd, k2', Bool.and_false, Bool.false_and], 2, by omega, rfl⟩
  have k2' : (decide (en.kind = 1) || inR en.a u.regs) = true := by simpa [decide_bne] using k2
  simp
  have hb3 : (!goes en || inR en.to u.blocks.length) = false → wfEnd u en = false := fun h => by simp only [wfEnd, h, Bool.and_false, Bool.false_and]
  refine CW.cut (fun s' H' => eM2 en r q3 H3 s' H' ∧ (!goes en || inR en.to u.blocks.length) = true) ?_ ?_
  · refine CW.walk1 hX mixed d101 rfl ?_
    simp [e0, e3, e4, e5, m3, mr', d101]
    refine ⟨fun h => ?_, fun h => ?_⟩
    · refine (must_c hX u b a 5 r _ _ mr).k ?_
      rintro x H4 ⟨rfl, ⟨k, rfl⟩ | ⟨k, rfl⟩⟩
      · simp
        exact ⟨⟨by simp [e0], by simp [e3], by simp [e4], by simp [e5], rfl, rfl⟩, by simp [h]⟩
      · cases k
    · refine (within_c hX en.to u.blocks.length _).k ?_
      rintro x H4 ⟨rfl, rfl⟩
      simp
      refine (must_c hX u b a 5 r _ _ mr).k ?_
      rintro x H5 ⟨rfl, ⟨k, rfl⟩ | ⟨k, rfl⟩⟩
      · simp
        exact ⟨⟨by simp [e0], by simp [e3], by simp [e4], by simp [e5], rfl, rfl⟩, by simp [k]⟩
      · simp
        exact ⟨hle, hb3 (by simp [h, k]), 5, by omega, rfl⟩
  clear e0 e3 e4 e5
  clear e
  rintro ⟨e, ds⟩ H1 ⟨⟨e0, e3, e4, e5, rfl, rfl⟩, k3⟩
  dsimp only at e0 e3 e4 e5
  have hb4 : (!branches en || inR en.els u.blocks.length) = false → wfEnd u en = false := fun h => by simp only [wfEnd, h, Bool.and_false, Bool.false_and]
  refine CW.cut (fun s' H' => eM2 en r q3 H1 s' H' ∧ (!branches en || inR en.els u.blocks.length) = true) ?_ ?_
  · refine CW.walk1 hX mixed d101 rfl ?_
    simp [e0, e3, e4, e5, m3, mr', d101]
    refine ⟨fun h => ?_, fun h => ?_⟩
    · refine (must_c hX u b a 5 r _ _ mr).k ?_
      rintro x H4 ⟨rfl, ⟨k, rfl⟩ | ⟨k, rfl⟩⟩
      · simp
        exact ⟨⟨by simp [e0], by simp [e3], by simp [e4], by simp [e5], rfl, rfl⟩, by simp [h]⟩
      · cases k
    · refine (within_c hX en.els u.blocks.length _).k ?_
      rintro x H4 ⟨rfl, rfl⟩
      simp
      refine (must_c hX u b a 5 r _ _ mr).k ?_
      rintro x H5 ⟨rfl, ⟨k, rfl⟩ | ⟨k, rfl⟩⟩
      · simp
        exact ⟨⟨by simp [e0], by simp [e3], by simp [e4], by simp [e5], rfl, rfl⟩, by simp [k]⟩
      · simp
        exact ⟨hle, hb4 (by simp [h, k]), 5, by omega, rfl⟩
  clear e0 e3 e4 e5
  clear e
  rintro ⟨e, ds⟩ H2 ⟨⟨e0, e3, e4, e5, rfl, rfl⟩, k4⟩
  dsimp only at e0 e3 e4 e5
  refine CW.walk1 hX mixed d101 rfl ?_
  simp [e0, e3, e4, e5, m3]
  have hw : wfEnd u en = ((decide (en.kind ≠ 1) || decide (en.a = 0)) && (goes en || decide (en.to = 0)) && (branches en || decide (en.els = 0))) := by simp only [wfEnd, k1, k2', k3, k4, Bool.true_and]
  clear hb1 hb3 hb4 k1 k2 k2' k3 k4 mr'
  repeat' (first | intro _ | apply And.intro)
  all_goals
    refine (must_c hX u b a 4 r _ _ mr).k ?_
    rintro x H3 ⟨rfl, ⟨k, rfl⟩ | ⟨k, rfl⟩⟩
    · first
        | (exfalso; revert k; simp; done)
        | (simp [decide_beq, decide_bne] at k ⊢; exact ⟨hle, .inl (by rw [hw]; simp [*])⟩)
        | (simp; exact ⟨hle, .inl (by rw [hw]; simp [*])⟩)
    · first
        | (exfalso; revert k; simp; done)
        | (simp [decide_beq, decide_bne] at k ⊢; exact ⟨hle, by rw [hw]; simp [*], 4, by omega, rfl⟩)
        | (simp; exact ⟨hle, by rw [hw]; simp [*], 4, by omega, rfl⟩)
end Go.Cl
