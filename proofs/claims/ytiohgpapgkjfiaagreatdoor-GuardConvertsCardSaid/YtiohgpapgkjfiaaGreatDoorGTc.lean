/- DERIVED HERE. GuardConverts: the law. -/
import Derived.Test.YtiohgpapgkjfiaaGreatDoorGUd
set_option linter.unusedSimpArgs false
set_option linter.unusedVariables false
namespace Go.Cl.Gu
open Go.Proofs Go.Cl.Gd
variable {W : World} {G : Nat → CV}
set_option maxRecDepth 8000
set_option maxHeartbeats 1000000
theorem cv_rc {u : UUnit} {n : Nat} (h : thereE u n = 0) : cvE u n = rcE u n ∧ cvU u n = rcU u n := by
  have e : cvE u n = rcE u n := by
    rw [cvE, if_neg (fun h' => h' h)]
    rfl
  exact ⟨e, by rw [cvU, rcU, e]; rfl⟩
theorem cv_cut {u : UUnit} (hok : CutOk u) {b : Int} (h : cvE u b = 0) : CutOk (cvU u b) := by
  rw [cvU, if_pos h]
  have hw : errU (convP u (ordC u) b.toNat) = 0 := by
    rw [cvE] at h
    split at h
    · rename_i h1; exact absurd h h1
    · split at h
      · cases h
      · split at h
        · cases h
        · rename_i h3; exact Decidable.byContradiction h3
  exact cutOk_of (errU_wf.1 hw) (by have := hok.bl; simp [convP]; omega) (by have := hok.sz; simp [convP]; omega)
theorem guardConverts_c (hX : CxOk (cx W G)) (hG : G 0 = .iptr formsC) (u0 : UUnit) (b : Int) (H : Hp) : CC Tryz.prog W 4 [.agg (unitC u0), ci b] H fun x H' => x = .ret (.bool true) ∧ H' = H := by
  refine CC.shrink ?_
  refine CC.of_cw hX Tryz.func4 rfl rfl (Nat.le_of_ble_eq_true rfl) ?_
  refine CW.walk hX mixed d4 rfl ?_
  simp
  intro q2 hq2
  have hle1 : Le H (H.set q2 (.cells (unitC u0))) := Le.set_new hq2
  have m2 : (H.set q2 (.cells (unitC u0))) q2 = some (.cells (unitC u0)) := set_at
  generalize H.set q2 _ = H1 at hle1 m2 ⊢
  have hc := fun H => cut16_c hX u0 H
  have hok := cut16_ok u0
  simp only [unitC] at m2 hc
  refine CW.walk hX mixed d4 rfl ?_
  simp [d4, m2]
  refine (hc H1).k ?_
  rintro x H2 ⟨csO, rfl, hle2, hvO⟩
  simp [d4, hle2 _ _ m2]
  refine ⟨stabI_le rfl hle2, ?_⟩
  refine (hc H2).k ?_
  rintro x H3 ⟨csG, rfl, hle3, hvG⟩
  have hvO := hvO.mono hle3
  have hle := (hle1.trans hle2).trans hle3
  clear hc m2 hle1 hle2 hle3
  generalize hcu : cutU u0 16 60 = u at hvO hvG hok
  have hUO := cutOk_uok hok
  have hs : u.sizes.length ≤ 1000000 := by have := hok.sz; omega
  obtain ⟨o0, o5, rfl, hbO⟩ := hvO.b
  obtain ⟨g0, g5, rfl, hbG⟩ := hvG.b
  simp [d4]
  intro q5 hq5 q6 h65 h56 hq6
  simp [h56, h65]
  generalize hH4 : Hp.set (Hp.set (Hp.set (Hp.set H3 q5 _) q6 _) q5 _) q6 _ = H4
  have m5 : H4 q5 = some (.cells [o0, ci u.params, ci u.regs, ci u.code, ci u.spill, o5]) := by rw [← hH4, hset_ne h56]; exact set_at
  have m6 : H4 q6 = some (.cells [g0, ci u.params, ci u.regs, ci u.code, ci u.spill, g5]) := by rw [← hH4]; exact set_at
  have hle4 : Le H3 H4 := by
    rw [← hH4]
    exact (((Le.set_new hq5).trans (Le.set_new (by rw [hset_none_iff]; exact ⟨h65, hq6⟩))).put hq5).put hq6
  clear hH4
  have hvO := hvO.mono hle4
  have hvG := hvG.mono hle4
  have hle := hle.trans hle4
  clear hle4 hq5 hq6 hbO hbG
  refine CW.walk hX mixed d4 rfl ?_
  simp [m6]
  refine (convertF_c hX hG u hUO hs b H4 _ hvG).k ?_
  rintro x H5 ⟨csv, rfl, hle5, hvv⟩
  have hl5 := hvv.l
  simp [hl5]
  intro q7 hq7
  have hle6 : Le H5 (H5.set q7 (.cells csv)) := Le.set_new hq7
  have m7 : (H5.set q7 (.cells csv)) q7 = some (.cells csv) := set_at
  generalize H5.set q7 _ = H6 at hle6 m7 ⊢
  have hle46 := hle5.trans hle6
  have m5 := hle46 _ _ m5
  have m6 := hle46 _ _ m6
  have hvO := hvO.mono hle46
  have hvG := hvG.mono hle46
  have hvv := hvv.mono hle6
  have hle := hle.trans hle46
  clear hle5 hle6 hle46 hq7
  refine CW.walk hX mixed d4 rfl ?_
  simp [m5, cfill]
  refine (there_f hX hUO hvO b).k ?_
  rintro x H7 ⟨rfl, rfl⟩
  simp
  intro q9 hq9
  have m59 : ∀ o, (H7.set q9 o) q5 = _ := fun o => Le.set_new hq9 _ _ m5
  have m69 : ∀ o, (H7.set q9 o) q6 = _ := fun o => Le.set_new hq9 _ _ m6
  have m79 : ∀ o, (H7.set q9 o) q7 = _ := fun o => Le.set_new hq9 _ _ m7
  refine CW.walk hX mixed d4 rfl ?_
  by_cases ht : thereE u b = 0
  rotate_left
  · have ec : cvE u b = thereE u b := by simp [cvE, ht]
    have hz : cvU u b = zeroU := by rw [cvU, if_neg (by rw [ec]; exact ht)]
    rw [hz] at hvv
    rw [ec]
    have hl : Le H7 (H7.set q9 (.cells zeroV)) := Le.set_new hq9
    simp [ht]
    refine CW.walk1 hX mixed d4 rfl ?_
    simp [m59, m69, m79, hl5]
    rw [List.take_of_length_le (by omega)]
    refine (lawSame_c hX (thereE u b) (fun h => absurd h ht) (fun _ => rfl) (hvv.mono hl) uv_zero).k ?_
    rintro x H8 ⟨rfl, rfl⟩
    simp [m59, m69]
    refine (same_f hX hok (hvO.mono hl).f (hvG.mono hl).f).k ?_
    rintro x H9 ⟨rfl, rfl⟩
    simp
    refine (alive_c hX hG _).k ?_
    rintro x H10 ⟨rfl, rfl⟩
    simp
    exact hle.trans hl
  obtain ⟨hw, n, rfl, hn⟩ := thereE_ok ht
  obtain ⟨ec, hcU⟩ := cv_rc ht
  have hbl := hok.bl
  have hrc := (refConvert_f hX hw hbl hn hvO.f).frame (ob := .cells zeroV) hq9
  simp [ht, m59]
  refine hrc.k ?_
  rintro x _ ⟨K8, hK8, rfl, csr, rfl, hle8, hvr⟩
  have hl8 := hvr.l
  simp [hl8]
  have hl : ∀ o, Le K8 (K8.set q9 o) := fun o => Le.set_new hK8
  rw [← hcU] at hvr
  rw [← ec]
  have m5 := fun o => hl o _ _ (hle8 _ _ m5)
  have m6 := fun o => hl o _ _ (hle8 _ _ m6)
  have m7 := fun o => hl o _ _ (hle8 _ _ m7)
  have hvO := fun o => (hvO.mono hle8).mono (hl o)
  have hvG := fun o => (hvG.mono hle8).mono (hl o)
  have hvv := fun o => (hvv.mono hle8).mono (hl o)
  refine CW.walk1 hX mixed d4 rfl ?_
  simp [m5, m6, m7, hl5, hl8]
  simp only [List.take_of_length_le (Nat.le_of_eq hl5), List.take_of_length_le (Nat.le_of_eq hl8)]
  refine (lawSame_c hX (cvE u n) (fun h => cv_cut hok h) (fun h => by rw [cvU, if_neg h]) (hvv _) (hvr.mono (hl _))).k ?_
  rintro x H8 ⟨rfl, rfl⟩
  simp [m5, m6]
  refine (same_f hX hok (hvO _).f (hvG _).f).k ?_
  rintro x H9 ⟨rfl, rfl⟩
  simp
  refine (alive_c hX hG _).k ?_
  rintro x H10 ⟨rfl, rfl⟩
  simp
  exact (hle.trans hle8).trans (hl _)
end Go.Cl.Gu
