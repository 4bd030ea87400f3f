/- DERIVED HERE. GuardAlls: the law. -/
import Derived.Test.YtiohgpapgkjfiaaGreatDoorGUd
set_option linter.unusedSimpArgs false
set_option linter.unusedVariables false
namespace Go.Cl.Gu
open Go.Proofs Go.Cl.Gd
variable {W : World} {G : Nat → CV}
set_option maxRecDepth 8000
set_option maxHeartbeats 1000000
structure taM (H1 : Hp) (size f : Int) (q5 q6 q7 : Nat) (s' : CA) (H' : Hp) : Prop where
  e1 : s'.env 1 = ci size
  e5 : s'.env 5 = .ptr q5 0
  e6 : s'.env 6 = .ptr q6 0
  e7 : s'.env 7 = .ptr q7 0
  e8 : s'.env 8 = ci f
  e9 : s'.env 9 = ci f
  ds : s'.ds = []
  h : H' = H1
theorem guardAlls_c (hX : CxOk (cx W G)) (hG : G 0 = .iptr formsC) (u0 : UUnit) (size : Int) (H : Hp) : CC Tryz.prog W 6 [.agg (unitC u0), ci size] H fun x H' => x = .ret (.bool true) ∧ H' = H := by
  refine CC.shrink ?_
  refine CC.of_cw hX Tryz.func6 rfl rfl (Nat.le_of_ble_eq_true rfl) ?_
  refine CW.walk hX mixed d6 rfl ?_
  simp
  intro q2 hq2
  have hle1 : Le H (H.set q2 (.cells (unitC u0))) := Le.set_new hq2
  have m2 : (H.set q2 (.cells (unitC u0))) q2 = some (.cells (unitC u0)) := set_at
  generalize H.set q2 _ = H1 at hle1 m2 ⊢
  have hc := fun H => cut16_c hX u0 H
  have hok := cut16_ok u0
  simp only [unitC] at m2 hc
  refine CW.walk hX mixed d6 rfl ?_
  simp [d6, m2]
  refine (hc H1).k ?_
  rintro x H2 ⟨csO, rfl, hle2, hvO⟩
  simp [d6, hle2 _ _ m2]
  refine ⟨stabI_le rfl hle2, ?_⟩
  refine (hc H2).k ?_
  rintro x H3 ⟨csG, rfl, hle3, hvG⟩
  have hvO := hvO.mono hle3
  have hle := (hle1.trans hle2).trans hle3
  clear hc m2 hle1 hle2 hle3
  generalize hcu : cutU u0 16 60 = u at hvO hvG hok
  have hUO := cutOk_uok hok
  have hs : u.sizes.length ≤ 1000000 := by have := hok.sz; omega
  obtain ⟨o0, o5, rfl, hbO⟩ := hvO.b
  obtain ⟨g0, g5, rfl, hbG⟩ := hvG.b
  simp [d6]
  intro q5 hq5 q6 h65 h56 hq6
  simp [h56, h65]
  generalize hH4 : Hp.set (Hp.set (Hp.set (Hp.set H3 q5 _) q6 _) q5 _) q6 _ = H4
  have m5 : H4 q5 = some (.cells [o0, ci u.params, ci u.regs, ci u.code, ci u.spill, o5]) := by rw [← hH4, hset_ne h56]; exact set_at
  have m6 : H4 q6 = some (.cells [g0, ci u.params, ci u.regs, ci u.code, ci u.spill, g5]) := by rw [← hH4]; exact set_at
  have hle4 : Le H3 H4 := by
    rw [← hH4]
    exact (((Le.set_new hq5).trans (Le.set_new (by rw [hset_none_iff]; exact ⟨h65, hq6⟩))).put hq5).put hq6
  clear hH4
  have hvO := hvO.mono hle4
  have hvG := hvG.mono hle4
  have hle := hle.trans hle4
  clear hle4 hq5 hq6 hbO hbG
  refine CW.walk hX mixed d6 rfl ?_
  simp [m6]
  refine (allF_c hX hG u hUO hs size H4 _ hvG).k ?_
  rintro x H5 ⟨v, ⟨csv, rfl, hle5, hvv⟩, hve, hvA⟩
  have hl5 := hvv.l
  simp [hl5]
  intro q7 hq7
  have hle6 : Le H5 (H5.set q7 (.cells csv)) := Le.set_new hq7
  have m7 : (H5.set q7 (.cells csv)) q7 = some (.cells csv) := set_at
  generalize H5.set q7 _ = H6 at hle6 m7 ⊢
  have hle46 := hle5.trans hle6
  have m5 := hle46 _ _ m5
  have m6 := hle46 _ _ m6
  have hvO := hvO.mono hle46
  have hvG := hvG.mono hle46
  have hvv := hvv.mono hle6
  have hle := hle.trans hle46
  clear hle5 hle6 hle46 hq7
  refine CW.walk hX mixed d6 rfl ?_
  simp [m5]
  refine (check24_f hX hUO hvO.f).k ?_
  rintro x H7 ⟨rfl, rfl⟩
  simp
  refine CW.cut (taM H7 size (alE u size) q5 q6 q7) ?_ ?_
  · by_cases he : errU u = 0
    · by_cases hz : size < 0
      · have ea : alE u size = 2 := by simp [alE, he, hz]
        refine CW.walk1 hX mixed d6 rfl ?_
        simp [he, hz]
        rw [ea]
        exact ⟨by simp, by simp, by simp, by simp, by simp, by simp, rfl, rfl⟩
      · have ea : alE u size = 0 := by simp [alE, he, hz]
        refine CW.walk1 hX mixed d6 rfl ?_
        simp [he, hz]
        rw [ea]
        exact ⟨by simp, by simp, by simp, by simp, by simp, by simp, rfl, rfl⟩
    · have ea : alE u size = errU u := by simp [alE, he]
      refine CW.walk1 hX mixed d6 rfl ?_
      simp [he]
      rw [ea]
      exact ⟨by simp, by simp, by simp, by simp, by simp, by simp, rfl, rfl⟩
  rintro ⟨e, ds⟩ H8 ⟨e1, e5, e6, e7, e8, e9, hds, rfl⟩
  dsimp only at e1 e5 e6 e7 e8 e9 hds
  subst hds
  refine CW.walk hX mixed d6 rfl ?_
  simp [cfill]
  intro q10 hq10
  have m5' : ∀ o, (H8.set q10 o) q5 = _ := fun o => Le.set_new hq10 _ _ m5
  have m6' : ∀ o, (H8.set q10 o) q6 = _ := fun o => Le.set_new hq10 _ _ m6
  have m7' : ∀ o, (H8.set q10 o) q7 = _ := fun o => Le.set_new hq10 _ _ m7
  have hl : ∀ o, Le H8 (H8.set q10 o) := fun o => Le.set_new hq10
  refine CW.walk hX mixed d6 rfl ?_
  by_cases hE : alE u size = 0
  rotate_left
  · obtain rfl := hve hE
    simp [e9, hE]
    refine CW.walk1 hX mixed d6 rfl ?_
    simp [e5, e6, e7, e8, e9, m5', m6', m7', hl5]
    rw [List.take_of_length_le (by omega)]
    refine (lawSame_c hX (alE u size) (fun h => absurd h hE) (fun _ => rfl) (hvv.mono (hl _)) uv_zero).k ?_
    rintro x H9 ⟨rfl, rfl⟩
    simp [e5, e6, m5', m6']
    refine (same_f hX hok (hvO.mono (hl _)).f (hvG.mono (hl _)).f).k ?_
    rintro x H10 ⟨rfl, rfl⟩
    simp
    refine (alive_c hX hG _).k ?_
    rintro x H11 ⟨rfl, rfl⟩
    simp
    exact hle.trans (hl _)
  obtain ⟨hA, hwv, hsv⟩ := hvA hE
  have hw : wfU u = true := by
    rw [alE] at hE
    split at hE
    · rename_i h; exact absurd hE h
    · rename_i h; exact errU_wf.1 (Decidable.byContradiction h)
  have hbl := hok.bl
  have hrc := (refAll_c hX size u hw hbl H8 _ hvO).frame (ob := .cells zeroV) hq10
  simp [e1, e5, e9, hE, m5']
  refine hrc.k ?_
  rintro x _ ⟨K8, hK8, rfl, csr, w, nn, rfl, hle8, hvr, hwr, hsr, hlr, hAr⟩
  obtain rfl := hA.det hAr
  have hl8 := hvr.l
  simp [hl8]
  have hl : ∀ o, Le K8 (K8.set q10 o) := fun o => Le.set_new hK8
  have m5 := fun o => hl o _ _ (hle8 _ _ m5)
  have m6 := fun o => hl o _ _ (hle8 _ _ m6)
  have m7 := fun o => hl o _ _ (hle8 _ _ m7)
  have hvO := fun o => (hvO.mono hle8).mono (hl o)
  have hvG := fun o => (hvG.mono hle8).mono (hl o)
  have hvv := fun o => (hvv.mono hle8).mono (hl o)
  refine CW.walk1 hX mixed d6 rfl ?_
  simp [e5, e6, e7, e8, e9, hE, m5, m6, m7, hl5, hl8]
  simp only [List.take_of_length_le (Nat.le_of_eq hl5), List.take_of_length_le (Nat.le_of_eq hl8)]
  refine (lawSame_c hX 0 (fun _ => cutOk_of hwv (by omega) (by have := hok.sz; rw [hsv]; omega)) (fun h => absurd rfl h) (hvv _) (hvr.mono (hl _))).k ?_
  rintro x H9 ⟨rfl, rfl⟩
  simp [e5, e6, m5, m6]
  refine (same_f hX hok (hvO _).f (hvG _).f).k ?_
  rintro x H10 ⟨rfl, rfl⟩
  simp
  refine (alive_c hX hG _).k ?_
  rintro x H11 ⟨rfl, rfl⟩
  simp
  exact (hle.trans hle8).trans (hl _)
end Go.Cl.Gu
