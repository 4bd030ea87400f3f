/- DERIVED HERE. GuardJoins: the law. -/
import Derived.Test.YtiohgpapgkjfiaaGreatDoorGUd
set_option linter.unusedSimpArgs false
set_option linter.unusedVariables false
namespace Go.Cl.Gu
open Go.Proofs Go.Cl.Gd
variable {W : World} {G : Nat → CV}
set_option maxRecDepth 8000
set_option maxHeartbeats 1000000
theorem jn_rj {u : UUnit} {n : Nat} (h : thereE u n = 0) : jnE u n = rjE u n ∧ jnU u n = rjU u n := by
  have e : jnE u n = rjE u n := by
    rw [jnE, if_neg (fun h' => h' h)]
    rfl
  exact ⟨e, by rw [jnU, rjU, e]; rfl⟩
theorem jn_cut {u : UUnit} (hok : CutOk u) {b : Int} (h : jnE u b = 0) : CutOk (jnU u b) := by
  rw [jnU, if_pos h]
  have hw : errU (joinP u b.toNat) = 0 := by
    rw [jnE] at h
    split at h
    · rename_i h1; exact absurd h h1
    · split at h
      · cases h
      · split at h
        · cases h
        · rename_i h3; exact Decidable.byContradiction h3
  exact cutOk_of (errU_wf.1 hw) (by have := hok.bl; simp [joinP]; omega) (by have := hok.sz; simp [joinP]; omega)
structure tjE (q5 q6 q7 q9 q11 : Nat) (f g : Int) (s' : CA) : Prop where
  e5 : s'.env 5 = .ptr q5 0
  e6 : s'.env 6 = .ptr q6 0
  e7 : s'.env 7 = .ptr q7 0
  e8 : s'.env 8 = ci f
  e9 : s'.env 9 = .ptr q9 0
  e10 : s'.env 10 = ci g
  e11 : s'.env 11 = .ptr q11 0
  e12 : s'.env 12 = ci f
  ds : s'.ds = []
structure tjM (H7 : Hp) (q5 q6 q7 q9 q11 : Nat) (f g : Int) (w : UUnit) (s' : CA) (H' : Hp) : Prop where
  e : tjE q5 q6 q7 q9 q11 f g s'
  k : ∃ K cs, K q11 = none ∧ Le H7 K ∧ H' = K.set q11 (.cells cs) ∧ UV K cs w
structure tjN (H7 : Hp) (q5 q6 q7 q9 q11 q13 : Nat) (f g : Int) (w : UUnit) (s' : CA) (H' : Hp) : Prop where
  e : tjE q5 q6 q7 q9 q11 f g s'
  e13 : s'.env 13 = .ptr q13 0
  e14 : s'.env 14 = ci g
  k : ∃ K cs, K q13 = none ∧ Le H7 K ∧ H' = K.set q13 (.cells cs) ∧ UV K cs w
theorem guardJoins_c (hX : CxOk (cx W G)) (hG : G 0 = .iptr formsC) (u0 : UUnit) (b : Int) (H : Hp) : CC Tryz.prog W 7 [.agg (unitC u0), ci b] H fun x H' => x = .ret (.bool true) ∧ H' = H := by
  refine CC.shrink ?_
  refine CC.of_cw hX Tryz.func7 rfl rfl (Nat.le_of_ble_eq_true rfl) ?_
  refine CW.walk hX mixed d7 rfl ?_
  simp
  intro q2 hq2
  have hle1 : Le H (H.set q2 (.cells (unitC u0))) := Le.set_new hq2
  have m2 : (H.set q2 (.cells (unitC u0))) q2 = some (.cells (unitC u0)) := set_at
  generalize H.set q2 _ = H1 at hle1 m2 ⊢
  have hc := fun H => cut16_c hX u0 H
  have hok := cut16_ok u0
  simp only [unitC] at m2 hc
  refine CW.walk hX mixed d7 rfl ?_
  simp [d7, m2]
  refine (hc H1).k ?_
  rintro x H2 ⟨csO, rfl, hle2, hvO⟩
  simp [d7, hle2 _ _ m2]
  refine ⟨stabI_le rfl hle2, ?_⟩
  refine (hc H2).k ?_
  rintro x H3 ⟨csG, rfl, hle3, hvG⟩
  have hvO := hvO.mono hle3
  have hle := (hle1.trans hle2).trans hle3
  clear hc m2 hle1 hle2 hle3
  generalize hcu : cutU u0 16 60 = u at hvO hvG hok
  have hUO := cutOk_uok hok
  have hs : u.sizes.length ≤ 1000000 := by have := hok.sz; omega
  obtain ⟨o0, o5, rfl, hbO⟩ := hvO.b
  obtain ⟨g0, g5, rfl, hbG⟩ := hvG.b
  simp [d7]
  intro q5 hq5 q6 h65 h56 hq6
  simp [h56, h65]
  generalize hH4 : Hp.set (Hp.set (Hp.set (Hp.set H3 q5 _) q6 _) q5 _) q6 _ = H4
  have m5 : H4 q5 = some (.cells [o0, ci u.params, ci u.regs, ci u.code, ci u.spill, o5]) := by rw [← hH4, hset_ne h56]; exact set_at
  have m6 : H4 q6 = some (.cells [g0, ci u.params, ci u.regs, ci u.code, ci u.spill, g5]) := by rw [← hH4]; exact set_at
  have hle4 : Le H3 H4 := by
    rw [← hH4]
    exact (((Le.set_new hq5).trans (Le.set_new (by rw [hset_none_iff]; exact ⟨h65, hq6⟩))).put hq5).put hq6
  clear hH4
  have hvO := hvO.mono hle4
  have hvG := hvG.mono hle4
  have hle := hle.trans hle4
  clear hle4 hq5 hq6 hbO hbG
  have hbl := hok.bl
  refine CW.walk hX mixed d7 rfl ?_
  simp [m6]
  refine (joinF_c hX hG u hUO hs b H4 _ hvG).k ?_
  rintro x H5 ⟨csv, rfl, hle5, hvv⟩
  have hl5 := hvv.l
  simp [hl5]
  intro q7 hq7
  have hle6 : Le H5 (H5.set q7 (.cells csv)) := Le.set_new hq7
  have m7 : (H5.set q7 (.cells csv)) q7 = some (.cells csv) := set_at
  generalize H5.set q7 _ = H6 at hle6 m7 ⊢
  have hle46 := hle5.trans hle6
  have m5 := hle46 _ _ m5
  have m6 := hle46 _ _ m6
  have hvO := hvO.mono hle46
  have hvG := hvG.mono hle46
  have hvv := hvv.mono hle6
  have hle := hle.trans hle46
  clear hle5 hle6 hle46 hq7
  refine CW.walk hX mixed d7 rfl ?_
  simp [m6]
  refine (joinsF_c hX hG u hUO hs H6 _ hvG).k ?_
  rintro x H7 ⟨y, ⟨csy, rfl, hle7, hvy⟩, hye, hyA⟩
  have hly := hvy.l
  simp [hly]
  intro q9 hq9
  have hle8 : Le H7 (H7.set q9 (.cells csy)) := Le.set_new hq9
  have m9 : (H7.set q9 (.cells csy)) q9 = some (.cells csy) := set_at
  generalize H7.set q9 _ = H8 at hle8 m9 ⊢
  have hle78 := hle7.trans hle8
  have m5 := hle78 _ _ m5
  have m6 := hle78 _ _ m6
  have m7 := hle78 _ _ m7
  have hvO := hvO.mono hle78
  have hvG := hvG.mono hle78
  have hvv := hvv.mono hle78
  have hvy := hvy.mono hle8
  have hle := hle.trans hle78
  clear hle7 hle8 hle78 hq9
  refine CW.walk hX mixed d7 rfl ?_
  simp [m5, cfill]
  refine (there_f hX hUO hvO b).k ?_
  rintro x H9 ⟨rfl, rfl⟩
  simp
  intro q11 hq11
  have m5' : ∀ o, (H9.set q11 o) q5 = _ := fun o => Le.set_new hq11 _ _ m5
  refine CW.cut (tjM H9 q5 q6 q7 q9 q11 (jnE u b) (errU u) (jnU u b)) ?_ ?_
  · by_cases ht : thereE u b = 0
    · obtain ⟨hw, n, rfl, hn⟩ := thereE_ok ht
      obtain ⟨ec, hcU⟩ := jn_rj ht
      have hrc := (refJoin_f hX hw hbl hn hvO.f).frame (ob := .cells zeroV) hq11
      refine CW.walk1 hX mixed d7 rfl ?_
      simp [ht, m5']
      refine hrc.k ?_
      rintro x _ ⟨K, hK, rfl, csr, rfl, hleK, hvr⟩
      have hl8 := hvr.l
      simp [hl8]
      rw [ec, hcU]
      exact ⟨⟨by simp, by simp, by simp, by simp [ec], by simp, by simp, by simp, by simp, rfl⟩, K, csr, hK, hleK, by first | rfl | (rw [List.take_of_length_le (by omega)]), hvr⟩
    · have ec : jnE u b = thereE u b := by simp [jnE, ht]
      have hz : jnU u b = zeroU := by rw [jnU, if_neg (by rw [ec]; exact ht)]
      refine CW.walk1 hX mixed d7 rfl ?_
      simp [ht]
      rw [ec, hz]
      exact ⟨⟨by simp, by simp, by simp, by simp [ec], by simp, by simp, by simp, by simp, rfl⟩, H9, zeroV, hq11, Le.refl _, rfl, uv_zero⟩
  rintro ⟨e, ds⟩ _ ⟨⟨e5, e6, e7, e8, e9, e10, e11, e12, hds⟩, K, csw, hK, hleK, rfl, hvw⟩
  dsimp only at e5 e6 e7 e8 e9 e10 e11 e12 hds
  subst hds
  have hlw := hvw.l
  have hl : Le K (K.set q11 (.cells csw)) := Le.set_new hK
  have m11 : (K.set q11 (.cells csw)) q11 = some (.cells csw) := set_at
  have hleM := hleK.trans hl
  have hvw := hvw.mono hl
  generalize K.set q11 _ = HM at m11 hleM hvw ⊢
  have m5 := hleM _ _ m5
  have m6 := hleM _ _ m6
  have m7 := hleM _ _ m7
  have m9 := hleM _ _ m9
  have hvO := hvO.mono hleM
  have hvG := hvG.mono hleM
  have hvv := hvv.mono hleM
  have hvy := hvy.mono hleM
  have hle := hle.trans hleM
  clear hleM hl hleK hK m5' hq11
  refine CW.walk hX mixed d7 rfl ?_
  simp [e5, m5, cfill]
  refine (check24_f hX hUO hvO.f).k ?_
  rintro x H10 ⟨rfl, rfl⟩
  simp
  intro q13 hq13
  have m5' : ∀ o, (H10.set q13 o) q5 = _ := fun o => Le.set_new hq13 _ _ m5
  have hyc : errU u = 0 → CutOk y := fun he => by
    obtain ⟨hA, hwy, hsy⟩ := hyA he
    obtain ⟨p, c, hp⟩ := pleast_ex (opsOf u)
    have hly : ∀ {a b : UUnit}, AgR stepJoin a b → b.blocks.length = a.blocks.length := fun {a b} h => by
      induction h with
      | stop => rfl
      | go h _ ih =>
        obtain ⟨x, _, h⟩ := first_some h
        simp only [stepJoin] at h
        split at h
        · injection h with h; subst h; rw [ih]; simp [joinP]
        · cases h
    exact cutOk_of hwy (by rw [hly hA]; exact hbl) (by rw [hsy]; exact hok.sz)
  refine CW.cut (tjN H10 q5 q6 q7 q9 q11 q13 (jnE u b) (errU u) y) ?_ ?_
  · by_cases he : errU u = 0
    · have hw : wfU u = true := errU_wf.1 he
      obtain ⟨hA, _⟩ := hyA he
      have hrc := (refJoins_c hX u hw hbl H10 _ hvO).frame (ob := .cells zeroV) hq13
      refine CW.walk1 hX mixed d7 rfl ?_
      simp [he, e5, m5']
      refine hrc.k ?_
      rintro x _ ⟨K, hK, rfl, csr, w, nn, rfl, hleK, hvr, _, _, _, hAr⟩
      obtain rfl := hA.det hAr
      have hl8 := hvr.l
      simp [hl8]
      rw [he]
      exact ⟨⟨by simp [e5], by simp [e6], by simp [e7], by simp [e8], by simp [e9], by simp [e10, he], by simp [e11], by simp [e12], rfl⟩, by simp, by simp, K, csr, hK, hleK, by first | rfl | (rw [List.take_of_length_le (by omega)]), hvr⟩
    · obtain rfl := hye he
      refine CW.walk1 hX mixed d7 rfl ?_
      simp [he]
      exact ⟨⟨by simp [e5], by simp [e6], by simp [e7], by simp [e8], by simp [e9], by simp [e10], by simp [e11], by simp [e12], rfl⟩, by simp, by simp, H10, zeroV, hq13, Le.refl _, rfl, uv_zero⟩
  clear e5 e6 e7 e8 e9 e10 e11 e12
  rintro ⟨e, ds⟩ _ ⟨⟨e5, e6, e7, e8, e9, e10, e11, e12, hds⟩, e13, e14, K, csz, hK, hleK, rfl, hvz⟩
  dsimp only at e5 e6 e7 e8 e9 e10 e11 e12 e13 e14 hds
  subst hds
  have hlz := hvz.l
  have hl : Le K (K.set q13 (.cells csz)) := Le.set_new hK
  have m13 : (K.set q13 (.cells csz)) q13 = some (.cells csz) := set_at
  have hleM := hleK.trans hl
  have hvz := hvz.mono hl
  generalize K.set q13 _ = HN at m13 hleM hvz ⊢
  have m5 := hleM _ _ m5
  have m6 := hleM _ _ m6
  have m7 := hleM _ _ m7
  have m9 := hleM _ _ m9
  have m11 := hleM _ _ m11
  have hvO := hvO.mono hleM
  have hvG := hvG.mono hleM
  have hvv := hvv.mono hleM
  have hvy := hvy.mono hleM
  have hvw := hvw.mono hleM
  have hle := hle.trans hleM
  refine CW.walk1 hX mixed d7 rfl ?_
  simp [e5, e6, e7, e8, e9, e10, e11, e12, e13, e14, m5, m6, m7, m9, m11, m13, hl5, hly, hlw, hlz]
  simp only [List.take_of_length_le (Nat.le_of_eq hl5), List.take_of_length_le (Nat.le_of_eq hlw)]
  refine (lawSame_c hX (jnE u b) (fun h => jn_cut hok h) (fun h => by rw [jnU, if_neg h]) hvv hvw).k ?_
  rintro x H11 ⟨rfl, rfl⟩
  simp [e5, e6, e7, e8, e9, e10, e11, e12, e13, e14, m5, m6, m7, m9, m11, m13, hl5, hly, hlw, hlz]
  simp only [List.take_of_length_le (Nat.le_of_eq hly), List.take_of_length_le (Nat.le_of_eq hlz)]
  refine (lawSame_c hX (errU u) hyc hye hvy hvz).k ?_
  rintro x H12 ⟨rfl, rfl⟩
  simp [e5, e6, m5, m6]
  refine (same_f hX hok hvO.f hvG.f).k ?_
  rintro x H13 ⟨rfl, rfl⟩
  simp
  refine (alive_c hX hG _).k ?_
  rintro x H14 ⟨rfl, rfl⟩
  simp
  exact hle
end Go.Cl.Gu
