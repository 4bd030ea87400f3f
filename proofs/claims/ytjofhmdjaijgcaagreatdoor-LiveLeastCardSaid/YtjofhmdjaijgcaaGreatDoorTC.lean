/- DERIVED HERE. right, of, At, In, All on frozen units. -/
import Derived.Test.YtjofhmdjaijgcaaGreatDoorTB
set_option linter.unusedSimpArgs false
set_option linter.unusedVariables false
namespace Go.Cl
open Go.Proofs
variable {W : World} {G : Nat → CV}
set_option maxRecDepth 8000
theorem fz1 {H : Hp} {x y : CV} (h : Fz H x y) : ∀ (i : Nat) a b, [x][i]? = some a → [y][i]? = some b → Fz H a b := by
  intro i a b ha hb
  cases i with
  | zero => simp at ha hb; subst ha; subst hb; exact h
  | succ i => simp at ha
theorem fz2 {H : Hp} {x y x' y' : CV} (h : Fz H x y) (h' : Fz H x' y') : ∀ (i : Nat) a b, [x, x'][i]? = some a → [y, y'][i]? = some b → Fz H a b := by
  intro i a b ha hb
  rcases i with _|_|i
  · simp at ha hb; subst ha; subst hb; exact h
  · simp at ha hb; subst ha; subst hb; exact h'
  · simp at ha
theorem fz3 {H : Hp} {x y x' y' x'' y'' : CV} (h : Fz H x y) (h' : Fz H x' y') (h'' : Fz H x'' y'') : ∀ (i : Nat) a b, [x, x', x''][i]? = some a → [y, y', y''][i]? = some b → Fz H a b := by
  intro i a b ha hb
  rcases i with _|_|_|i
  · simp at ha hb; subst ha; subst hb; exact h
  · simp at ha hb; subst ha; subst hb; exact h'
  · simp at ha hb; subst ha; subst hb; exact h''
  · simp at ha
theorem check_f (hX : CxOk (cx W G)) (hG : G 0 = .iptr formsC) {u : UUnit} (hu : UOk u) {H : Hp} {cs : List CV} (hf : Fz H (.agg cs) (.agg (unitC u))) : CC Tryz.prog W 24 [.agg cs] H fun x H' => (∃ er, x = .ret (ci er) ∧ (er = 0 ↔ wfU u = true)) ∧ H' = H := by
  refine (CC.freeze (args' := [.agg (unitC u)]) (R := fun v => ∃ er, v = ci er ∧ (er = 0 ↔ wfU u = true)) (by rfl) (fz1 hf) (by rintro v ⟨er, rfl, _⟩; simp [plainV]) fun w hw => ?_).mono ?_
  · exact (check_c (W := w) (CxOk.later hX hw) hG u hu _).mono fun x H' ⟨⟨er, h1, h2⟩, _⟩ => ⟨_, h1, er, rfl, h2⟩
  · rintro x H' ⟨v, rfl, ⟨er, rfl, h⟩, rfl⟩
    exact ⟨⟨er, rfl, h⟩, rfl⟩
theorem check_ef (hX : CxOk (cx W G)) (hG : G 0 = .iptr formsC) {u : UUnit} (hu : UOk u) {H : Hp} {cs : List CV} (hf : Fz H (.agg cs) (.agg (unitC u))) : CC Tryz.prog W 24 [.agg cs] H fun x H' => x = .ret (ci (errU u)) ∧ H' = H := by
  refine (CC.freeze (args' := [.agg (unitC u)]) (R := fun v => v = ci (errU u)) (by rfl) (fz1 hf) (by rintro v rfl; simp [plainV]) fun w hw => ?_).mono ?_
  · exact (check_e (W := w) (CxOk.later hX hw) hG u hu _).mono fun x H' ⟨h1, _⟩ => ⟨_, h1, rfl⟩
  · rintro x H' ⟨v, rfl, rfl, rfl⟩
    exact ⟨rfl, rfl⟩
theorem right_c (hX : CxOk (cx W G)) (hG : G 0 = .iptr formsC) (u : UUnit) (hu : CutOk u) (H : Hp) : CC Tryz.prog W 7 [.agg (unitC u)] H fun x H' => x = .ret (.bool (wfU u)) ∧ H' = H := by
  refine CC.shrink ?_
  refine CC.of_ev hX mixed d7 Tryz.func7 rfl rfl (Nat.le_of_ble_eq_true rfl) d7_ok ?_
  simp [Tryz.f7, d7, unitC]
  intro q1 hq1
  have hc := copy_c hX u hu (H.set q1 (.cells (unitC u)))
  simp only [unitC] at hc
  refine hc.k ?_
  rintro x H2 ⟨cs, rfl, hle, huv⟩
  simp
  refine (check_f hX hG (cutOk_uok hu) huv.f).k ?_
  rintro x H3 ⟨⟨er, rfl, her⟩, rfl⟩
  simp
  refine ⟨(Le.set_new hq1).trans hle, ?_⟩
  by_cases h : er = 0
  · simp [h, her.1 h]
  · cases hw : wfU u
    · simp [h]
    · exact absurd (her.2 hw) h
theorem right_f (hX : CxOk (cx W G)) (hG : G 0 = .iptr formsC) {u : UUnit} (hu : CutOk u) {H : Hp} {cs : List CV} (hf : Fz H (.agg cs) (.agg (unitC u))) : CC Tryz.prog W 7 [.agg cs] H fun x H' => x = .ret (.bool (wfU u)) ∧ H' = H := by
  refine (CC.freeze (args' := [.agg (unitC u)]) (R := fun v => v = .bool (wfU u)) (by rfl) (fz1 hf) (by rintro v rfl; simp [plainV]) fun w hw => ?_).mono ?_
  · exact (right_c (W := w) (CxOk.later hX hw) hG u hu _).mono fun x H' ⟨h1, _⟩ => ⟨_, h1, rfl⟩
  · rintro x H' ⟨v, rfl, rfl, rfl⟩
    exact ⟨rfl, rfl⟩
theorem list_h (hX : CxOk (cx W G)) (m r c : Nat) (f : Nat → Bool) (hm : m ≤ 64) (hc : m ≤ c) {H : Hp} (hr : H r = some (.cells (setC m f))) : CC Tryz.prog W 29 [.ref r 0 m c] H fun x H' => ∃ v, x = .ret v ∧ Le H H' ∧ SlN H H' v (upto f (64 * m)) := by
  refine (CC.freeze3 (args' := [.sl 1 (setS m f)]) (R := fun x H' => ∃ v, x = .ret v ∧ SlF H' v (upto f (64 * m))) (by rfl) (fz1 (fz_set hr hc)) (by rintro x H' ⟨v, rfl, h⟩; exact h.free) fun w hw => ?_).mono ?_
  · exact (list_c (W := w) (CxOk.later hX hw) m f hm _).mono fun x H' ⟨v, h1, h2⟩ => ⟨v, h1, h2.slF⟩
  · rintro x H2 ⟨H', ⟨v, rfl, h⟩, h1, h2, h3⟩
    exact ⟨v, rfl, h1, h.wk.slN h3 h2⟩
theorem wf_uok {u : UUnit} (h : wfU u = true) : UOk u := by
  have h1 := wfU_facts h
  have h0 := h
  simp only [wfU, wfHead, Bool.and_eq_true, decide_eq_true_eq] at h0
  refine ⟨by omega, by omega, fun b hb => ?_, fun b _ o _ => by simp only [Kd]; omega⟩
  obtain ⟨i, hi, hbi⟩ := List.mem_iff_getElem.1 hb
  have := (wfB_facts h (b := i) (k := b) (by rw [List.getElem?_eq_getElem hi, hbi])).2.1
  omega
theorem liveOf_c (hX : CxOk (cx W G)) (hG : G 0 = .iptr formsC) (u : UUnit) (hu : wfU u = true) (H : Hp) : CC Tryz.prog W 28 [.agg (unitC u)] H fun x H' => ∃ lp rr rc ri ci' σ ex p c I, x = .ret (.tuple [.ptr lp 0, ci 0]) ∧ Le H H' ∧ PLeast (opsOf u) p c ∧ LLeast u p I ∧ Bnd u I ∧ LH H' lp rr rc ri ci' σ ex u p c I := by
  refine CC.of_ev hX mixed d28 Tryz.func28 rfl rfl (Nat.le_of_ble_eq_true rfl) d28_ok ?_
  simp [Tryz.f28, d28, unitC]
  intro q1 hq1
  have hc := check_c hX hG u (wf_uok hu) (H.set q1 (.cells (unitC u)))
  simp only [unitC] at hc
  refine hc.k ?_
  rintro x H2 ⟨⟨er, rfl, her⟩, rfl⟩
  have he0 := her.2 hu
  subst he0
  simp
  have hn := new_c hX hG u hu (H.set q1 (.cells (unitC u)))
  simp only [unitC] at hn
  refine hn.k ?_
  rintro x H3 ⟨lp, rr, rc, ri, ci', σ, ex, p, c, I, rfl, hle, hp, hl, hb, hL⟩
  simp
  exact ⟨(Le.set_new hq1).trans hle, rr, rc, ri, ci', σ, ex, p, c, hp, I, hl, hb, hL⟩
theorem place_c (hX : CxOk (cx W G)) (u : UUnit) (b i : Nat) (k : UBlk) (hk : u.blocks[b]? = some k) (hi : i ≤ k.ops.length) (H : Hp) : CC Tryz.prog W 43 [.agg (unitC u), .int .i64 b, .int .i64 i] H fun x H' => x = .ret (ci 0) ∧ H' = H := by
  refine CC.shrink ?_
  refine CC.of_ev hX mixed d43 Tryz.func43 rfl rfl (Nat.le_of_ble_eq_true rfl) d43_ok ?_
  have hb := (List.getElem?_eq_some_iff.1 hk).1
  obtain ⟨hb', hke⟩ := List.getElem?_eq_some_iff.1 hk
  have hb2 : ¬ (u.blocks.length ≤ b) := by omega
  have hi2 : ¬ (k.ops.length < i) := by omega
  have hbn : ¬ ((b : Int) < 0) := by omega
  have hin : ¬ ((i : Int) < 0) := by omega
  simp (config := {maxSteps := 4000000}) [Tryz.f43, d43, unitC, hb, hke, blkC, hi, hb2, hi2, hbn, hin]
  exact fun r hr => Le.set_new hr
theorem at13_c (hX : CxOk (cx W G)) (hG : G 0 = .iptr formsC) (u : UUnit) (hu : wfU u = true) (b i : Nat) (k : UBlk) (hk : u.blocks[b]? = some k) (hi : i ≤ k.ops.length) (H : Hp) : CC Tryz.prog W 21 [.agg (unitC u), .int .i64 b, .int .i64 i] H fun x H' => ∃ p c I v, PLeast (opsOf u) p c ∧ LLeast u p I ∧ Bnd u I ∧ x = .ret (.tuple [v, ci 0]) ∧ Le H H' ∧ SlF H' v (upto (beforeP u p I k (k.ops.drop i)) (64 * mOf u)) := by
  obtain ⟨f1, f2, f3, f4, f5, f6, f7, f8, f9, f10, f11⟩ := wfU_facts hu
  refine CC.of_cw hX Tryz.func21 rfl rfl (Nat.le_of_ble_eq_true rfl) ?_
  refine CW.walk hX mixed d21 rfl ?_
  simp
  intro q3 hq3
  refine CW.walk hX mixed d21 rfl ?_
  simp [unitC]
  have hc := liveOf_c hX hG u hu (H.set q3 (.cells (unitC u)))
  simp only [unitC] at hc
  refine hc.k ?_
  rintro x H2 ⟨lp, rr, rc, ri, ci', σ, ex, p, c, I, rfl, hle, hp, hl, hbd, hL⟩
  have m3 := hle q3 _ set_at
  simp
  refine CW.walk hX mixed d21 rfl ?_
  simp [m3]
  have hpl := place_c hX u b i k hk hi H2
  simp only [unitC] at hpl
  refine hpl.k ?_
  rintro x H3 ⟨rfl, rfl⟩
  simp
  refine CW.walk hX mixed d21 rfl ?_
  simp
  refine CW.walk1 hX mixed d21 rfl ?_
  simp
  refine (at_h hX hG u hu hL b k hk i hi).k ?_
  rintro x H4 ⟨r, hr, rfl, rfl⟩
  simp
  refine (list_h hX (mOf u) r (mOf u) _ f10 (Nat.le_refl _) set_at).k ?_
  rintro x H5 ⟨v, rfl, hle5, hv⟩
  simp
  exact ⟨p, ⟨c, hp⟩, I, hl, hbd, (((Le.set_new hq3).trans hle).trans (Le.set_new hr)).trans hle5, hv.slF⟩
theorem in18_c (hX : CxOk (cx W G)) (hG : G 0 = .iptr formsC) (u : UUnit) (hu : wfU u = true) (b : Nat) (k : UBlk) (hk : u.blocks[b]? = some k) (H : Hp) : CC Tryz.prog W 25 [.agg (unitC u), .int .i64 b] H fun x H' => ∃ p c I v, PLeast (opsOf u) p c ∧ LLeast u p I ∧ Bnd u I ∧ x = .ret (.tuple [v, ci 0]) ∧ Le H H' ∧ SlF H' v (upto (beforeP u p I k k.ops) (64 * mOf u)) := by
  refine CC.of_ev hX mixed d25 Tryz.func25 rfl rfl (Nat.le_of_ble_eq_true rfl) d25_ok ?_
  simp [Tryz.f25, d25, unitC]
  intro q2 hq2
  have hc := at13_c hX hG u hu b 0 k hk (Nat.zero_le _) (H.set q2 (.cells (unitC u)))
  simp only [unitC, List.drop_zero] at hc
  refine hc.k ?_
  rintro x H2 ⟨p, c, I, v, hp, hl, hbd, rfl, hle, hv⟩
  simp
  exact ⟨p, ⟨c, hp⟩, I, hl, hbd, (Le.set_new hq2).trans hle, hv⟩
structure aI (H2 : Hp) (u : UUnit) (I : Nat → Nat → Bool) (ri ci' : Nat) (j : Nat) (s' : CA) (H' : Hp) : Prop where
  ex : ∃ i v E B, i ≤ u.blocks.length ∧ j = u.blocks.length - i ∧ s'.env 20 = .ref ri 0 u.blocks.length ci' ∧ s'.env 21 = .int .i64 u.blocks.length ∧ s'.env 22 = .int .i64 i ∧ s'.env 6 = v ∧ s'.ds = [] ∧ Le H2 B ∧ Own B H' v 1 E ∧ E.length = i ∧ ∀ j e, E[j]? = some e → ∃ w, e = [w] ∧ SlF B w (upto (I j) (64 * mOf u))
theorem all17_c (hX : CxOk (cx W G)) (hG : G 0 = .iptr formsC) (u : UUnit) (hu : wfU u = true) (H : Hp) : CC Tryz.prog W 10 [.agg (unitC u)] H fun x H' => ∃ p c I v, PLeast (opsOf u) p c ∧ LLeast u p I ∧ Bnd u I ∧ x = .ret (.tuple [v, ci 0]) ∧ Le H H' ∧ AllF H' v ((List.range u.blocks.length).map fun b => upto (I b) (64 * mOf u)) := by
  obtain ⟨f1, f2, f3, f4, f5, f6, f7, f8, f9, f10, f11⟩ := wfU_facts hu
  refine CC.of_cw hX Tryz.func10 rfl rfl (Nat.le_of_ble_eq_true rfl) ?_
  refine CW.walk hX mixed d10 rfl ?_
  simp
  intro q1 hq1
  refine CW.walk hX mixed d10 rfl ?_
  simp [unitC]
  have hc := liveOf_c hX hG u hu (H.set q1 (.cells (unitC u)))
  simp only [unitC] at hc
  refine hc.k ?_
  rintro x H2 ⟨lp, rr, rc, ri, ci', σ, ex, p, c, I, rfl, hle, hp, hl, hbd, hL⟩
  simp
  refine CW.walk hX mixed d10 rfl ?_
  simp
  refine CW.walk hX mixed d10 rfl ?_
  simp
  have nl := hL.l
  simp only [unitC] at nl
  refine CW.cut (aI H2 u I ri ci' 0) ?_ ?_
  · refine CW.walk hX mixed d10 rfl ?_
    simp [nl]
    refine CW.walk1 hX mixed d10 rfl ?_
    simp
    refine CW.loop (aI H2 u I ri ci') ?_ (m := u.blocks.length) ⟨0, .nilsl, [], H2, by omega, by omega, by simp, by simp, by simp, by simp, rfl, Le.refl _, Own.nil (Le.refl _), rfl, fun j e he => by simp at he⟩
    rintro j ⟨e, ds⟩ H' ⟨i, v, E, B, hi, rfl, e20, e21, e22, e6, rfl, hB, hown, hE, hel⟩
    dsimp only at e20 e21 e22 e6
    have hL' := (hL.mono hB).mono hown.le
    refine vw_sound hX mixed (D := d10) _ _ _ _ (by kernel_rfl) ?_
    by_cases hil : i < u.blocks.length
    · have hget : (refsC u.blocks.length (mOf u) σ ++ ex)[i]? = some (.ref (σ i) 0 (mOf u) (mOf u)) := by rw [List.getElem?_append_left (by rw [refsC_len]; exact hil), refsC_get hil]
      simp [e20, e21, e22, e6, hil, hL'.i, hget]
      refine (list_h hX (mOf u) (σ i) (mOf u) _ f10 (Nat.le_refl _) (hL'.s i hil)).k ?_
      rintro x H3 ⟨w, rfl, hle3, hw⟩
      have hws : w.stor = true ∧ w.cells = [w] := by rcases hw with ⟨rfl, _⟩ | ⟨r, c, cs, rfl, _⟩ <;> exact ⟨rfl, rfl⟩
      simp only [CV.stor, CV.cells] at hws
      obtain ⟨B', hBB, hown3, hwB⟩ := hown.both2 hle3 hw
      simp [e20, e21, e22, e6, cfill, hws, -vcAppend]
      intro r hr
      refine (hown3.more hr).append2 (ys := [[w]]) (by simp) (by simp; omega) (src_one set_at rfl) fun v' H4 how4 _ => ?_
      simp [e20, e21, e22, e6]
      refine ⟨u.blocks.length - (i + 1), by omega, i + 1, v', E ++ [[w]], B', by omega, rfl, by simp [e20], by simp [e21], by simp; rw [wrapI (by omega) (by omega)], by simp, rfl, hB.trans hBB, how4, by simp [hE], ?_⟩
      intro j e he
      rcases Nat.lt_or_ge j E.length with h | h
      · rw [List.getElem?_append_left h] at he
        obtain ⟨x0, h1, h2⟩ := hel j e he
        exact ⟨x0, h1, h2.mono hBB⟩
      · rw [List.getElem?_append_right h] at he
        have hj : j - E.length = 0 := by
          rcases hjj : j - E.length with _ | m
          · rfl
          · rw [hjj] at he; simp at he
        rw [hj] at he
        simp at he
        have hji : j = i := by omega
        subst hji
        exact ⟨w, he.symm, hwB⟩
    · have : i = u.blocks.length := by omega
      subst this
      simp [e20, e21, e22, e6]
      exact ⟨u.blocks.length, v, E, B, hi, by omega, by simp [e20], by simp [e21], by simp [e22], by simp [e6], rfl, hB, hown, hE, hel⟩
  rintro ⟨e, ds⟩ H' ⟨i, v, E, B, hi, hj, e20, e21, e22, e6, rfl, hB, hown, hE, hel⟩
  dsimp only at e20 e21 e22 e6
  have hi' : i = u.blocks.length := by omega
  refine CW.walk1 hX mixed d10 rfl ?_
  simp [e6]
  refine ⟨p, ⟨c, hp⟩, I, hl, hbd, ((Le.set_new hq1).trans hle).trans (hB.trans hown.le), ?_⟩
  obtain ⟨hBl, hz, ⟨rfl, rfl⟩ | ⟨r, c2, ex2, rfl, h2, h3, h4⟩⟩ := hown
  · exfalso
    simp at hE
    omega
  · refine .inr ⟨r, c2, _, by rw [hE, hi']; simp, h3, fun j l hj => ?_⟩
    have hjl : j < u.blocks.length := by have := (List.getElem?_eq_some_iff.1 hj).1; simpa using this
    rw [List.getElem?_map, List.getElem?_range hjl] at hj
    injection hj with hj
    have hje : j < E.length := by omega
    obtain ⟨w, h5, h6⟩ := hel j _ (List.getElem?_eq_getElem hje)
    refine ⟨w, ?_, by rw [← hj]; exact h6.mono hBl⟩
    have := flat_get (j := 0) hz (List.getElem?_eq_getElem hje) (by omega)
    rw [show j * 1 + 0 = j by omega] at this
    rw [List.getElem?_append_left (by rw [flat_len hz]; omega), this, h5]
    rfl
end Go.Cl
