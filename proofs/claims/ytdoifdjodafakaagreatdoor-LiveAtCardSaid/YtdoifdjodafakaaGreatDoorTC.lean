/- DERIVED HERE. right, of, At, In, All on frozen units. -/
import Derived.Test.YtdoifdjodafakaaGreatDoorTB
set_option linter.unusedSimpArgs false
set_option linter.unusedVariables false
namespace Go.Cl
open Go.Proofs
variable {W : World} {G : Nat → CV}
set_option maxRecDepth 8000
theorem fz1 {H : Hp} {x y : CV} (h : Fz H x y) : ∀ (i : Nat) a b, [x][i]? = some a → [y][i]? = some b → Fz H a b := by
  intro i a b ha hb
  cases i with
  | zero => simp at ha hb; subst ha; subst hb; exact h
  | succ i => simp at ha
theorem fz2 {H : Hp} {x y x' y' : CV} (h : Fz H x y) (h' : Fz H x' y') : ∀ (i : Nat) a b, [x, x'][i]? = some a → [y, y'][i]? = some b → Fz H a b := by
  intro i a b ha hb
  rcases i with _|_|i
  · simp at ha hb; subst ha; subst hb; exact h
  · simp at ha hb; subst ha; subst hb; exact h'
  · simp at ha
theorem fz3 {H : Hp} {x y x' y' x'' y'' : CV} (h : Fz H x y) (h' : Fz H x' y') (h'' : Fz H x'' y'') : ∀ (i : Nat) a b, [x, x', x''][i]? = some a → [y, y', y''][i]? = some b → Fz H a b := by
  intro i a b ha hb
  rcases i with _|_|_|i
  · simp at ha hb; subst ha; subst hb; exact h
  · simp at ha hb; subst ha; subst hb; exact h'
  · simp at ha hb; subst ha; subst hb; exact h''
  · simp at ha
theorem check_f (hX : CxOk (cx W G)) (hG : G 0 = .iptr formsC) {u : UUnit} (hu : UOk u) {H : Hp} {cs : List CV} (hf : Fz H (.agg cs) (.agg (unitC u))) : CC Tryz.prog W 38 [.agg cs] H fun x H' => (∃ er, x = .ret (ci er) ∧ (er = 0 ↔ wfU u = true)) ∧ H' = H := by
  refine (CC.freeze (args' := [.agg (unitC u)]) (R := fun v => ∃ er, v = ci er ∧ (er = 0 ↔ wfU u = true)) (by rfl) (fz1 hf) (by rintro v ⟨er, rfl, _⟩; simp [plainV]) fun w hw => ?_).mono ?_
  · exact (check_c (W := w) (CxOk.later hX hw) hG u hu _).mono fun x H' ⟨⟨er, h1, h2⟩, _⟩ => ⟨_, h1, er, rfl, h2⟩
  · rintro x H' ⟨v, rfl, ⟨er, rfl, h⟩, rfl⟩
    exact ⟨⟨er, rfl, h⟩, rfl⟩
theorem check_ef (hX : CxOk (cx W G)) (hG : G 0 = .iptr formsC) {u : UUnit} (hu : UOk u) {H : Hp} {cs : List CV} (hf : Fz H (.agg cs) (.agg (unitC u))) : CC Tryz.prog W 38 [.agg cs] H fun x H' => x = .ret (ci (errU u)) ∧ H' = H := by
  refine (CC.freeze (args' := [.agg (unitC u)]) (R := fun v => v = ci (errU u)) (by rfl) (fz1 hf) (by rintro v rfl; simp [plainV]) fun w hw => ?_).mono ?_
  · exact (check_e (W := w) (CxOk.later hX hw) hG u hu _).mono fun x H' ⟨h1, _⟩ => ⟨_, h1, rfl⟩
  · rintro x H' ⟨v, rfl, rfl, rfl⟩
    exact ⟨rfl, rfl⟩
theorem list_h (hX : CxOk (cx W G)) (m r c : Nat) (f : Nat → Bool) (hm : m ≤ 64) (hc : m ≤ c) {H : Hp} (hr : H r = some (.cells (setC m f))) : CC Tryz.prog W 20 [.ref r 0 m c] H fun x H' => ∃ v, x = .ret v ∧ Le H H' ∧ SlN H H' v (upto f (64 * m)) := by
  refine (CC.freeze3 (args' := [.sl 1 (setS m f)]) (R := fun x H' => ∃ v, x = .ret v ∧ SlF H' v (upto f (64 * m))) (by rfl) (fz1 (fz_set hr hc)) (by rintro x H' ⟨v, rfl, h⟩; exact h.free) fun w hw => ?_).mono ?_
  · exact (list_c (W := w) (CxOk.later hX hw) m f hm _).mono fun x H' ⟨v, h1, h2⟩ => ⟨v, h1, h2.slF⟩
  · rintro x H2 ⟨H', ⟨v, rfl, h⟩, h1, h2, h3⟩
    exact ⟨v, rfl, h1, h.wk.slN h3 h2⟩
theorem wf_uok {u : UUnit} (h : wfU u = true) : UOk u := by
  have h1 := wfU_facts h
  have h0 := h
  simp only [wfU, wfHead, Bool.and_eq_true, decide_eq_true_eq] at h0
  refine ⟨by omega, by omega, fun b hb => ?_, fun b _ o _ => by simp only [Kd]; omega⟩
  obtain ⟨i, hi, hbi⟩ := List.mem_iff_getElem.1 hb
  have := (wfB_facts h (b := i) (k := b) (by rw [List.getElem?_eq_getElem hi, hbi])).2.1
  omega
theorem liveOf_c (hX : CxOk (cx W G)) (hG : G 0 = .iptr formsC) (u : UUnit) (hu : wfU u = true) (H : Hp) : CC Tryz.prog W 17 [.agg (unitC u)] H fun x H' => ∃ lp rr rc ri ci' σ ex p c I, x = .ret (.tuple [.ptr lp 0, ci 0]) ∧ Le H H' ∧ PLeast (opsOf u) p c ∧ LLeast u p I ∧ Bnd u I ∧ LH H' lp rr rc ri ci' σ ex u p c I := by
  refine CC.of_ev hX mixed d17 Tryz.func17 rfl rfl (Nat.le_of_ble_eq_true rfl) d17_ok ?_
  simp [Tryz.f17, d17, unitC]
  intro q1 hq1
  have hc := check_c hX hG u (wf_uok hu) (H.set q1 (.cells (unitC u)))
  simp only [unitC] at hc
  refine hc.k ?_
  rintro x H2 ⟨⟨er, rfl, her⟩, rfl⟩
  have he0 := her.2 hu
  subst he0
  simp
  have hn := new_c hX hG u hu (H.set q1 (.cells (unitC u)))
  simp only [unitC] at hn
  refine hn.k ?_
  rintro x H3 ⟨lp, rr, rc, ri, ci', σ, ex, p, c, I, rfl, hle, hp, hl, hb, hL⟩
  simp
  exact ⟨(Le.set_new hq1).trans hle, rr, rc, ri, ci', σ, ex, p, c, hp, I, hl, hb, hL⟩
theorem place_c (hX : CxOk (cx W G)) (u : UUnit) (b i : Nat) (k : UBlk) (hk : u.blocks[b]? = some k) (hi : i ≤ k.ops.length) (H : Hp) : CC Tryz.prog W 18 [.agg (unitC u), .int .i64 b, .int .i64 i] H fun x H' => x = .ret (ci 0) ∧ H' = H := by
  refine CC.shrink ?_
  refine CC.of_ev hX mixed d18 Tryz.func18 rfl rfl (Nat.le_of_ble_eq_true rfl) d18_ok ?_
  have hb := (List.getElem?_eq_some_iff.1 hk).1
  obtain ⟨hb', hke⟩ := List.getElem?_eq_some_iff.1 hk
  have hb2 : ¬ (u.blocks.length ≤ b) := by omega
  have hi2 : ¬ (k.ops.length < i) := by omega
  have hbn : ¬ ((b : Int) < 0) := by omega
  have hin : ¬ ((i : Int) < 0) := by omega
  simp (config := {maxSteps := 4000000}) [Tryz.f18, d18, unitC, hb, hke, blkC, hi, hb2, hi2, hbn, hin]
  exact fun r hr => Le.set_new hr
theorem at13_c (hX : CxOk (cx W G)) (hG : G 0 = .iptr formsC) (u : UUnit) (hu : wfU u = true) (b i : Nat) (k : UBlk) (hk : u.blocks[b]? = some k) (hi : i ≤ k.ops.length) (H : Hp) : CC Tryz.prog W 8 [.agg (unitC u), .int .i64 b, .int .i64 i] H fun x H' => ∃ p c I v, PLeast (opsOf u) p c ∧ LLeast u p I ∧ Bnd u I ∧ x = .ret (.tuple [v, ci 0]) ∧ Le H H' ∧ SlF H' v (upto (beforeP u p I k (k.ops.drop i)) (64 * mOf u)) := by
  obtain ⟨f1, f2, f3, f4, f5, f6, f7, f8, f9, f10, f11⟩ := wfU_facts hu
  refine CC.of_cw hX Tryz.func8 rfl rfl (Nat.le_of_ble_eq_true rfl) ?_
  refine CW.walk hX mixed d8 rfl ?_
  simp
  intro q3 hq3
  refine CW.walk hX mixed d8 rfl ?_
  simp [unitC]
  have hc := liveOf_c hX hG u hu (H.set q3 (.cells (unitC u)))
  simp only [unitC] at hc
  refine hc.k ?_
  rintro x H2 ⟨lp, rr, rc, ri, ci', σ, ex, p, c, I, rfl, hle, hp, hl, hbd, hL⟩
  have m3 := hle q3 _ set_at
  simp
  refine CW.walk hX mixed d8 rfl ?_
  simp [m3]
  have hpl := place_c hX u b i k hk hi H2
  simp only [unitC] at hpl
  refine hpl.k ?_
  rintro x H3 ⟨rfl, rfl⟩
  simp
  refine CW.walk hX mixed d8 rfl ?_
  simp
  refine CW.walk1 hX mixed d8 rfl ?_
  simp
  refine (at_h hX hG u hu hL b k hk i hi).k ?_
  rintro x H4 ⟨r, hr, rfl, rfl⟩
  simp
  refine (list_h hX (mOf u) r (mOf u) _ f10 (Nat.le_refl _) set_at).k ?_
  rintro x H5 ⟨v, rfl, hle5, hv⟩
  simp
  exact ⟨p, ⟨c, hp⟩, I, hl, hbd, (((Le.set_new hq3).trans hle).trans (Le.set_new hr)).trans hle5, hv.slF⟩
theorem in18_c (hX : CxOk (cx W G)) (hG : G 0 = .iptr formsC) (u : UUnit) (hu : wfU u = true) (b : Nat) (k : UBlk) (hk : u.blocks[b]? = some k) (H : Hp) : CC Tryz.prog W 6 [.agg (unitC u), .int .i64 b] H fun x H' => ∃ p c I v, PLeast (opsOf u) p c ∧ LLeast u p I ∧ Bnd u I ∧ x = .ret (.tuple [v, ci 0]) ∧ Le H H' ∧ SlF H' v (upto (beforeP u p I k k.ops) (64 * mOf u)) := by
  refine CC.of_ev hX mixed d6 Tryz.func6 rfl rfl (Nat.le_of_ble_eq_true rfl) d6_ok ?_
  simp [Tryz.f6, d6, unitC]
  intro q2 hq2
  have hc := at13_c hX hG u hu b 0 k hk (Nat.zero_le _) (H.set q2 (.cells (unitC u)))
  simp only [unitC, List.drop_zero] at hc
  refine hc.k ?_
  rintro x H2 ⟨p, c, I, v, hp, hl, hbd, rfl, hle, hv⟩
  simp
  exact ⟨p, ⟨c, hp⟩, I, hl, hbd, (Le.set_new hq2).trans hle, hv⟩
end Go.Cl
