/- DERIVED HERE. Plain: both ways to the greatest number of live registers are one. DERIVED HERE. Most and All, where the unit lies in blocks; where it is not right. DERIVED HERE. The reference's Of, where the unit lies in blocks. DERIVED HERE. LiveAll. -/
import Derived.Test.YtjofhmdjaijgcaaGreatDoorRQ
import Derived.Test.YtjofhmdjaijgcaaGreatDoorMQ
import Derived.Test.YtjofhmdjaijgcaaGreatDoorLLs
import Derived.Test.YtjofhmdjaijgcaaGreatDoorTM
import Derived.Test.YtjofhmdjaijgcaaGreatDoorRF
import Derived.Test.YtjofhmdjaijgcaaGreatDoorCP
set_option linter.unusedSimpArgs false
set_option linter.unusedVariables false
namespace Go.Cl.Gd
theorem mostB_mem {u : UUnit} (hu : wfU u = true) {p : Nat → Bool} {I : Nat → Nat → Bool} (hbn : BndN u I) {b : Nat} {k : UBlk} (hk : u.blocks[b]? = some k) {x : Nat} : x ∈ mostB u p I k ↔ x ∈ refMB u p I k (k.ops.length + 1) := by
  have hm : mOf u = (u.regs.toNat + 63) / 64 := rfl
  have he : ∀ t, (upto (beforeP u p I k (k.ops.drop t)) (64 * mOf u)).length = (upto (beforeP u p I k (k.ops.drop t)) u.regs.toNat).length := fun t => by
    rw [upto_bnd (before_bndN hu hbn hk _ fun o ho => List.mem_of_mem_drop ho) (by omega)]
  simp only [mostB, refMB, List.mem_map, List.mem_range]
  constructor
  · rintro ⟨kk, h1, rfl⟩
    exact ⟨k.ops.length - kk, by omega, (he _).symm⟩
  · rintro ⟨t, h1, rfl⟩
    refine ⟨k.ops.length - t, by omega, ?_⟩
    rw [he, show k.ops.length - (k.ops.length - t) = t by omega]
theorem most_eq {u : UUnit} (hu : wfU u = true) {p : Nat → Bool} {I : Nat → Nat → Bool} (hbn : BndN u I) {s : Nat → Bool} (hs : ∀ x, s x = true ↔ Rch (refN u p) 0 x) :
    maxL (mostL u p I (ordL (nextN u p) u.blocks.length)) = maxL (refML u p I s u.blocks.length) := by
  have f7 := (wfU_facts hu).2.2.2.2.2.2.1
  have hO := ord_of (N := nextN u p) (by omega : 0 < u.blocks.length) nextN_lt (f := u.blocks.length) (Nat.le_refl _)
  have hmem : ∀ b, b ∈ ordL (nextN u p) u.blocks.length ↔ s b = true := fun b => by
    have h1 := hO.mem b
    change b ∈ ordL (nextN u p) u.blocks.length ↔ _ at h1
    rw [h1, hs]
    exact ⟨fun h => h.congr fun b x => (refN_mem hu).2, fun h => h.congr fun b x => (refN_mem hu).1⟩
  refine maxL_same fun x => ?_
  simp only [mostL, refML, List.mem_flatMap, List.mem_range]
  constructor
  · rintro ⟨b, h1, h2⟩
    cases hk : u.blocks[b]? with
    | none => rw [hk] at h2; simp at h2
    | some k =>
      rw [hk] at h2
      refine ⟨b, (List.getElem?_eq_some_iff.1 hk).1, ?_⟩
      simp only [refM1, hk]
      rw [if_pos ((hmem b).1 h1)]
      exact (mostB_mem hu hbn hk).1 h2
  · rintro ⟨b, h1, h2⟩
    simp only [refM1] at h2
    cases hk : u.blocks[b]? with
    | none => rw [hk] at h2; simp at h2
    | some k =>
      rw [hk] at h2
      simp only at h2
      split at h2
      · rename_i hsb
        refine ⟨b, (hmem b).2 hsb, ?_⟩
        simp only [hk]
        exact (mostB_mem hu hbn hk).2 h2
      · simp at h2
end Go.Cl.Gd
set_option linter.unusedSimpArgs false
set_option linter.unusedVariables false
namespace Go.Cl.Gd
open Go.Proofs
variable {W : World} {G : Nat → CV}
set_option maxRecDepth 8000
theorem most_e (hX : CxOk (cx W G)) (hG : G 0 = .iptr formsC) (u : UUnit) (hu : UOk u) (he : errU u ≠ 0) (H : Hp) : CC Tryz.prog W 15 [.agg (unitC u)] H fun x H' => x = .ret (.tuple [ci 0, ci (errU u)]) ∧ Le H H' := by
  refine CC.of_cw hX Tryz.func15 rfl rfl (Nat.le_of_ble_eq_true rfl) ?_
  refine CW.walk hX mixed d15 rfl ?_
  simp
  intro q1 hq1
  have h32 := liveErr_c hX hG u hu he (H.set q1 (.cells (unitC u)))
  refine CW.walk hX mixed d15 rfl ?_
  simp [unitC]
  simp only [unitC] at h32
  refine h32.k ?_
  rintro x H2 ⟨rfl, rfl⟩
  simp
  refine CW.walk hX mixed d15 rfl ?_
  simp [he]
  exact Le.set_new hq1
theorem all_e (hX : CxOk (cx W G)) (hG : G 0 = .iptr formsC) (u : UUnit) (hu : UOk u) (he : errU u ≠ 0) (H : Hp) : CC Tryz.prog W 10 [.agg (unitC u)] H fun x H' => x = .ret (.tuple [.nilsl, ci (errU u)]) ∧ Le H H' := by
  refine CC.of_cw hX Tryz.func10 rfl rfl (Nat.le_of_ble_eq_true rfl) ?_
  refine CW.walk hX mixed d10 rfl ?_
  simp
  intro q1 hq1
  have h32 := liveErr_c hX hG u hu he (H.set q1 (.cells (unitC u)))
  refine CW.walk hX mixed d10 rfl ?_
  simp [unitC]
  simp only [unitC] at h32
  refine h32.k ?_
  rintro x H2 ⟨rfl, rfl⟩
  simp
  refine CW.walk hX mixed d10 rfl ?_
  simp [he]
  exact Le.set_new hq1
def MostV (u : UUnit) (v : CV) : Prop := (errU u ≠ 0 → v = .tuple [ci 0, ci (errU u)]) ∧ (errU u = 0 → ∃ p c I, PLeast (opsOf u) p c ∧ LLeast u p I ∧ v = .tuple [ci (maxL (mostL u p I (ordL (nextN u p) u.blocks.length))), ci 0])
theorem most_c (hX : CxOk (cx W G)) (hG : G 0 = .iptr formsC) (u : UUnit) (hu : UOk u) (H : Hp) : CC Tryz.prog W 15 [.agg (unitC u)] H fun x H' => ∃ v, x = .ret v ∧ MostV u v := by
  by_cases he : errU u = 0
  · refine (mostOk_c hX hG u (errU_wf.1 he) H).mono ?_
    rintro x H' ⟨_, p, c, I, p2, c2, hp, hl, hp2, rfl⟩
    obtain ⟨rfl, rfl⟩ := hp.unique hp2
    exact ⟨_, rfl, fun h => absurd he h, fun _ => ⟨p, c, I, hp, hl, rfl⟩⟩
  · refine (most_e hX hG u hu he H).mono ?_
    rintro x H' ⟨rfl, _⟩
    exact ⟨_, rfl, fun _ => rfl, fun h => absurd h he⟩
theorem fzArg {H : Hp} {x y : CV} (h : Fz H x y) : ∀ (i : Nat) a b, [x][i]? = some a → [y][i]? = some b → Fz H a b := by
  intro i a b ha hb
  rcases i with _|i
  · simp at ha hb; subst ha; subst hb; exact h
  · simp at ha
theorem most_f (hX : CxOk (cx W G)) (hG : G 0 = .iptr formsC) {u : UUnit} (hu : UOk u) {H : Hp} {cs : List CV} (hf : Fz H (.agg cs) (.agg (unitC u))) : CC Tryz.prog W 15 [.agg cs] H fun x H' => ∃ v, x = .ret v ∧ MostV u v ∧ H' = H := by
  refine CC.freeze (args' := [.agg (unitC u)]) (R := MostV u) (by rfl) (fzArg hf) (fun v hv => ?_) fun w hw => (most_c (W := w) (CxOk.later hX hw) hG u hu _)
  by_cases he : errU u = 0
  · obtain ⟨p, c, I, _, _, rfl⟩ := hv.2 he
    simp [plainV]
  · rw [hv.1 he]
    simp [plainV]
def RMostV (u : UUnit) (v : CV) : Prop := ∃ p c I, PLeast (opsOf u) p c ∧ LLeast u p I ∧ v = ci (maxL (mostL u p I (ordL (nextN u p) u.blocks.length)))
theorem refMost_f (hX : CxOk (cx W G)) {u : UUnit} (hu : wfU u = true) {H : Hp} {cs : List CV} (hf : Fz H (.agg cs) (.agg (unitC u))) : CC Tryz.prog W 18 [.agg cs] H fun x H' => ∃ v, x = .ret v ∧ RMostV u v ∧ H' = H := by
  refine CC.freeze (args' := [.agg (unitC u)]) (R := RMostV u) (by rfl) (fzArg hf) (fun v hv => ?_) fun w hw => ((refMost_c (W := w) (CxOk.later hX hw) u hu _).mono ?_)
  · obtain ⟨p, c, I, _, _, rfl⟩ := hv
    simp [plainV]
  · rintro x H' ⟨p, c, I, p2, c2, s, hp, hl, hbn, hp2, hs, rfl, _⟩
    obtain ⟨rfl, rfl⟩ := hp.unique hp2
    exact ⟨_, rfl, p, c, I, hp, hl, by rw [most_eq hu hbn hs]⟩
end Go.Cl.Gd
set_option linter.unusedSimpArgs false
set_option linter.unusedVariables false
namespace Go.Cl.Gd
open Go.Proofs
variable {W : World} {G : Nat → CV}
set_option maxRecDepth 8000
/-- What of a reference's Live is looked at from outside: its sets. -/
structure LRw (H : Hp) (u : UUnit) (p : Nat → Bool) (I : Nat → Nat → Bool) (lp ri ci : Nat) (σ : Nat → Nat) : Prop where
  l : ∃ cs, H lp = some (.cells cs) ∧ cs.length = 8 ∧ cs[7]? = some (.ref ri 0 u.blocks.length ci)
  n : u.blocks.length ≤ ci
  i : ∃ xs, H ri = some (.cells xs) ∧ ∀ b, b < u.blocks.length → xs[b]? = some (.ref (σ b) 0 u.regs.toNat u.regs.toNat)
  s : ∀ b, b < u.blocks.length → H (σ b) = some (.cells (boolC u.regs.toNat (I b)))
theorem boolC_wk {n : Nat} {f : Nat → Bool} : (boolC n f).map wkC = boolC n f := by
  simp only [boolC, List.map_map]
  exact List.map_congr_left fun x _ => rfl
theorem LRw.wk {H : Hp} {u : UUnit} {p : Nat → Bool} {I : Nat → Nat → Bool} {lp ri ci : Nat} {σ : Nat → Nat} (h : LRw H u p I lp ri ci σ) : LRw (wkH H) u p I lp ri ci σ := by
  obtain ⟨cs, h1, h2, h3⟩ := h.l
  obtain ⟨xs, g1, g2⟩ := h.i
  refine ⟨⟨_, wkH_at h1, by simpa using h2, by rw [List.getElem?_map, h3]; rfl⟩, h.n, ⟨_, wkH_at g1, fun b hb => by rw [List.getElem?_map, g2 b hb]; rfl⟩, fun b hb => ?_⟩
  rw [wkH_at (h.s b hb), boolC_wk]
theorem LRw.mono {H H' : Hp} {u : UUnit} {p : Nat → Bool} {I : Nat → Nat → Bool} {lp ri ci : Nat} {σ : Nat → Nat} (h : LRw H u p I lp ri ci σ) (hl : Le H H') : LRw H' u p I lp ri ci σ := by
  obtain ⟨cs, h1, h2, h3⟩ := h.l
  obtain ⟨xs, g1, g2⟩ := h.i
  exact ⟨⟨cs, hl _ _ h1, h2, h3⟩, h.n, ⟨xs, hl _ _ g1, g2⟩, fun b hb => hl _ _ (h.s b hb)⟩
theorem LR.w {H : Hp} {lp rp ri ci : Nat} {σ : Nat → Nat} {ex : List CV} {u : UUnit} {p : Nat → Bool} {I : Nat → Nat → Bool} (h : LR H lp rp ri ci σ ex u p I) : LRw H u p I lp ri ci σ :=
  ⟨⟨_, h.l, by simp [unitC], by simp [unitC]⟩, h.n, ⟨_, h.i, fun b hb => by rw [List.getElem?_append_left (by simp [refsC]; exact hb), refsC_get hb]⟩, h.s⟩
theorem of38_f (hX : CxOk (cx W G)) {u : UUnit} (hu : wfU u = true) {H : Hp} {cs : List CV} (hf : Fz H (.agg cs) (.agg (unitC u))) : CC Tryz.prog W 17 [.agg cs] H fun x H' => ∃ lp ri ci σ p c I, x = .ret (.ptr lp 0) ∧ PLeast (opsOf u) p c ∧ LLeast u p I ∧ BndN u I ∧ Le H H' ∧ LRw H' u p I lp ri ci σ := by
  refine (CC.freeze3 (args' := [.agg (unitC u)]) (R := fun x H' => ∃ lp ri ci σ p c I, x = .ret (.ptr lp 0) ∧ PLeast (opsOf u) p c ∧ LLeast u p I ∧ BndN u I ∧ LRw H' u p I lp ri ci σ) (by rfl) (fzArg hf) (by rintro x H' ⟨lp, ri, ci, σ, p, c, I, rfl, _⟩; exact .ptr _ _) fun w hw => ?_).mono ?_
  · refine (of38_c (W := w) (CxOk.later hX hw) u hu _).mono ?_
    rintro x H' ⟨lp, rp, ri, ci, σ, ex, p, c, I, rfl, _, h1, h2, h3, h4⟩
    exact ⟨lp, ri, ci, σ, p, c, I, rfl, h1, h2, h3, LR.w h4⟩
  · rintro x H2 ⟨H', ⟨lp, ri, ci, σ, p, c, I, rfl, h1, h2, h3, h4⟩, h7, h8, h9⟩
    exact ⟨lp, ri, ci, σ, p, c, I, rfl, h1, h2, h3, h7, h4.wk.mono h8⟩
theorem all_ef (hX : CxOk (cx W G)) (hG : G 0 = .iptr formsC) {u : UUnit} (hu : UOk u) (he : errU u ≠ 0) {H : Hp} {cs : List CV} (hf : Fz H (.agg cs) (.agg (unitC u))) : CC Tryz.prog W 10 [.agg cs] H fun x H' => x = .ret (.tuple [.nilsl, ci (errU u)]) ∧ H' = H := by
  refine (CC.freeze (args' := [.agg (unitC u)]) (R := fun v => v = .tuple [.nilsl, ci (errU u)]) (by rfl) (fzArg hf) (by rintro v rfl; simp [plainV]) fun w hw => ?_).mono ?_
  · exact (all_e (W := w) (CxOk.later hX hw) hG u hu he _).mono fun x H' ⟨h1, _⟩ => ⟨_, h1, rfl⟩
  · rintro x H' ⟨v, rfl, rfl, rfl⟩
    exact ⟨rfl, rfl⟩
end Go.Cl.Gd
set_option linter.unusedSimpArgs false
set_option linter.unusedVariables false
namespace Go.Cl.Gd
open Go.Proofs
variable {W : World} {G : Nat → CV}
set_option maxRecDepth 8000
structure laI (H9 : Hp) (n lp : Nat) (va : CV) (d : Nat) (m : Nat) (s' : CA) (H' : Hp) : Prop where
  ex : ∃ i i11 : Nat, m = n - i ∧ i ≤ n ∧ s'.env 5 = va ∧ s'.env 10 = .ptr lp 0 ∧ s'.env 11 = .int .i64 i11 ∧ i11 + d = i ∧ s'.ds = [] ∧ Le H9 H'
theorem liveAll_c (hX : CxOk (cx W G)) (hG : G 0 = .iptr formsC) (u0 : UUnit) (H : Hp) : CC Tryz.prog W 4 [.agg (unitC u0)] H fun x H' => x = .ret (.bool true) ∧ H' = H := by
  refine CC.shrink ?_
  refine CC.of_cw hX Tryz.func4 rfl rfl (Nat.le_of_ble_eq_true rfl) ?_
  refine CW.walk hX mixed d4 rfl ?_
  simp
  intro q1 hq1
  refine CW.walk hX mixed d4 rfl ?_
  simp [unitC]
  have hc := small_c hX u0 (H.set q1 (.cells (unitC u0)))
  simp only [unitC] at hc
  have m10 : (H.set q1 (.cells (unitC u0))) q1 = some (.cells (unitC u0)) := set_at
  refine hc.k ?_
  rintro x H1 ⟨cs, rfl, hle1, huv⟩
  have m1 := hle1 q1 (.cells (unitC u0)) set_at
  simp only [unitC] at m1
  obtain ⟨v0, v5, rfl, hb5⟩ := huv.b
  have hfz := huv.f
  have hok := small_ok u0
  clear huv hc m10
  have hle1 := (Le.set_new hq1).trans hle1
  generalize cutU u0 60 600 = u at hfz hb5 hok ⊢
  simp
  intro q3 hq3
  have m13 : q1 ≠ q3 := fun e => by rw [e, hq3] at m1; cases m1
  generalize hH2 : H1.set q3 _ = H2
  have hle2 : Le H1 H2 := by rw [← hH2]; exact Le.set_new hq3
  have m3 : H2 q3 = some (.cells [v0, ci u.params, ci u.regs, ci u.code, ci u.spill, v5]) := by rw [← hH2]; exact set_at
  clear hH2
  have m12 := hle2 _ _ m1
  have hfz2 := hfz.mono hle2
  have hb52 := hb5.mono hle2
  have hle2 := hle1.trans hle2
  have huk := cutOk_uok hok
  clear hfz hb5 hq3 m1 hle1
  refine CW.cut (fun s' H' => H' = H2 ∧ s'.env 3 = .ptr q3 0 ∧ s'.ds = []) ?_ ?_
  · refine CW.walk1 hX mixed d4 rfl ?_
    by_cases hs : u0.regs ≤ 200
    · simp [hs, m12]
    · by_cases hs2 : u0.regs ≤ 4096
      · simp [hs, hs2, m12]
        refine (alive_c hX hG _).k ?_
        rintro x H3 ⟨rfl, rfl⟩
        simp
        exact hle2
      · simp [hs, hs2, m12]
  rintro ⟨e, ds⟩ H3 ⟨rfl, e3, rfl⟩
  dsimp only at e3
  refine CW.walk hX mixed d4 rfl ?_
  simp [e3, m3]
  refine (copy_f hX hok hfz2).k ?_
  rintro x H4 ⟨cs', rfl, hle4, huv4⟩
  have hl4 := huv4.l
  simp
  by_cases he : errU u = 0
  rotate_left
  · refine (all_ef hX hG huk he huv4.f).k ?_
    rintro x H5 ⟨rfl, rfl⟩
    simp
    have m34 := hle4 _ _ m3
    have hfz4 := hfz2.mono hle4
    refine CW.walk hX mixed d4 rfl ?_
    simp [e3, m34]
    refine (copy_f hX hok hfz4).k ?_
    rintro x H6 ⟨cs'', rfl, hle6, huv6⟩
    have hl6 := huv6.l
    simp
    refine (most_f hX hG huk huv6.f).k ?_
    rintro x H7 ⟨v, rfl, hv, rfl⟩
    obtain rfl := hv.1 he
    simp
    have m36 := hle6 _ _ m34
    have hfz6 := hfz4.mono hle6
    refine CW.walk hX mixed d4 rfl ?_
    simp [e3, m36]
    refine (check24_f hX huk hfz6).k ?_
    rintro x H8 ⟨rfl, rfl⟩
    simp [d4, he]
    refine (alive_c hX hG _).k ?_
    rintro x H9 ⟨rfl, rfl⟩
    simp
    exact hle2.trans (hle4.trans hle6)
  have hw : wfU u = true := errU_wf.1 he
  obtain ⟨f1, f2, f3, f4, f5, f6, f7, f8, f9, f10, f11⟩ := wfU_facts hw
  refine (all17_f hX hG hw huv4.f).k ?_
  rintro x H5 ⟨p, c, I, va, hp, hl, hbd, rfl, hle5, hva⟩
  simp
  have m35 := hle5 _ _ (hle4 _ _ m3)
  have hfz5 := (hfz2.mono hle4).mono hle5
  refine CW.walk hX mixed d4 rfl ?_
  simp [e3, m35]
  refine (copy_f hX hok hfz5).k ?_
  rintro x H6 ⟨cs'', rfl, hle6, huv6⟩
  have hl6 := huv6.l
  simp
  refine (most_f hX hG huk huv6.f).k ?_
  rintro x H7 ⟨v, rfl, hv, rfl⟩
  obtain ⟨p2, c2, I2, hp2, hl2, rfl⟩ := hv.2 he
  obtain ⟨rfl, rfl⟩ := hp.unique hp2
  obtain rfl := hl.unique hl2
  simp
  have m36 := hle6 _ _ m35
  have hfz6 := hfz5.mono hle6
  have hva6 := hva.mono hle6
  refine CW.walk hX mixed d4 rfl ?_
  simp [e3, m36]
  refine (check24_f hX huk hfz6).k ?_
  rintro x H8 ⟨rfl, rfl⟩
  simp [he]
  refine CW.walk hX mixed d4 rfl ?_
  simp [e3, m36]
  refine (of38_f hX hw hfz6).k ?_
  rintro x H9 ⟨lp, ri, cci, σ, p3, c3, I3, rfl, hp3, hl3, hbn3, hle9, hLR⟩
  obtain ⟨rfl, rfl⟩ := hp.unique hp3
  obtain rfl := hl.unique hl3
  simp
  have m39 := hle9 _ _ m36
  have hfz9 := hfz6.mono hle9
  have hva9 := hva6.mono hle9
  have hH : Le H H9 := hle2.trans (hle4.trans (hle5.trans (hle6.trans hle9)))
  clear hle2 hle4 hle5 hle6 hle9 hva hva6 hfz2 hfz5 hfz6 m3 m35 m36 huv4 huv6 hv
  obtain ⟨rb, cb, csb, rfl⟩ : ∃ r c, ∃ cs : List CV, v5 = .ref r 0 u.blocks.length c := by
    rcases hb52 with ⟨_, h0⟩ | ⟨r, c, cs, h1, _⟩
    · rw [h0] at f7; simp at f7
    · exact ⟨r, c, cs, h1⟩
  obtain ⟨rl, cl, csl, rfl, ml, hal⟩ : ∃ r c cs, va = .ref r 0 u.blocks.length c ∧ H9 r = some (.cells cs) ∧ ∀ j, j < u.blocks.length → ∃ x, cs[j]? = some x ∧ SlF H9 x (upto (I j) (64 * mOf u)) := by
    rcases hva9 with ⟨_, h⟩ | ⟨r, c, cs, h1, h2, h3⟩
    · have := congrArg List.length h
      simp at this
      rw [this] at f7; simp at f7
    · refine ⟨r, c, cs, by simpa using h1, h2, fun j hj => h3 j _ ?_⟩
      rw [List.getElem?_map, List.getElem?_range hj]
      rfl
  refine CW.cut (fun s' H' => H' = H9 ∧ s'.env 5 = .ref rl 0 u.blocks.length cl ∧ s'.env 10 = .ptr lp 0 ∧ s'.ds = []) ?_ ?_
  · refine CW.walk1 hX mixed d4 rfl ?_
    simp [d4, e3, m39]
    refine (refMost_f hX hw hfz9).k ?_
    rintro x H10 ⟨v, rfl, ⟨p4, c4, I4, hp4, hl4, rfl⟩, rfl⟩
    obtain ⟨rfl, rfl⟩ := hp.unique hp4
    obtain rfl := hl.unique hl4
    simp [d4]
  rintro ⟨e', ds⟩ H10 ⟨rfl, e5, e10, rfl⟩
  dsimp only at e5 e10
  refine CW.cut (fun s' H' => s'.ds = [] ∧ Le H10 H') ?_ ?_
  · refine CW.walk hX mixed d4 rfl ?_
    simp
    refine CW.block ?_
    refine CW.loop (laI H10 u.blocks.length lp (.ref rl 0 u.blocks.length cl) 0) ?_ (m := u.blocks.length) ⟨0, 0, rfl, by omega, by simp [e5], by simp [e10], by simp, rfl, rfl, Le.refl _⟩
    clear e5 e10
    clear e'
    rintro m ⟨e, ds⟩ H11 ⟨i, i11, rfl, hi, e5, e10, e11, hi11, rfl, hl11⟩
    obtain rfl : i = i11 := by omega
    dsimp only at e5 e10 e11
    by_cases hil : i < u.blocks.length
    rotate_left
    · refine CW.walk hX mixed d4 rfl ?_
      simp [e5, e11, hil]
      exact hl11
    refine CW.walk hX mixed d4 rfl ?_
    simp [e5, e11, hil]
    obtain ⟨xi, hxi, hsi⟩ := hal i hil
    have hsi := hsi.mono hl11
    have hL := hLR.mono hl11
    obtain ⟨cl8, ml8, hl8, hc7⟩ := hL.l
    obtain ⟨xs, mx, hxs⟩ := hL.i
    have hxi2 := hxs i hil
    have ms := hL.s i hil
    have ml11 := hl11 _ _ ml
    refine CW.cut (laI H10 u.blocks.length lp (.ref rl 0 u.blocks.length cl) 1 (u.blocks.length - (i + 1))) ?_ ?_
    · refine CW.block ?_
      refine CW.walk hX mixed d4 rfl ?_
      have hc8 : cl8[7]'(by omega) = .ref ri 0 u.blocks.length cci := by
        rw [List.getElem?_eq_getElem (by omega)] at hc7
        injection hc7
      simp [d4, e5, e10, e11, hil, ml11, hxi, ml8, hl8, hc8, mx, hxi2]
      have hm : mOf u = (u.regs.toNat + 63) / 64 := rfl
      have heq : upto (I i) (64 * mOf u) = upto (I i) u.regs.toNat := upto_bnd (hbn3 i) (by omega)
      rw [heq] at hsi
      refine (refList_c hX (σ i) u.regs.toNat u.regs.toNat _ (by omega) H11 ms).k ?_
      rintro x H12 ⟨v, rfl, hown⟩
      simp [d4]
      refine ⟨?_, (same_f hX (hsi.mono hown.le) hown.slF (by have := upto_len (I i) u.regs.toNat; omega)).k ?_⟩
      · exact stabI_le rfl hown.le
      rintro x H13 ⟨rfl, rfl⟩
      simp [d4]
      refine CW.walk1 hX mixed d4 rfl ?_
      simp
      exact ⟨i + 1, i, rfl, by omega, by simp [e5], by simp [e10], by simp [e11], rfl, rfl, hl11.trans hown.le⟩
    · clear e5 e10 e11 hl11 hsi hL ml8 mx ms ml11
      clear e H11
      rintro ⟨e, ds⟩ H11 ⟨i2, i11, hm, hi2, e5, e10, e11, hi11, rfl, hl11⟩
      dsimp only at e5 e10 e11
      obtain rfl : i2 = i + 1 := by omega
      obtain rfl : i = i11 := by omega
      refine CW.walk1 hX mixed d4 rfl ?_
      simp [e11]
      exact ⟨u.blocks.length - (i + 1), by omega, i + 1, i + 1, rfl, hi2, by simp [e5], by simp [e10], by simp; rw [wrapI (by omega) (by omega)], rfl, rfl, hl11⟩
  rintro ⟨e', ds⟩ H11 ⟨rfl, hl11⟩
  refine CW.walk hX mixed d4 rfl ?_
  simp
  refine (alive_c hX hG _).k ?_
  rintro x H12 ⟨rfl, rfl⟩
  simp
  refine CW.walk1 hX mixed d4 rfl ?_
  simp
  exact hH.trans hl11
end Go.Cl.Gd
