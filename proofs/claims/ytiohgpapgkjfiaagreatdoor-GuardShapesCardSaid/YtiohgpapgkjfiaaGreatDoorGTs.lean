/- DERIVED HERE. GuardShapes: the law. -/
import Derived.Test.YtiohgpapgkjfiaaGreatDoorGUc
import Derived.Test.YtiohgpapgkjfiaaGreatDoorGUb
set_option linter.unusedSimpArgs false
set_option linter.unusedVariables false
namespace Go.Cl.Gu
open Go.Proofs Go.Cl.Gd
variable {W : World} {G : Nat → CV}
set_option maxRecDepth 8000
set_option maxHeartbeats 1000000
theorem wk_pairs (l : List (Int × Int)) : ∀ e ∈ pairs l, e.map wkC = e := by
  intro e he
  simp only [pairs, List.mem_map] at he
  obtain ⟨n, _, rfl⟩ := he
  rfl
theorem refShapes_f (hX : CxOk (cx W G)) {u : UUnit} (hu : wfU u = true) {H : Hp} {cs : List CV} (hf : Fz H (.agg cs) (.agg (unitC u))) :
    CC Tryz.prog W 16 [.agg cs] H fun x H' => ∃ v, x = .ret v ∧ Le H H' ∧ Own E0 H' v 2 (pairs (shapesP u (ordC u) u.blocks.length)) := by
  obtain ⟨p, c, hp⟩ := pleast_ex (opsOf u)
  refine (CC.freeze3 (args' := [.agg (unitC u)]) (R := fun x H' => ∃ v, x = .ret v ∧ Own E0 H' v 2 (pairs (shapesP u (ordC u) u.blocks.length))) (by rfl) (fzOne hf) (by rintro x H' ⟨v, rfl, h⟩; exact h.freeV) fun w hw => ?_).mono ?_
  · have h := refShapes_c (W := w) (CxOk.later hX hw) u hu hp (fun _ => none)
    rw [ordC_eq hp] at h
    exact h.mono fun x H' ⟨v, h1, h2⟩ => ⟨v, h1, h2.bare⟩
  · rintro x H2 ⟨H', ⟨v, rfl, h6⟩, h7, h8, h9⟩
    exact ⟨v, rfl, h7, (h6.wkE (wk_pairs _)).mono h8⟩
theorem refSize_f (hX : CxOk (cx W G)) {u : UUnit} (hu : wfU u = true) {x : Nat} (hx : x < u.blocks.length) {H : Hp} {cs : List CV} (hf : Fz H (.agg cs) (.agg (unitC u))) :
    CC Tryz.prog W 18 [.agg cs, .int .i64 x] H fun r H' => r = .ret (.tuple [ci (if (shapeP u (ordC u) x).kind = 0 then 0 else (sizeP u (ordC u) x : Int)), .bool (decide ((shapeP u (ordC u) x).kind ≠ 0))]) ∧ H' = H := by
  obtain ⟨p, c, hp⟩ := pleast_ex (opsOf u)
  refine (CC.freeze (args' := [.agg (unitC u), .int .i64 x]) (R := fun v => v = .tuple [ci (if (shapeP u (ordC u) x).kind = 0 then 0 else (sizeP u (ordC u) x : Int)), .bool (decide ((shapeP u (ordC u) x).kind ≠ 0))]) (by rfl) (fz2' hf _) (by rintro v rfl; simp [plainV]) fun w hw => ?_).mono ?_
  · have h := refSize_c (W := w) (CxOk.later hX hw) u hu hp x hx (fun _ => none)
    rw [ordC_eq hp] at h
    exact h.mono fun r H' ⟨h1, _⟩ => ⟨_, h1, rfl⟩
  · rintro r H' ⟨v, rfl, rfl, rfl⟩
    exact ⟨rfl, rfl⟩
structure gsM (H1 : Hp) (vl vw : CV) (q5 : Nat) (b n f : Int) (s' : CA) (H' : Hp) : Prop where
  e1 : s'.env 1 = ci b
  e5 : s'.env 5 = .ptr q5 0
  e7 : s'.env 7 = vl
  e9 : s'.env 9 = ci n
  e10 : s'.env 10 = ci f
  e12 : s'.env 12 = vw
  ds : s'.ds = []
  h : H' = H1
structure gsL (H1 : Hp) (vl vw : CV) (q5 : Nat) (b n f : Int) (N d m : Nat) (s' : CA) (H' : Hp) : Prop where
  ex : ∃ i i13 : Nat, m = N - i ∧ i ≤ N ∧ i13 + d = i ∧ s'.env 13 = .int .i64 i13 ∧ gsM H1 vl vw q5 b n f s' H'
theorem neq_shape {x : Int × Int} {K : CV → Prop} (h : K (.bool false)) : vcBin tab .neq 38 (.agg [ci x.1, ci x.2]) (.agg [ci x.1, ci x.2]) K :=
  ⟨⟨_, _, tab_38, rfl, rfl, rfl, rfl⟩, by simpa [eqAll] using h⟩
structure gsI (H1 : Hp) (vl vw : CV) (n : Nat) (q5 q6 : Nat) (b f : Int) (nn : CV) (d m : Nat) (s' : CA) (H' : Hp) : Prop where
  ex : ∃ i i13 : Nat, m = n - i ∧ i ≤ n ∧ i13 + d = i ∧ s'.env 1 = ci b ∧ s'.env 5 = .ptr q5 0 ∧ s'.env 7 = vl ∧ s'.env 9 = nn ∧ s'.env 10 = ci f ∧ s'.env 12 = vw ∧ s'.env 13 = .int .i64 i13 ∧ s'.ds = [] ∧ H' = H1
theorem guardShapes_c (hX : CxOk (cx W G)) (hG : G 0 = .iptr formsC) (u0 : UUnit) (b : Int) (H : Hp) : CC Tryz.prog W 3 [.agg (unitC u0), ci b] H fun x H' => x = .ret (.bool true) ∧ H' = H := by
  refine CC.shrink ?_
  refine CC.of_cw hX Tryz.func3 rfl rfl (Nat.le_of_ble_eq_true rfl) ?_
  refine CW.walk hX mixed d3 rfl ?_
  simp
  intro q2 hq2
  have hle1 : Le H (H.set q2 (.cells (unitC u0))) := Le.set_new hq2
  have m2 : (H.set q2 (.cells (unitC u0))) q2 = some (.cells (unitC u0)) := set_at
  generalize H.set q2 _ = H1 at hle1 m2 ⊢
  have hc := fun H => cut16_c hX u0 H
  have hok := cut16_ok u0
  simp only [unitC] at m2 hc
  refine CW.walk hX mixed d3 rfl ?_
  simp [d3, m2]
  refine (hc H1).k ?_
  rintro x H2 ⟨csO, rfl, hle2, hvO⟩
  simp [d3, hle2 _ _ m2]
  refine ⟨stabI_le rfl hle2, ?_⟩
  refine (hc H2).k ?_
  rintro x H3 ⟨csG, rfl, hle3, hvG⟩
  have hvO := hvO.mono hle3
  have hle := (hle1.trans hle2).trans hle3
  clear hc m2 hle1 hle2 hle3
  generalize hcu : cutU u0 16 60 = u at hvO hvG hok
  have hUO := cutOk_uok hok
  have hs : u.sizes.length ≤ 1000000 := by have := hok.sz; omega
  obtain ⟨o0, o5, rfl, hbO⟩ := hvO.b
  obtain ⟨g0, g5, rfl, hbG⟩ := hvG.b
  simp [d3]
  intro q5 hq5 q6 h65 h56 hq6
  simp [h56, h65]
  generalize hH4 : Hp.set (Hp.set (Hp.set (Hp.set H3 q5 _) q6 _) q5 _) q6 _ = H4
  have m5 : H4 q5 = some (.cells [o0, ci u.params, ci u.regs, ci u.code, ci u.spill, o5]) := by rw [← hH4, hset_ne h56]; exact set_at
  have m6 : H4 q6 = some (.cells [g0, ci u.params, ci u.regs, ci u.code, ci u.spill, g5]) := by rw [← hH4]; exact set_at
  have hle4 : Le H3 H4 := by
    rw [← hH4]
    exact (((Le.set_new hq5).trans (Le.set_new (by rw [hset_none_iff]; exact ⟨h65, hq6⟩))).put hq5).put hq6
  clear hH4
  have hvO := hvO.mono hle4
  have hvG := hvG.mono hle4
  have hle := hle.trans hle4
  clear hle4 hq5 hq6 hbO hbG
  refine CW.walk hX mixed d3 rfl ?_
  simp [m6]
  refine (shapes_c hX hG u hUO hs H4 _ hvG).k ?_
  rintro x H5 ⟨hle5, her5, hok5⟩
  by_cases he : errU u = 0
  rotate_left
  · obtain rfl := her5 he
    have ht : thereE u b = errU u := by simp [thereE, he]
    simp
    refine CW.walk hX mixed d3 rfl ?_
    simp [hle5 _ _ m6]
    refine (sizeF_c hX hG u hUO hs b H5 _ (hvG.mono hle5)).k ?_
    rintro x H6 ⟨hle6, her6, _⟩
    obtain rfl := her6 (by rw [ht]; exact he)
    have hle56 := hle5.trans hle6
    simp
    refine CW.walk hX mixed d3 rfl ?_
    simp [hle56 _ _ m5, hle56 _ _ m6]
    refine (same_f hX hok (hvO.mono hle56).f (hvG.mono hle56).f).k ?_
    rintro x H7 ⟨rfl, rfl⟩
    simp
    refine CW.walk hX mixed d3 rfl ?_
    simp [hle56 _ _ m5]
    refine (check24_f hX hUO (hvO.mono hle56).f).k ?_
    rintro x H8 ⟨rfl, rfl⟩
    simp [he, ht]
    refine (alive_c hX hG H8).k ?_
    rintro x H9 ⟨rfl, rfl⟩
    simp
    exact hle.trans hle56
  have hw : wfU u = true := errU_wf.1 he
  obtain ⟨f1, f2, f3, f4, f5, f6, f7, f8, f9, f10, f11⟩ := wfU_facts hw
  obtain ⟨vl, p, c, rfl, hp, hvl⟩ := hok5 he
  rw [ordC_eq hp] at hvl
  have hvl := hvl.bare
  clear hp hok5 her5
  simp
  refine CW.walk hX mixed d3 rfl ?_
  simp [hle5 _ _ m6]
  refine (sizeF_c hX hG u hUO hs b H5 _ (hvG.mono hle5)).k ?_
  rintro x H6 ⟨hle6, her6, hok6⟩
  have hle56 := hle5.trans hle6
  have hvl := hvl.mono hle6
  obtain ⟨n, f, rfl, hnf⟩ : ∃ n f : Int, x = .ret (.tuple [ci n, ci f]) ∧ ((thereE u b ≠ 0 → f = thereE u b ∧ n = 0) ∧ (thereE u b = 0 → ((shapeP u (ordC u) b.toNat).kind = 0 → f = 5 ∧ n = 0) ∧ ((shapeP u (ordC u) b.toNat).kind ≠ 0 → f = 0 ∧ n = (sizeP u (ordC u) b.toNat : Int)))) := by
    by_cases h0 : thereE u b = 0
    · obtain ⟨p, c, hp, h1, h2⟩ := hok6 h0
      rw [ordC_eq hp] at h1 h2
      by_cases hk : (shapeP u (ordC u) b.toNat).kind = 0
      · exact ⟨0, 5, h1 hk, fun h => absurd h0 h, fun _ => ⟨fun _ => ⟨rfl, rfl⟩, fun h => absurd hk h⟩⟩
      · exact ⟨_, 0, h2 hk, fun h => absurd h0 h, fun _ => ⟨fun h => absurd h hk, fun _ => ⟨rfl, rfl⟩⟩⟩
    · exact ⟨0, thereE u b, her6 h0, fun _ => ⟨rfl, rfl⟩, fun h => absurd h h0⟩
  clear her6 hok6
  have hvO6 := hvO.mono hle56
  have hvG6 := hvG.mono hle56
  have m5 := hle56 _ _ m5
  have m6 := hle56 _ _ m6
  have hle := hle.trans hle56
  clear hle5 hle6 hle56 hvO hvG
  simp
  refine CW.walk hX mixed d3 rfl ?_
  simp [m5, m6]
  refine (same_f hX hok hvO6.f hvG6.f).k ?_
  rintro x H7 ⟨rfl, rfl⟩
  simp
  refine CW.walk hX mixed d3 rfl ?_
  simp [m5]
  refine (check24_f hX hUO hvO6.f).k ?_
  rintro x H8 ⟨rfl, rfl⟩
  simp [he]
  refine CW.walk hX mixed d3 rfl ?_
  simp [m5]
  refine (refShapes_f hX hw hvO6.f).k ?_
  rintro x H9 ⟨vw, rfl, hle9, hvw⟩
  have hvl := hvl.mono hle9
  have hvO9 := hvO6.mono hle9
  have m5 := hle9 _ _ m5
  have hle := hle.trans hle9
  clear hvG6 hvO6 hle9 m6
  simp
  obtain ⟨L, hL⟩ : ∃ L, shapesP u (ordC u) u.blocks.length = L := ⟨_, rfl⟩
  have hLn : L.length ≤ 2000 := by
    have := shapesP_len (u := u) (ord := ordC u) (n := u.blocks.length)
    rw [hL] at this
    omega
  rw [hL] at hvl hvw
  have hcl : ∀ v, Own E0 H9 v 2 (pairs L) → (v = .nilsl ∧ L.length = 0) ∨ ∃ r c ex, v = .ref r 0 L.length c ∧ H9 r = some (.cells ((pairs L).flatten ++ ex)) := fun v h => by
    obtain ⟨_, _, ⟨h1, h2⟩ | ⟨r, c, ex, h1, _, h2, _⟩⟩ := h
    · refine .inl ⟨h1, ?_⟩
      have := congrArg List.length h2
      simpa [pairs] using this
    · exact .inr ⟨r, c, ex, by simpa [pairs] using h1, h2⟩
  have hcl1 := hcl vl hvl
  have hcl2 := hcl vw hvw
  clear hcl hvl hvw
  refine CW.cut (gsM H9 vl vw q5 b n f) ?_ ?_
  · rcases hcl1 with ⟨rfl, h1⟩ | ⟨r1, c1, ex1, rfl, h1⟩ <;> rcases hcl2 with ⟨rfl, h2⟩ | ⟨r2, c2, ex2, rfl, h2⟩
    all_goals
      refine CW.walk1 hX mixed d3 rfl ?_
      simp [*]
      exact ⟨by simp, by simp, by simp, by simp, by simp, by simp, rfl, rfl⟩
  rintro ⟨e, ds⟩ HA ⟨e1, e5, e7, e9, e10, e12, hds, rfl⟩
  dsimp only at e1 e5 e7 e9 e10 e12 hds
  subst hds
  refine CW.cut (gsM HA vl vw q5 b n f) ?_ ?_
  · refine CW.walk hX mixed d3 rfl ?_
    simp
    refine CW.block ?_
    refine CW.loop (gsL HA vl vw q5 b n f L.length 0) ?_ (m := L.length) ⟨0, 0, rfl, by omega, rfl, by simp, ⟨by simp [e1], by simp [e5], by simp [e7], by simp [e9], by simp [e10], by simp [e12], rfl, rfl⟩⟩
    clear e1 e5 e7 e9 e10 e12
    rintro m ⟨e', ds⟩ HB ⟨i, i13, rfl, hi, hi13, e13, ⟨e1, e5, e7, e9, e10, e12, hds, rfl⟩⟩
    dsimp only at e1 e5 e7 e9 e10 e12 e13 hds
    subst hds
    obtain rfl : i13 = i := by omega
    by_cases hil : i13 < L.length
    rotate_left
    · obtain rfl : i13 = L.length := by omega
      rcases hcl1 with ⟨rfl, h1⟩ | ⟨r1, c1, ex1, rfl, h1⟩
      · refine CW.walk hX mixed d3 rfl ?_
        simp [e7, e13, h1]
        exact ⟨by simp [e1], by simp [e5], by simp [e7], by simp [e9], by simp [e10], by simp [e12], rfl, rfl⟩
      · refine CW.walk hX mixed d3 rfl ?_
        simp [e7, e13]
        exact ⟨by simp [e1], by simp [e5], by simp [e7], by simp [e9], by simp [e10], by simp [e12], rfl, rfl⟩
    rcases hcl1 with ⟨rfl, h1⟩ | ⟨r1, c1, ex1, rfl, h1⟩
    · omega
    rcases hcl2 with ⟨rfl, h2⟩ | ⟨r2, c2, ex2, rfl, h2⟩
    · omega
    obtain ⟨s, hs'⟩ : ∃ s, L[i13]? = some s := ⟨_, List.getElem?_eq_getElem hil⟩
    have hpi : (pairs L)[i13]? = some [ci s.1, ci s.2] := by simp only [pairs, List.getElem?_map, hs']; rfl
    have hpz : ∀ e ∈ pairs L, e.length = 2 := fun e he => by
      simp only [pairs, List.mem_map] at he
      obtain ⟨_, _, rfl⟩ := he
      rfl
    have t1 := flat_take (ex := ex1) hpz hpi
    have t2 := flat_take (ex := ex2) hpz hpi
    refine CW.walk hX mixed d3 rfl ?_
    simp [e7, e13, hil]
    refine CW.cut (gsL HB (.ref r1 0 L.length c1) (.ref r2 0 L.length c2) q5 b n f L.length 1 (L.length - (i13 + 1))) ?_ ?_
    rotate_left
    · clear e1 e5 e7 e9 e10 e12 e13
      rintro ⟨e', ds⟩ HC ⟨i, i13', hm, hi, hi13, e13, ⟨e1, e5, e7, e9, e10, e12, hds, rfl⟩⟩
      dsimp only at e1 e5 e7 e9 e10 e12 e13 hds
      subst hds
      obtain rfl : i = i13 + 1 := by omega
      obtain rfl : i13' = i13 := by omega
      refine CW.walk1 hX mixed d3 rfl ?_
      simp [e13]
      exact ⟨L.length - (i13' + 1), by omega, i13' + 1, i13' + 1, rfl, by omega, rfl, by simp; rw [wrapI (by omega) (by omega)], ⟨by simp [e1], by simp [e5], by simp [e7], by simp [e9], by simp [e10], by simp [e12], rfl, rfl⟩⟩
    refine CW.block ?_
    refine CW.walk1 hX mixed d3 rfl ?_
    simp [d3, e7, e12, e13, hil, h1, h2]
    have hfl : (List.map List.length (pairs L)).sum = L.length * 2 := by
      rw [← List.length_flatten, flat_len hpz]
      simp [pairs]
    refine ⟨by omega, by omega, ?_⟩
    rw [t1, t2]
    refine neq_shape (x := s) ?_
    simp
    exact ⟨i13 + 1, i13, rfl, by omega, rfl, by simp [e13], ⟨by simp [e1], by simp [e5], by simp [e7], by simp [e9], by simp [e10], by simp [e12], rfl, rfl⟩⟩
  clear e1 e5 e7 e9 e10 e12 hcl1 hcl2
  rintro ⟨e, ds⟩ HD ⟨e1, e5, e7, e9, e10, e12, hds, rfl⟩
  dsimp only at e1 e5 e7 e9 e10 e12 hds
  subst hds
  refine CW.walk hX mixed d3 rfl ?_
  simp [e1, e5, m5]
  refine (there_f hX hUO hvO9 b).k ?_
  rintro x HE ⟨rfl, rfl⟩
  simp
  by_cases ht : thereE u b = 0
  rotate_left
  · obtain ⟨rfl, rfl⟩ := hnf.1 ht
    simp [ht, e9, e10]
    refine (alive_c hX hG HE).k ?_
    rintro x HF ⟨rfl, rfl⟩
    simp
    exact hle
  obtain ⟨hn1, hn2⟩ := hnf.2 ht
  obtain ⟨_, bn, rfl, hbn⟩ := thereE_ok ht
  simp only [Int.toNat_natCast] at hn1 hn2
  simp [ht]
  refine CW.walk hX mixed d3 rfl ?_
  simp [e1, e5, m5]
  refine (refSize_f hX hw hbn hvO9.f).k ?_
  rintro x HF ⟨rfl, rfl⟩
  by_cases hk : (shapeP u (ordC u) bn).kind = 0
  · obtain ⟨rfl, rfl⟩ := hn1 hk
    simp [hk, e9, e10]
    refine CW.walk hX mixed d3 rfl ?_
    simp [e9, e10]
    refine (alive_c hX hG HF).k ?_
    rintro x HG ⟨rfl, rfl⟩
    simp
    exact hle
  · obtain ⟨rfl, rfl⟩ := hn2 hk
    simp [hk, e9, e10]
    refine CW.walk1 hX mixed d3 rfl ?_
    simp [e9, e10]
    refine (alive_c hX hG HF).k ?_
    rintro x HG ⟨rfl, rfl⟩
    simp
    exact hle
end Go.Cl.Gu
