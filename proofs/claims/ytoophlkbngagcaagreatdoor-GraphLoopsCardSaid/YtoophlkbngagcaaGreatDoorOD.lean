/- DERIVED HERE. The graph's Order, of any unit. -/
import Derived.Test.YtoophlkbngagcaaGreatDoorGR
import Derived.Test.YtoophlkbngagcaaGreatDoorLLs
import Derived.Test.YtoophlkbngagcaaGreatDoorRF
set_option linter.unusedSimpArgs false
set_option linter.unusedVariables false
namespace Go.Cl.Gd
open Go.Proofs
variable {W : World} {G : Nat → CV}
set_option maxRecDepth 8000
theorem GrOk.base {H0 H H' : Hp} {gp : Nat} {u : UUnit} {N : Nat → List Nat} {rn rb ro ri rk co : Nat} {ns bs ex : List CV} {I : Nat → Option Nat} (h : GrOk H H' gp u N rn rb ro ri rk co ns bs ex I) (hl : Le H0 H) : GrOk H0 H' gp u N rn rb ro ri rk co ns bs ex I :=
  ⟨hl.trans h.le, h.g, h.n, h.nn, h.b, h.bb, h.o, hl.none h.o0, h.co, h.i, h.di, h.k, h.fx⟩
theorem gof_e (hX : CxOk (cx W G)) (hG : G 0 = .iptr formsC) (u : UUnit) (hu : UOk u) (he : errU u ≠ 0) (H : Hp) : CC Tryz.prog W 36 [.agg (unitC u)] H fun x H' => x = .ret (.tuple [.nilptr, ci (errU u)]) ∧ H' = H := by
  refine CC.shrink ?_
  refine CC.of_cw hX Tryz.func36 rfl rfl (Nat.le_of_ble_eq_true rfl) ?_
  refine CW.walk hX mixed d36 rfl ?_
  simp
  intro q1 hq1
  have hc := check_e hX hG u hu (H.set q1 (.cells (unitC u)))
  refine CW.walk hX mixed d36 rfl ?_
  simp [unitC]
  simp only [unitC] at hc
  refine hc.k ?_
  rintro x H2 ⟨rfl, rfl⟩
  simp [he]
  exact Le.set_new hq1
theorem gof_c (hX : CxOk (cx W G)) (hG : G 0 = .iptr formsC) (u : UUnit) (hu : wfU u = true) (H : Hp) : CC Tryz.prog W 36 [.agg (unitC u)] H fun x H' => ∃ gp p c rn rb ro ri rk co ns bs ex I, x = .ret (.tuple [.ptr gp 0, ci 0]) ∧ PLeast (opsOf u) p c ∧ GrOk H H' gp u (nextN u p) rn rb ro ri rk co ns bs ex I := by
  have he : errU u = 0 := errU_wf.2 hu
  refine CC.of_cw hX Tryz.func36 rfl rfl (Nat.le_of_ble_eq_true rfl) ?_
  refine CW.walk hX mixed d36 rfl ?_
  simp
  intro q1 hq1
  have hc := check_e hX hG u (wf_uok hu) (H.set q1 (.cells (unitC u)))
  have hg := gnew_c hX hG u hu (H.set q1 (.cells (unitC u)))
  refine CW.walk hX mixed d36 rfl ?_
  simp [unitC]
  simp only [unitC] at hc hg
  refine hc.k ?_
  rintro x H2 ⟨rfl, rfl⟩
  simp [he]
  refine CW.walk hX mixed d36 rfl ?_
  simp
  refine hg.k ?_
  rintro x H3 ⟨gp, p, c, rn, rb, ro, ri, rk, co, ns, bs, ex, I, rfl, hp, h⟩
  simp
  refine CW.walk1 hX mixed d36 rfl ?_
  simp
  exact ⟨p, ⟨c, hp⟩, rn, rb, ro, ri, rk, co, ns, bs, ex, I, h.base (Le.set_new hq1)⟩
/-- What Order answers. -/
structure OrdA (u : UUnit) (x : CE) (H' : Hp) : Prop where
  er : errU u ≠ 0 → x = .ret (.tuple [.nilsl, ci (errU u)])
  ok : errU u = 0 → ∃ p c v, PLeast (opsOf u) p c ∧ x = .ret (.tuple [v, ci 0]) ∧ SlF H' v (natL (ordL (nextN u p) u.blocks.length))
theorem OrdA.free {u : UUnit} {x : CE} {H' : Hp} (h : OrdA u x H') : FreeEnd x := by
  by_cases he : errU u = 0
  · obtain ⟨p, c, v, _, rfl, h5⟩ := h.ok he
    exact tup2_free h5.free
  · rw [h.er he]; exact tup2_free .nilsl
theorem OrdA.wkm {u : UUnit} {x : CE} {H' H2 : Hp} (h : OrdA u x H') (hl : Le (wkH H') H2) : OrdA u x H2 :=
  ⟨h.er, fun he => by
    obtain ⟨p, c, v, a1, a4, a5⟩ := h.ok he
    exact ⟨p, c, v, a1, a4, a5.wk.mono hl⟩⟩
theorem order_c (hX : CxOk (cx W G)) (hG : G 0 = .iptr formsC) (u : UUnit) (hu : UOk u) (H : Hp) : CC Tryz.prog W 9 [.agg (unitC u)] H fun x H' => OrdA u x H' := by
  refine CC.of_cw hX Tryz.func9 rfl rfl (Nat.le_of_ble_eq_true rfl) ?_
  refine CW.walk hX mixed d9 rfl ?_
  simp
  intro q1 hq1
  by_cases he : errU u = 0
  · have hc := gof_c hX hG u (errU_wf.1 he) (H.set q1 (.cells (unitC u)))
    refine CW.walk hX mixed d9 rfl ?_
    simp [unitC]
    simp only [unitC] at hc
    refine hc.k ?_
    rintro x H3 ⟨gp, p, c, rn, rb, ro, ri, rk, co, ns, bs, ex, I, rfl, hp, h⟩
    simp
    have mg := h.g
    have mo := h.o
    have hco := h.co
    refine CW.walk hX mixed d9 rfl ?_
    simp [mg]
    refine CW.walk hX mixed d9 rfl ?_
    simp [mg]
    refine CW.walk1 hX mixed d9 rfl ?_
    simp
    refine ⟨fun q => absurd he q, fun _ => ⟨p, c, _, hp, rfl, ?_⟩⟩
    have := nums_slF (r := ro) (c := co) (by rw [natL_len]; exact hco) mo
    rwa [natL_len] at this
  · have hc := gof_e hX hG u hu he (H.set q1 (.cells (unitC u)))
    refine CW.walk hX mixed d9 rfl ?_
    simp [unitC]
    simp only [unitC] at hc
    refine hc.k ?_
    rintro x H2 ⟨rfl, rfl⟩
    simp
    refine CW.walk hX mixed d9 rfl ?_
    simp [he]
    exact ⟨fun _ => rfl, fun q => absurd q he⟩
theorem order_f (hX : CxOk (cx W G)) (hG : G 0 = .iptr formsC) {u : UUnit} (hu : UOk u) {H : Hp} {cs : List CV} (hf : Fz H (.agg cs) (.agg (unitC u))) : CC Tryz.prog W 9 [.agg cs] H fun x H' => OrdA u x H' ∧ Le H H' := by
  refine (CC.freeze3 (args' := [.agg (unitC u)]) (R := OrdA u) (by rfl) (fz1 hf) (fun x H' h => h.free) fun w hw => ?_).mono ?_
  · exact order_c (W := w) (CxOk.later hX hw) hG u hu _
  · rintro x H2 ⟨H', h1, h2, h3, _⟩
    exact ⟨h1.wkm h3, h2⟩
end Go.Cl.Gd
