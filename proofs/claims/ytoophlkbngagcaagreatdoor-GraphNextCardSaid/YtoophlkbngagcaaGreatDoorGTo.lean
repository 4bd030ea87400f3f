/- DERIVED HERE. GraphOrder: the law. -/
import Derived.Test.YtoophlkbngagcaaGreatDoorHA
import Derived.Test.YtoophlkbngagcaaGreatDoorCP
set_option linter.unusedSimpArgs false
set_option linter.unusedVariables false
namespace Go.Cl.Gd
open Go.Proofs
variable {W : World} {G : Nat → CV}
set_option maxRecDepth 8000
set_option maxHeartbeats 1000000
theorem uv_six {H : Hp} {cs : List CV} {u : UUnit} (h : UV H cs u) : ∃ o0 o5, cs = [o0, ci u.params, ci u.regs, ci u.code, ci u.spill, o5] := by
  obtain ⟨v0, v5, h1, _⟩ := h.b
  exact ⟨v0, v5, h1⟩
theorem ordL_len {N : Nat → List Nat} {n : Nat} (h0 : 0 < n) (hN : ∀ b, b < n → ∀ k ∈ N b, k < n) : (ordL N n).length ≤ n := by
  have h := ord_of (N := N) h0 hN (f := n) (Nat.le_refl _)
  exact nodup_le n _ h.nd h.lt
theorem graphOrder_c (hX : CxOk (cx W G)) (hG : G 0 = .iptr formsC) (u0 : UUnit) (H : Hp) : CC Tryz.prog W 3 [.agg (unitC u0)] H fun x H' => x = .ret (.bool true) ∧ H' = H := by
  refine CC.shrink ?_
  refine CC.of_cw hX Tryz.func3 rfl rfl (Nat.le_of_ble_eq_true rfl) ?_
  refine CW.walk hX mixed d3 rfl ?_
  simp
  intro q1 hq1
  have hle1 : Le H (H.set q1 (.cells (unitC u0))) := Le.set_new hq1
  have m1 : (H.set q1 (.cells (unitC u0))) q1 = some (.cells (unitC u0)) := set_at
  generalize H.set q1 _ = H1 at hle1 m1 ⊢
  have hc := cut80_c hX u0 H1
  have hok := cut80_ok u0
  simp only [unitC] at m1 hc
  refine CW.walk hX mixed d3 rfl ?_
  simp [d3, m1]
  refine hc.k ?_
  rintro x H2 ⟨csO, rfl, hle2, hvO⟩
  clear hc m1
  generalize hcu : cutU u0 80 2000 = u at hvO hok
  have hUO := cutOk_uok hok
  have hnl : u.blocks.length ≤ 80 := by rw [← hcu]; simp [cutU]; omega
  obtain ⟨o0, o5, rfl⟩ := uv_six hvO
  simp [d3]
  intro q3 hq3
  have hle3 : Le H2 (H2.set q3 (.cells [o0, ci u.params, ci u.regs, ci u.code, ci u.spill, o5])) := Le.set_new hq3
  have m3 : (H2.set q3 (.cells [o0, ci u.params, ci u.regs, ci u.code, ci u.spill, o5])) q3 = some (.cells [o0, ci u.params, ci u.regs, ci u.code, ci u.spill, o5]) := set_at
  generalize H2.set q3 _ = H3 at hle3 m3 ⊢
  have hv := hvO.mono hle3
  have hle := (hle1.trans hle2).trans hle3
  clear hvO hle1 hle2 hle3
  refine CW.walk hX mixed d3 rfl ?_
  simp [m3]
  refine (copy_f hX hok hv.f).k ?_
  rintro x H4 ⟨cs4, rfl, hle4, hv4⟩
  simp
  refine (order_f hX hG hUO hv4.f).k ?_
  rintro x H5 ⟨hA, hle5⟩
  have hle35 := hle4.trans hle5
  have hv5 := hv.mono hle35
  have m5 := hle35 _ _ m3
  have hle := hle.trans hle35
  clear hle4 hle5 hle35 m3 hv
  by_cases he : errU u = 0
  rotate_left
  · obtain rfl := hA.er he
    simp
    refine CW.walk hX mixed d3 rfl ?_
    simp [m5]
    refine (check24_f hX hUO hv5.f).k ?_
    rintro x H6 ⟨rfl, rfl⟩
    simp [he]
    refine (alive_c hX hG _).k ?_
    rintro x H7 ⟨rfl, rfl⟩
    simp
    exact hle
  have hw : wfU u = true := errU_wf.1 he
  obtain ⟨p, c, v, hp, rfl, hsv⟩ := hA.ok he
  simp
  refine CW.walk hX mixed d3 rfl ?_
  simp [m5]
  refine (check24_f hX hUO hv5.f).k ?_
  rintro x H6 ⟨rfl, rfl⟩
  simp [he]
  refine CW.walk1 hX mixed d3 rfl ?_
  simp [m5]
  refine (refOrder_f hX hw hv5.f).k ?_
  rintro x H7 ⟨v2, p2, c2, rfl, hp2, hle7, hsv2⟩
  obtain ⟨rfl, rfl⟩ := hp.unique hp2
  simp
  have h0 : 0 < u.blocks.length := by obtain ⟨f1, f2, f3, f4, f5, f6, f7, f8, f9, f10, f11⟩ := wfU_facts hw; omega
  have hol := ordL_len h0 (nextN_lt (u := u) (p := p))
  refine (same_f hX (hsv.mono hle7) hsv2 (by rw [natL_len]; omega)).k ?_
  rintro x H8 ⟨rfl, rfl⟩
  simp
  refine (alive_c hX hG _).k ?_
  rintro x H9 ⟨rfl, rfl⟩
  simp
  exact hle.trans hle7
end Go.Cl.Gd
