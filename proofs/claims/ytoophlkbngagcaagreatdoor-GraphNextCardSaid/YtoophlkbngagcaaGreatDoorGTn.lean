/- DERIVED HERE. GraphNext: the law. -/
import Derived.Test.YtoophlkbngagcaaGreatDoorGTo
import Derived.Test.YtoophlkbngagcaaGreatDoorHNq
set_option linter.unusedSimpArgs false
set_option linter.unusedVariables false
namespace Go.Cl.Gd
open Go.Proofs
variable {W : World} {G : Nat → CV}
set_option maxRecDepth 8000
set_option maxHeartbeats 1000000
theorem nextN_len' {u : UUnit} {p : Nat → Bool} : ∀ b, b < u.blocks.length → (nextN u p b).length ≤ u.blocks.length := fun b hb => by
  simp only [nextN]
  split
  · have := List.length_filter_le (wayTo u p (by assumption)) (List.range u.blocks.length)
    rw [List.length_range] at this
    exact this
  · simp
theorem graphNext_c (hX : CxOk (cx W G)) (hG : G 0 = .iptr formsC) (u0 : UUnit) (b : Int) (H : Hp) : CC Tryz.prog W 7 [.agg (unitC u0), ci b] H fun x H' => x = .ret (.bool true) ∧ H' = H := by
  refine CC.shrink ?_
  refine CC.of_cw hX Tryz.func7 rfl rfl (Nat.le_of_ble_eq_true rfl) ?_
  refine CW.walk hX mixed d7 rfl ?_
  simp
  intro q2 hq2
  have hle1 : Le H (H.set q2 (.cells (unitC u0))) := Le.set_new hq2
  have m1 : (H.set q2 (.cells (unitC u0))) q2 = some (.cells (unitC u0)) := set_at
  generalize H.set q2 _ = H1 at hle1 m1 ⊢
  have hc := cut80_c hX u0 H1
  have hok := cut80_ok u0
  simp only [unitC] at m1 hc
  refine CW.walk hX mixed d7 rfl ?_
  simp [d7, m1]
  refine hc.k ?_
  rintro x H2 ⟨csO, rfl, hle2, hvO⟩
  clear hc m1
  generalize hcu : cutU u0 80 2000 = u at hvO hok
  have hUO := cutOk_uok hok
  have hnl : u.blocks.length ≤ 80 := by rw [← hcu]; simp [cutU]; omega
  obtain ⟨o0, o5, rfl⟩ := uv_six hvO
  simp [d7]
  intro q5 hq5
  have hle3 : Le H2 (H2.set q5 (.cells [o0, ci u.params, ci u.regs, ci u.code, ci u.spill, o5])) := Le.set_new hq5
  have m3 : (H2.set q5 (.cells [o0, ci u.params, ci u.regs, ci u.code, ci u.spill, o5])) q5 = some (.cells [o0, ci u.params, ci u.regs, ci u.code, ci u.spill, o5]) := set_at
  generalize H2.set q5 _ = H3 at hle3 m3 ⊢
  have hv := hvO.mono hle3
  have hle := (hle1.trans hle2).trans hle3
  clear hvO hle1 hle2 hle3
  refine CW.walk hX mixed d7 rfl ?_
  simp [m3]
  refine (copy_f hX hok hv.f).k ?_
  rintro x H4 ⟨cs4, rfl, hle4, hv4⟩
  simp
  refine (next_f hX hG hUO b hv4.f).k ?_
  rintro x H5 ⟨hA, hle5⟩
  have hle35 := hle4.trans hle5
  have hv5 := hv.mono hle35
  have m5 := hle35 _ _ m3
  have hle := hle.trans hle35
  clear hle4 hle35 m3 hv hv4
  obtain ⟨vl, e1, rfl⟩ : ∃ vl e1, x = .ret (.tuple [vl, ci e1]) := by
    by_cases he : errU u = 0
    · cases ho : outB u.blocks.length b with
      | true => exact ⟨_, _, hA.out he ho⟩
      | false => obtain ⟨p, c, v, _, h, _⟩ := hA.ok he ho; exact ⟨_, _, h⟩
    · exact ⟨_, _, hA.er he⟩
  simp
  refine CW.walk hX mixed d7 rfl ?_
  simp [m5]
  refine (copy_f hX hok hv5.f).k ?_
  rintro x H6 ⟨cs6, rfl, hle6, hv6⟩
  simp
  refine (before_f hX hG hUO b hv6.f).k ?_
  rintro x H7 ⟨hB, hle7⟩
  have hle57 := hle6.trans hle7
  have hv7 := hv5.mono hle57
  have m7 := hle57 _ _ m5
  have hle := hle.trans hle57
  clear hle6 m5 hv5 hv6
  obtain ⟨vm, e2, rfl⟩ : ∃ vl e1, x = .ret (.tuple [vl, ci e1]) := by
    by_cases he : errU u = 0
    · cases ho : outB u.blocks.length b with
      | true => exact ⟨_, _, hB.out he ho⟩
      | false => obtain ⟨p, c, v, _, h, _⟩ := hB.ok he ho; exact ⟨_, _, h⟩
    · exact ⟨_, _, hB.er he⟩
  simp
  refine CW.walk hX mixed d7 rfl ?_
  simp [m7]
  refine (copy_f hX hok hv7.f).k ?_
  rintro x H8 ⟨cs8, rfl, hle8, hv8⟩
  simp
  refine (entries_f hX hG hUO b hv8.f).k ?_
  rintro x H9 ⟨hC, hle9⟩
  have hle79 := hle8.trans hle9
  have hv9 := hv7.mono hle79
  have m9 := hle79 _ _ m7
  have hle := hle.trans hle79
  clear hle8 m7 hv7 hv8
  obtain ⟨va, vb, vc, e3, rfl⟩ : ∃ va vb vc e1, x = .ret (.tuple [va, vb, vc, ci e1]) := by
    by_cases he : errU u = 0
    · cases ho : outB u.blocks.length b with
      | true => exact ⟨_, _, _, _, hC.out he ho⟩
      | false => obtain ⟨p, c, v0, v1, v2, _, h, _⟩ := hC.ok he ho; exact ⟨_, _, _, _, h⟩
    · exact ⟨_, _, _, _, hC.er he⟩
  simp
  refine CW.walk hX mixed d7 rfl ?_
  simp [m9]
  refine (check24_f hX hUO hv9.f).k ?_
  rintro x HA ⟨rfl, rfl⟩
  by_cases he : errU u = 0
  rotate_left
  · have h1 := hA.er he
    have h2 := hB.er he
    have h3 := hC.er he
    simp at h1 h2 h3
    obtain ⟨rfl, rfl⟩ := h1
    obtain ⟨rfl, rfl⟩ := h2
    obtain ⟨rfl, rfl, rfl, rfl⟩ := h3
    simp [he]
    refine CW.walk hX mixed d7 rfl ?_
    simp [he]
    refine CW.walk hX mixed d7 rfl ?_
    simp [he, show IntKind.i64.wrap (0 : Int) = 0 from wrapI (by omega) (by omega)]
    refine (alive_c hX hG _).k ?_
    rintro x HB ⟨rfl, rfl⟩
    simp
    exact hle
  have hw : wfU u = true := errU_wf.1 he
  have h0 : 0 < u.blocks.length := by obtain ⟨f1, f2, f3, f4, f5, f6, f7, f8, f9, f10, f11⟩ := wfU_facts hw; omega
  obtain ⟨r5, c5, rfl⟩ : ∃ r5 c5, o5 = .ref r5 0 u.blocks.length c5 := by
    obtain ⟨v0, v5, h1, h2⟩ := hv9.b
    have h3 : o5 = v5 := by injection h1 with _ h1; injection h1 with _ h1; injection h1 with _ h1; injection h1 with _ h1; injection h1 with _ h1; injection h1
    rcases h2 with ⟨_, h2⟩ | ⟨r, c, ds, h2, _⟩
    · rw [h2] at h0; simp at h0
    · exact ⟨r, c, h3.trans h2⟩
  cases ho : outB u.blocks.length b with
  | true =>
    have h1 := hA.out he ho
    have h2 := hB.out he ho
    have h3 := hC.out he ho
    simp at h1 h2 h3
    obtain ⟨rfl, rfl⟩ := h1
    obtain ⟨rfl, rfl⟩ := h2
    obtain ⟨rfl, rfl, rfl, rfl⟩ := h3
    simp [he]
    have hcase : b < 0 ∨ (¬ b < 0 ∧ (u.blocks.length : Int) ≤ b) := by
      simp only [outB, Bool.or_eq_true, decide_eq_true_eq] at ho
      omega
    rcases hcase with h1 | ⟨h1, h2⟩
    all_goals
      refine CW.walk hX mixed d7 rfl ?_
      simp [m9, *]
      refine CW.walk hX mixed d7 rfl ?_
      simp [show IntKind.i64.wrap (0 : Int) = 0 from wrapI (by omega) (by omega)]
      refine (alive_c hX hG _).k ?_
      rintro x HB ⟨rfl, rfl⟩
      simp
      exact hle
  | false =>
    obtain ⟨p, c, v1, hp, h1, s1⟩ := hA.ok he ho
    obtain ⟨p2, c2, v2, hp2, h2, s2⟩ := hB.ok he ho
    obtain ⟨p3, c3, w0, w1, w2, hp3, h3, t0, t1, t2⟩ := hC.ok he ho
    obtain ⟨rfl, rfl⟩ := hp.unique hp2
    obtain ⟨rfl, rfl⟩ := hp.unique hp3
    obtain ⟨k, rfl, hk⟩ := outB_no.1 ho
    simp only [Int.toNat_natCast] at s1 s2
    simp at h1 h2 h3
    obtain ⟨rfl, rfl⟩ := h1
    obtain ⟨rfl, rfl⟩ := h2
    obtain ⟨rfl, rfl, rfl, rfl⟩ := h3
    simp [he]
    refine CW.walk hX mixed d7 rfl ?_
    simp [m9, show ¬ (u.blocks.length : Int) ≤ k by omega, show ¬ (k : Int) < 0 by omega]
    refine CW.walk hX mixed d7 rfl ?_
    simp
    refine CW.walk hX mixed d7 rfl ?_
    simp [m9]
    refine (refEntries_f hX hw hk hv9.f).k ?_
    rintro x HB ⟨y0, y1, y2, p4, c4, rfl, hp4, hleB, z0, z1, z2⟩
    obtain ⟨rfl, rfl⟩ := hp.unique hp4
    have mB := hleB _ _ m9
    have hvB := hv9.mono hleB
    simp
    refine CW.walk1 hX mixed d7 rfl ?_
    simp [mB]
    refine (refNext_f hX hw hk hvB.f).k ?_
    rintro x HC ⟨y3, p5, c5', rfl, hp5, hleC, z3⟩
    obtain ⟨rfl, rfl⟩ := hp.unique hp5
    have hlBC := hleB.trans hleC
    have mC := hleC _ _ mB
    have hvC := hvB.mono hleC
    have hnl2 := nextN_len' (p := p) k hk
    have hbl2 := befL_len (N := nextN u p) (i := u.blocks.length) (k := k)
    have he0 := entL_len (u := u) (p := p) (b := (k : Int)) (k := 0) (m := u.blocks.length)
    have he1 := entL_len (u := u) (p := p) (b := (k : Int)) (k := 1) (m := u.blocks.length)
    have he2 := entL_len (u := u) (p := p) (b := (k : Int)) (k := 2) (m := u.blocks.length)
    simp
    refine (same_f hX (((s1.mono hle57).mono hle79).mono hlBC) z3 (by rw [natL_len]; omega)).k ?_
    rintro x HD ⟨rfl, rfl⟩
    simp [mC]
    refine (refOf_f hX hw hvC.f).k ?_
    rintro x HE ⟨vn, rs, sr, p6, c6, rfl, hp6, hleE, hR⟩
    obtain ⟨rfl, rfl⟩ := hp.unique hp6
    simp
    refine (refBefore_c hX hR hnl (fun b hb => by have := nextN_len' (p := p) b hb; omega) k).k ?_
    rintro x HF ⟨y4, rfl, hleF, z4⟩
    have hlCF := hleE.trans hleF
    simp
    refine (same_f hX (((s2.mono hle79).mono hlBC).mono hlCF) z4 (by rw [natL_len]; omega)).k ?_
    rintro x HG ⟨rfl, rfl⟩
    simp
    have hlBF := hlBC.trans hlCF
    have hlf : Le HB HG := hleC.trans hlCF
    refine (same_f hX (t0.mono hlBF) (z0.mono hlf) (by rw [natL_len]; omega)).k ?_
    rintro x HH ⟨rfl, rfl⟩
    simp
    refine (same_f hX (t1.mono hlBF) (z1.mono hlf) (by rw [natL_len]; omega)).k ?_
    rintro x HI ⟨rfl, rfl⟩
    simp
    refine (same_f hX (t2.mono hlBF) (z2.mono hlf) (by rw [natL_len]; omega)).k ?_
    rintro x HJ ⟨rfl, rfl⟩
    simp
    refine (alive_c hX hG _).k ?_
    rintro x HK ⟨rfl, rfl⟩
    simp
    exact hle.trans hlBF
end Go.Cl.Gd
