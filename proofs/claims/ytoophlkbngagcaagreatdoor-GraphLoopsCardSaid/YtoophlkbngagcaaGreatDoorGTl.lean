/- DERIVED HERE. GraphLoops: the law. -/
import Derived.Test.YtoophlkbngagcaaGreatDoorHGq
import Derived.Test.YtoophlkbngagcaaGreatDoorCP
set_option linter.unusedSimpArgs false
set_option linter.unusedVariables false
namespace Go.Cl.Gd
open Go.Proofs
variable {W : World} {G : Nat → CV}
set_option maxRecDepth 8000
set_option maxHeartbeats 1000000
theorem uv_six1 {H : Hp} {cs : List CV} {u : UUnit} (h : UV H cs u) : ∃ o0 o5, cs = [o0, ci u.params, ci u.regs, ci u.code, ci u.spill, o5] := by
  obtain ⟨v0, v5, h1, _⟩ := h.b
  exact ⟨v0, v5, h1⟩
theorem nextN_lenL {u : UUnit} {p : Nat → Bool} : ∀ b, b < u.blocks.length → (nextN u p b).length ≤ u.blocks.length := fun b hb => by
  simp only [nextN]
  split
  · have := List.length_filter_le (wayTo u p (by assumption)) (List.range u.blocks.length)
    rw [List.length_range] at this
    exact this
  · simp
theorem graphLoops_c (hX : CxOk (cx W G)) (hG : G 0 = .iptr formsC) (u0 : UUnit) (H : Hp) : CC Tryz.prog W 5 [.agg (unitC u0)] H fun x H' => x = .ret (.bool true) ∧ H' = H := by
  refine CC.shrink ?_
  refine CC.of_cw hX Tryz.func5 rfl rfl (Nat.le_of_ble_eq_true rfl) ?_
  refine CW.walk hX mixed d5 rfl ?_
  simp
  intro q1 hq1
  have hle1 : Le H (H.set q1 (.cells (unitC u0))) := Le.set_new hq1
  have m1 : (H.set q1 (.cells (unitC u0))) q1 = some (.cells (unitC u0)) := set_at
  generalize H.set q1 _ = H1 at hle1 m1 ⊢
  have hc := cut80_c hX u0 H1
  have hok := cut80_ok u0
  simp only [unitC] at m1 hc
  refine CW.walk hX mixed d5 rfl ?_
  simp [d5, m1]
  refine hc.k ?_
  rintro x H2 ⟨csO, rfl, hle2, hvO⟩
  clear hc m1
  generalize hcu : cutU u0 80 2000 = u at hvO hok
  have hUO := cutOk_uok hok
  have hnl : u.blocks.length ≤ 80 := by rw [← hcu]; simp [cutU]; omega
  obtain ⟨o0, o5, rfl⟩ := uv_six1 hvO
  simp [d5]
  intro q3 hq3
  have hle3 : Le H2 (H2.set q3 (.cells [o0, ci u.params, ci u.regs, ci u.code, ci u.spill, o5])) := Le.set_new hq3
  have m3 : (H2.set q3 (.cells [o0, ci u.params, ci u.regs, ci u.code, ci u.spill, o5])) q3 = some (.cells [o0, ci u.params, ci u.regs, ci u.code, ci u.spill, o5]) := set_at
  generalize H2.set q3 _ = H3 at hle3 m3 ⊢
  have hv := hvO.mono hle3
  have hle := (hle1.trans hle2).trans hle3
  clear hvO hle1 hle2 hle3
  refine CW.walk hX mixed d5 rfl ?_
  simp [m3]
  refine (copy_f hX hok hv.f).k ?_
  rintro x H4 ⟨cs4, rfl, hle4, hv4⟩
  simp
  refine (loopsB_f hX hG hUO hnl hv4.f).k ?_
  rintro x H5 ⟨hB, hle5⟩
  have hle35 := hle4.trans hle5
  have hv5 := hv.mono hle35
  have m5 := hle35 _ _ m3
  have hle := hle.trans hle35
  clear hle4 hle5 hle35 m3 hv hv4
  by_cases he : errU u = 0
  rotate_left
  · obtain rfl := hB.er he
    simp
    refine CW.walk hX mixed d5 rfl ?_
    simp [m5]
    refine (copy_f hX hok hv5.f).k ?_
    rintro x H6 ⟨cs6, rfl, hle6, hv6⟩
    simp
    refine (depth_f hX hG hUO hnl hv6.f).k ?_
    rintro x H7 ⟨hD, hle7⟩
    obtain rfl := hD.er he
    have hle57 := hle6.trans hle7
    have m7 := hle57 _ _ m5
    have hv7 := hv5.mono hle57
    have hle := hle.trans hle57
    clear hle6 hle7 hle57 m5 hv5 hv6
    simp
    refine CW.walk hX mixed d5 rfl ?_
    simp [m7]
    refine (copy_f hX hok hv7.f).k ?_
    rintro x H8 ⟨cs8, rfl, hle8, hv8⟩
    simp
    refine (reducible_f hX hG hUO hnl hv8.f).k ?_
    rintro x H9 ⟨v9, rfl, hR, rfl⟩
    obtain rfl := hR.er he
    have m9 := hle8 _ _ m7
    have hle := hle.trans hle8
    simp
    refine CW.walk hX mixed d5 rfl ?_
    simp [m9]
    refine (check24_f hX hUO (hv7.mono hle8).f).k ?_
    rintro x HA ⟨rfl, rfl⟩
    simp [he]
    refine (alive_c hX hG _).k ?_
    rintro x HB ⟨rfl, rfl⟩
    simp
    exact hle
  obtain ⟨p, c, v, I, hp, hDI, rfl, hL⟩ := hB.ok he
  have hw : wfU u = true := errU_wf.1 he
  have h0 : 0 < u.blocks.length := by obtain ⟨f1, f2, f3, f4, f5, f6, f7, f8, f9, f10, f11⟩ := wfU_facts hw; omega
  simp
  refine CW.walk hX mixed d5 rfl ?_
  simp [m5]
  refine (copy_f hX hok hv5.f).k ?_
  rintro x H6 ⟨cs6, rfl, hle6, hv6⟩
  simp
  refine (depth_f hX hG hUO hnl hv6.f).k ?_
  rintro x H7 ⟨hD, hle7⟩
  obtain ⟨p2, c2, v2, hp2, rfl, hS⟩ := hD.ok he
  obtain ⟨rfl, rfl⟩ := hp.unique hp2
  have hle57 := hle6.trans hle7
  have m7 := hle57 _ _ m5
  have hv7 := hv5.mono hle57
  have hL := hL.mono hle57
  have hle := hle.trans hle57
  clear hle6 hle7 hle57 m5 hv5 hv6 hD hB hp2
  simp
  refine CW.walk hX mixed d5 rfl ?_
  simp [m7]
  refine (copy_f hX hok hv7.f).k ?_
  rintro x H8 ⟨cs8, rfl, hle8, hv8⟩
  simp
  refine (reducible_f hX hG hUO hnl hv8.f).k ?_
  rintro x H9 ⟨v9, rfl, hR, rfl⟩
  obtain ⟨p2, c2, t, hp2, rfl, ht⟩ := hR.ok he
  obtain ⟨rfl, rfl⟩ := hp.unique hp2
  have m9 := hle8 _ _ m7
  have hv9 := hv7.mono hle8
  have hL := hL.mono hle8
  have hS := hS.mono hle8
  have hle := hle.trans hle8
  clear hle8 m7 hv7 hv8 hR hp2
  simp
  refine CW.walk hX mixed d5 rfl ?_
  simp [m9]
  refine (check24_f hX hUO hv9.f).k ?_
  rintro x HA ⟨rfl, rfl⟩
  simp [he]
  refine CW.walk hX mixed d5 rfl ?_
  simp [m9]
  refine (refOf_f hX hw hv9.f).k ?_
  rintro x HB ⟨vn, rs, s, p2, c2, rfl, hp2, hleB, hR⟩
  obtain ⟨rfl, rfl⟩ := hp.unique hp2
  obtain ⟨rn, cn, cs9, hvn, _⟩ := hR.rows
  subst hvn
  simp
  intro q11 hq11
  have hleC : Le HB (HB.set q11 (.cells [.ref rn 0 u.blocks.length cn, .ref rs 0 u.blocks.length u.blocks.length])) := Le.set_new hq11
  have mg : (HB.set q11 (.cells [.ref rn 0 u.blocks.length cn, .ref rs 0 u.blocks.length u.blocks.length])) q11 = some (.cells [.ref rn 0 u.blocks.length cn, .ref rs 0 u.blocks.length u.blocks.length]) := set_at
  generalize HB.set q11 _ = HC at hleC mg ⊢
  have hleBC := hleB.trans hleC
  have hR := hR.mono hleC
  have hL := hL.mono hleBC
  have hS := hS.mono hleBC
  have hle := hle.trans hleBC
  clear m9 hv9 hleB hleC hleBC
  have hNl : ∀ b, b < u.blocks.length → (nextN u p b).length ≤ 80 := fun b hb => by have := nextN_lenL (p := p) b hb; omega
  have hlen := loopsP_len (N := nextN u p) (n := u.blocks.length) (m := u.blocks.length)
  have hmm : ∀ l ∈ loopsP (nextN u p) u.blocks.length u.blocks.length, l.2.1.length ≤ 1000 ∧ l.2.2.length ≤ 1000 := fun l hl => by
    obtain ⟨a1, a2, _⟩ := loopsP_mem hl
    refine ⟨?_, ?_⟩
    · rw [a1]; have : (tailsP (nextN u p) u.blocks.length l.1).length ≤ u.blocks.length := tailsP_len; omega
    · rw [a2]; have := loopB_len (N := nextN u p) (n := u.blocks.length) (h := l.1) (T := l.2.1); omega
  refine CW.walk hX mixed d5 rfl ?_
  simp [d5, mg]
  refine (refLoops_c hX hR h0 hnl nextN_lt hNl).k ?_
  rintro x HD ⟨vL, rfl, hleD, hL2⟩
  simp
  refine (sameLoops_c hX (hL.mono hleD) hL2 (by omega) hmm).k ?_
  rintro x HE ⟨rfl, rfl⟩
  have mg := hleD _ _ mg
  have hR := hR.mono hleD
  have hS := hS.mono hleD
  have hle := hle.trans hleD
  clear hL hL2 hleD
  simp [mg]
  refine (refDepth_c hX hR h0 hnl nextN_lt hNl).k ?_
  rintro x HF ⟨vS, rfl, hleF, hS2⟩
  simp
  refine (same_f hX (hS.mono hleF) hS2 (by rw [tblL_len]; omega)).k ?_
  rintro x HG ⟨rfl, rfl⟩
  have mg := hleF _ _ mg
  have hR := hR.mono hleF
  have hle := hle.trans hleF
  simp [mg]
  refine (refReducible_c hX hR h0 hnl nextN_lt hNl).k ?_
  rintro x HH ⟨t2, rfl, hleH, ht2⟩
  have htt : t = t2 := by rw [Bool.eq_iff_iff, ht, ht2]
  subst htt
  simp
  refine (alive_c hX hG _).k ?_
  rintro x HI ⟨rfl, rfl⟩
  simp
  refine CW.walk1 hX mixed d5 rfl ?_
  simp
  exact hle.trans hleH
end Go.Cl.Gd
