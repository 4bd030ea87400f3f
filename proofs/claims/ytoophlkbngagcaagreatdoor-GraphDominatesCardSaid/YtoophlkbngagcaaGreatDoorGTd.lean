/- DERIVED HERE. GraphDominates: the law. -/
import Derived.Test.YtoophlkbngagcaaGreatDoorGTo
import Derived.Test.YtoophlkbngagcaaGreatDoorHB
import Derived.Test.YtoophlkbngagcaaGreatDoorHD
set_option linter.unusedSimpArgs false
set_option linter.unusedVariables false
namespace Go.Cl.Gd
open Go.Proofs
variable {W : World} {G : Nat → CV}
set_option maxRecDepth 8000
set_option maxHeartbeats 1000000
theorem idRow_eq {u : UUnit} (hw : wfU u = true) {p : Nat → Bool} {I : Nat → Option Nat} (hD : DomI (nextN u p) (ordL (nextN u p) u.blocks.length) (rkOf (ordL (nextN u p) u.blocks.length)) I) : idRow (domB (nextN u p)) u.blocks.length u.blocks.length = idL u.blocks.length I := by
  have h0 : 0 < u.blocks.length := by obtain ⟨f1, f2, f3, f4, f5, f6, f7, f8, f9, f10, f11⟩ := wfU_facts hw; omega
  have hO := ord_of (N := nextN u p) h0 nextN_lt (f := u.blocks.length) (Nat.le_refl _)
  simp only [idRow, idL]
  refine List.map_congr_left fun b hb => ?_
  exact hD.idB hO.lt (fun a b _ _ => domB_iff) (by simpa using hb)
theorem nextN_len {u : UUnit} {p : Nat → Bool} : ∀ b, b < u.blocks.length → (nextN u p b).length ≤ u.blocks.length := fun b hb => by
  simp only [nextN]
  split
  · have := List.length_filter_le (wayTo u p (by assumption)) (List.range u.blocks.length)
    rw [List.length_range] at this
    exact this
  · simp
theorem graphDom_c (hX : CxOk (cx W G)) (hG : G 0 = .iptr formsC) (u0 : UUnit) (a b : Int) (H : Hp) : CC Tryz.prog W 4 [.agg (unitC u0), ci a, ci b] H fun x H' => x = .ret (.bool true) ∧ H' = H := by
  refine CC.shrink ?_
  refine CC.of_cw hX Tryz.func4 rfl rfl (Nat.le_of_ble_eq_true rfl) ?_
  refine CW.walk hX mixed d4 rfl ?_
  simp
  intro q3 hq3
  have hle1 : Le H (H.set q3 (.cells (unitC u0))) := Le.set_new hq3
  have m1 : (H.set q3 (.cells (unitC u0))) q3 = some (.cells (unitC u0)) := set_at
  generalize H.set q3 _ = H1 at hle1 m1 ⊢
  have hc := cut80_c hX u0 H1
  have hok := cut80_ok u0
  simp only [unitC] at m1 hc
  refine CW.walk hX mixed d4 rfl ?_
  simp [d4, m1]
  refine hc.k ?_
  rintro x H2 ⟨csO, rfl, hle2, hvO⟩
  clear hc m1
  generalize hcu : cutU u0 80 2000 = u at hvO hok
  have hUO := cutOk_uok hok
  have hnl : u.blocks.length ≤ 80 := by rw [← hcu]; simp [cutU]; omega
  obtain ⟨o0, o5, rfl⟩ := uv_six hvO
  simp [d4]
  intro q7 hq7
  have hle3 : Le H2 (H2.set q7 (.cells [o0, ci u.params, ci u.regs, ci u.code, ci u.spill, o5])) := Le.set_new hq7
  have m3 : (H2.set q7 (.cells [o0, ci u.params, ci u.regs, ci u.code, ci u.spill, o5])) q7 = some (.cells [o0, ci u.params, ci u.regs, ci u.code, ci u.spill, o5]) := set_at
  generalize H2.set q7 _ = H3 at hle3 m3 ⊢
  have hv := hvO.mono hle3
  have hle := (hle1.trans hle2).trans hle3
  clear hvO hle1 hle2 hle3
  refine CW.walk hX mixed d4 rfl ?_
  simp [m3]
  refine (copy_f hX hok hv.f).k ?_
  rintro x H4 ⟨cs4, rfl, hle4, hv4⟩
  simp
  refine (idom_f hX hG hUO hv4.f).k ?_
  rintro x H5 ⟨hA, hle5⟩
  have hle35 := hle4.trans hle5
  have hv5 := hv.mono hle35
  have m5 := hle35 _ _ m3
  have hle := hle.trans hle35
  clear hle4 hle5 hle35 m3 hv
  by_cases he : errU u = 0
  rotate_left
  · obtain rfl := hA.er he
    simp
    refine CW.walk hX mixed d4 rfl ?_
    simp [m5]
    refine (copy_f hX hok hv5.f).k ?_
    rintro x H6 ⟨cs6, rfl, hle6, hv6⟩
    simp
    refine (dominates_f hX hG hUO a b hv6.f).k ?_
    rintro x H7 ⟨v7, rfl, hB, rfl⟩
    obtain rfl := hB.er he
    have m7 := hle6 _ _ m5
    simp
    refine CW.walk hX mixed d4 rfl ?_
    simp [m7]
    refine (check24_f hX hUO (hv5.mono hle6).f).k ?_
    rintro x H8 ⟨rfl, rfl⟩
    simp [he]
    refine (alive_c hX hG _).k ?_
    rintro x H9 ⟨rfl, rfl⟩
    simp
    exact hle.trans hle6
  have hw : wfU u = true := errU_wf.1 he
  have h0 : 0 < u.blocks.length := by obtain ⟨f1, f2, f3, f4, f5, f6, f7, f8, f9, f10, f11⟩ := wfU_facts hw; omega
  obtain ⟨p, c, I, v, hp, hDI, rfl, hsv⟩ := hA.ok he
  simp
  refine CW.walk hX mixed d4 rfl ?_
  simp [m5]
  refine (copy_f hX hok hv5.f).k ?_
  rintro x H6 ⟨cs6, rfl, hle6, hv6⟩
  simp
  refine (dominates_f hX hG hUO a b hv6.f).k ?_
  rintro x H7 ⟨v7, rfl, hB, rfl⟩
  have m7 := hle6 _ _ m5
  have hv7 := hv5.mono hle6
  have hsv := hsv.mono hle6
  have hle := hle.trans hle6
  clear hv5 m5 hv6 hle6
  obtain ⟨t, f, rfl, htf⟩ : ∃ (t : Bool) (f : Int), v7 = .tuple [.bool t, ci f] ∧ ((outB u.blocks.length a || outB u.blocks.length b) = true → t = false ∧ f = 2) ∧ ((outB u.blocks.length a || outB u.blocks.length b) = false → f = 0 ∧ (t = true ↔ Dom (nextN u p) a.toNat b.toNat)) := by
    cases ho : outB u.blocks.length a || outB u.blocks.length b with
    | true => exact ⟨false, 2, hB.out he ho, fun _ => ⟨rfl, rfl⟩, fun h => by cases h⟩
    | false =>
      obtain ⟨p2, c2, t, hp2, h1, h2⟩ := hB.ok he ho
      obtain ⟨rfl, rfl⟩ := hp.unique hp2
      exact ⟨t, 0, h1, (fun h => by cases h), fun _ => ⟨rfl, h2⟩⟩
  simp
  refine CW.walk hX mixed d4 rfl ?_
  simp [m7]
  refine (check24_f hX hUO hv7.f).k ?_
  rintro x H8 ⟨rfl, rfl⟩
  simp [he]
  refine CW.walk hX mixed d4 rfl ?_
  simp [m7]
  refine (refOf_f hX hw hv7.f).k ?_
  rintro x H9 ⟨vn, rs, s, p2, c2, rfl, hp2, hle9, hR⟩
  obtain ⟨rfl, rfl⟩ := hp.unique hp2
  obtain ⟨rn, cn, cs9, hvn, _⟩ := hR.rows
  subst hvn
  have m9 := hle9 _ _ m7
  have hsv := hsv.mono hle9
  have hv9 := hv7.mono hle9
  have hle := hle.trans hle9
  simp
  intro q13 hq13
  have hleA : Le H9 (H9.set q13 (.cells [.ref rn 0 u.blocks.length cn, .ref rs 0 u.blocks.length u.blocks.length])) := Le.set_new hq13
  have mg : (H9.set q13 (.cells [.ref rn 0 u.blocks.length cn, .ref rs 0 u.blocks.length u.blocks.length])) q13 = some (.cells [.ref rn 0 u.blocks.length cn, .ref rs 0 u.blocks.length u.blocks.length]) := set_at
  generalize H9.set q13 _ = HA at hleA mg ⊢
  have mA := hleA _ _ m9
  have hR := hR.mono hleA
  have hsv := hsv.mono hleA
  have hvA := hv9.mono hleA
  have hle := hle.trans hleA
  clear m9 m7 hv9 hv7
  obtain ⟨r5, c5, rfl⟩ : ∃ r5 c5, o5 = .ref r5 0 u.blocks.length c5 := by
    obtain ⟨v0, v5, h1, h2⟩ := hvA.b
    have h3 : o5 = v5 := by injection h1 with _ h1; injection h1 with _ h1; injection h1 with _ h1; injection h1 with _ h1; injection h1 with _ h1; injection h1
    rcases h2 with ⟨_, h2⟩ | ⟨r, c, ds, h2, _⟩
    · rw [h2] at h0; simp at h0
    · exact ⟨r, c, h3.trans h2⟩
  have hNl : ∀ b, b < u.blocks.length → (nextN u p b).length ≤ 100000 := fun b hb => by have := nextN_len (p := p) b hb; omega
  refine CW.walk hX mixed d4 rfl ?_
  simp [mg]
  refine (idomR_c hX hR h0 hnl nextN_lt hNl).k ?_
  rintro x HB ⟨v2, rfl, hleB, hv2⟩
  rw [idRow_eq hw hDI] at hv2
  simp
  refine (same_f hX (hsv.mono hleB) hv2 (by simp [idL]; omega)).k ?_
  rintro x HC ⟨rfl, rfl⟩
  have hR := hR.mono hleB
  have mg := hleB _ _ mg
  have mA := hleB _ _ mA
  have hle := hle.trans hleB
  clear hv2 hsv hvA hleA hleB
  simp
  cases ho : outB u.blocks.length a || outB u.blocks.length b with
  | true =>
    obtain ⟨rfl, rfl⟩ := htf.1 ho
    have hcase : a < 0 ∨ (¬ a < 0 ∧ (u.blocks.length : Int) ≤ a) ∨ (¬ a < 0 ∧ ¬ (u.blocks.length : Int) ≤ a ∧ b < 0) ∨ (¬ a < 0 ∧ ¬ (u.blocks.length : Int) ≤ a ∧ ¬ b < 0 ∧ (u.blocks.length : Int) ≤ b) := by
      simp only [outB, Bool.or_eq_true, decide_eq_true_eq] at ho
      omega
    refine CW.walk hX mixed d4 rfl ?_
    rcases hcase with h1 | ⟨h1, h2⟩ | ⟨h1, h2, h3⟩ | ⟨h1, h2, h3, h4⟩
    all_goals
      simp [mA, *]
      refine (alive_c hX hG _).k ?_
      rintro x HD ⟨rfl, rfl⟩
      simp
      exact hle
  | false =>
    obtain ⟨rfl, ht⟩ := htf.2 ho
    rw [Bool.or_eq_false_iff, outB_no, outB_no] at ho
    obtain ⟨⟨a, rfl, ha⟩, ⟨b, rfl, hb⟩⟩ := ho
    simp only [Int.toNat_natCast] at ht
    refine CW.walk hX mixed d4 rfl ?_
    simp [mA, show ¬ (u.blocks.length : Int) ≤ a by omega, show ¬ (u.blocks.length : Int) ≤ b by omega]
    refine CW.walk hX mixed d4 rfl ?_
    simp [mg]
    refine (doms_c hX hR h0 hnl nextN_lt hNl).k ?_
    rintro x HD ⟨vD, rfl, hleD, r, c9, csD, rfl, hr, hra⟩
    obtain ⟨ra, f1, f2⟩ := hra a ha
    have f3 := boolC_get (p := domB (nextN u p) a) hb
    have htt : t = domB (nextN u p) a b := by
      rw [Bool.eq_iff_iff, domB_iff]; exact ht
    simp [hr, f1, f2, ha, hb, boolC_len, htt]
    refine (alive_c hX hG _).k ?_
    rintro x HE ⟨rfl, rfl⟩
    simp
    refine CW.walk1 hX mixed d4 rfl ?_
    simp
    exact hle.trans hleD
end Go.Cl.Gd
