/- DERIVED HERE. Check, Copy, right; At, In, All. -/
import Derived.Test.YtiohgpapgkjfiaaGreatDoorTA
import Derived.Test.YtiohgpapgkjfiaaGreatDoorCDf
import Derived.Test.YtiohgpapgkjfiaaGreatDoorNM
import Derived.Test.YtiohgpapgkjfiaaGreatDoorCl18
set_option linter.unusedSimpArgs false
set_option linter.unusedVariables false
namespace Go.Cl
open Go.Proofs
variable {W : World} {G : Nat → CV}
set_option maxRecDepth 8000
structure CutOk (u : UUnit) : Prop where
  sz : u.sizes.length ≤ 17
  bl : u.blocks.length ≤ 1000
  op : ∀ b ∈ u.blocks, b.ops.length ≤ 1000000
theorem cutOk_uok {u : UUnit} (h : CutOk u) : UOk u := ⟨by have := h.sz; omega, by have := h.bl; omega, h.op, fun b _ o _ => by simp only [Kd]; omega⟩
theorem remO_all {u : UUnit} (h : CutOk u) : ∀ i, i ≤ u.blocks.length → 1099511627776 - i * 1000000 ≤ remO u.blocks 1099511627776 i
  | 0, _ => by simp [remO]
  | i + 1, hi => by
    have ih := remO_all h i (by omega)
    simp only [remO]
    have hb : (u.blocks.getD i dB).ops.length ≤ 1000000 := by
      rw [List.getD_eq_getElem?_getD, List.getElem?_eq_getElem (by omega)]
      exact h.op _ (List.getElem_mem _)
    have := List.length_take_le' (remO u.blocks 1099511627776 i).toNat (u.blocks.getD i dB).ops
    omega
theorem copy_same {u : UUnit} (h : CutOk u) : cutU u u.blocks.length 1099511627776 = u := by
  obtain ⟨sizes, params, regs, code, spill, blocks⟩ := u
  have hbl := h.bl
  simp only at hbl
  simp only [cutU, UUnit.mk.injEq, true_and]
  refine ⟨List.take_of_length_le h.sz, ?_⟩
  rw [Nat.min_self]
  apply List.ext_getElem?
  intro i
  rw [List.getElem?_map]
  rcases Nat.lt_or_ge i blocks.length with hi | hi
  · rw [List.getElem?_range hi, List.getElem?_eq_getElem hi]
    have hr := remO_all h i (by simp; omega)
    have hg : blocks.getD i dB = blocks[i] := by rw [List.getD_eq_getElem?_getD, List.getElem?_eq_getElem hi]; rfl
    have ho : blocks[i].ops.length ≤ 1000000 := h.op _ (List.getElem_mem hi)
    simp only [Option.map_some, cutBlk, hg]
    simp only at hr
    rw [List.take_of_length_le (by omega)]
  · rw [List.getElem?_eq_none (by simpa using hi), List.getElem?_eq_none hi]
    rfl
/-- Check. -/
theorem check_e (hX : CxOk (cx W G)) (hG : G 0 = .iptr formsC) (u : UUnit) (hu : UOk u) (H : Hp) : CC Tryz.prog W 46 [.agg (unitC u)] H fun x H' => x = .ret (ci (errU u)) ∧ H' = H := by
  refine CC.shrink ?_
  refine CC.of_ev hX mixed d46 Tryz.func46 rfl rfl (Nat.le_of_ble_eq_true rfl) d46_ok ?_
  simp [Tryz.f46, d46, unitC]
  intro q1 hq1
  refine (find_c hX hG u hu _).k ?_
  rintro x H2 ⟨b, a, er, rfl, hle, her⟩
  simp
  exact ⟨(Le.set_new hq1).trans hle, her⟩
theorem hole_set {H : Hp} {r : Nat} {o : Ob} (h : H r = some o) : (hole H r).set r o = H := by
  funext i
  simp only [hole, Hp.set]
  by_cases e : i = r
  · subst e; simp [h]
  · simp [e]
theorem copy_cN (hX : CxOk (cx W G)) (u : UUnit) (hu : CutOk u) (H : Hp) : CC Tryz.prog W 70 [.agg (unitC u)] H fun x H' => ∃ cs, x = .ret (.agg cs) ∧ Le H H' ∧ UV H' cs u ∧ UVN H H' cs u := by
  refine CC.of_ev hX mixed d70 Tryz.func70 rfl rfl (Nat.le_of_ble_eq_true rfl) d70_ok ?_
  simp (config := {contextual := true}) [Tryz.f70, d70, unitC]
  intro q1 hq1 q2 h21 h12 hq2
  generalize hH1 : (H.set q1 _).set q2 _ = H1
  have hle : Le H H1 := by rw [← hH1]; exact (Le.set_new hq1).trans (Le.set_new (by simp [h21, hq2]))
  have m2 : H1 q2 = some (.cells [.nilsl, ci 0, ci 0, ci 0, ci 0, .nilsl]) := by rw [← hH1]; simp
  clear hH1
  have hH1 : (hole H1 q2).set q2 (.cells [.nilsl, ci 0, ci 0, ci 0, ci 0, .nilsl]) = H1 := hole_set m2
  have hc := (cut_cN hX u u.blocks.length 1099511627776 (by have := hu.bl; omega) (by omega) (hole H1 q2)).frame (r := q2) (ob := .cells [.nilsl, ci 0, ci 0, ci 0, ci 0, .nilsl]) hole_at
  rw [copy_same hu, hH1] at hc
  simp only [unitC] at hc
  refine hc.k ?_
  rintro x G ⟨H2, h2, rfl, cs, rfl, hle2, huv, huvn⟩
  have hl6 := huv.l
  simp [hl6]
  have hn : Le H2 (H2.set q2 (.cells cs)) := Le.set_new h2
  exact ⟨((le_hole hle hq2).trans hle2).trans hn, huv.mono hn, (huvn.mono hn).base (le_hole hle hq2)⟩
end Go.Cl
