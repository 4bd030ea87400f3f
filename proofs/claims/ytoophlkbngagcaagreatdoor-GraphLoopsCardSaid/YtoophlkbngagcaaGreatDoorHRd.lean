/- DERIVED HERE. graph.Reducible. -/
import Derived.Test.YtoophlkbngagcaaGreatDoorHA
set_option linter.unusedSimpArgs false
set_option linter.unusedVariables false
namespace Go.Cl.Gd
open Go.Proofs
variable {W : World} {G : Nat → CV}
set_option maxRecDepth 8000
set_option maxHeartbeats 1000000
/-- Each way back from a block goes to one that dominates it. -/
def RedB (N : Nat → List Nat) (order : List Nat) (b : Nat) : Prop := ∀ k ∈ N b, rkOf order k ≤ rkOf order b → Dom N k b
def RedU (N : Nat → List Nat) (order : List Nat) : Prop := ∀ b ∈ order, RedB N order b
structure rdI (H : Hp) (N : Nat → List Nat) (order : List Nat) (gp ro co : Nat) (d m : Nat) (s' : CA) (H' : Hp) : Prop where
  ex : ∃ i i23 : Nat, m = order.length - i ∧ i ≤ order.length ∧ i23 + d = i ∧ s'.env 4 = .ptr gp 0 ∧ s'.env 21 = .ref ro 0 order.length co ∧ s'.env 22 = .int .i64 order.length ∧ s'.env 23 = .int .i64 i23 ∧ s'.ds = [] ∧ H' = H ∧ ∀ b ∈ order.take i, RedB N order b
structure rdW (H : Hp) (order : List Nat) (gp ro co b i : Nat) (w : CV) (len : Nat) (s' : CA) (H' : Hp) : Prop where
  ex : s'.env 4 = .ptr gp 0 ∧ s'.env 7 = .int .i64 b ∧ s'.env 21 = .ref ro 0 order.length co ∧ s'.env 22 = .int .i64 order.length ∧ s'.env 23 = .int .i64 i ∧ s'.env 33 = w ∧ s'.env 34 = .int .i64 len ∧ s'.env 35 = ci 0 ∧ s'.ds = [] ∧ H' = H
structure rdJ (H : Hp) (N : Nat → List Nat) (order : List Nat) (gp ro co b i : Nat) (w : CV) (d m : Nat) (s' : CA) (H' : Hp) : Prop where
  ex : ∃ j j35 : Nat, m = (N b).length - j ∧ j ≤ (N b).length ∧ j35 + d = j ∧ s'.env 4 = .ptr gp 0 ∧ s'.env 7 = .int .i64 b ∧ s'.env 21 = .ref ro 0 order.length co ∧ s'.env 22 = .int .i64 order.length ∧ s'.env 23 = .int .i64 i ∧ s'.env 33 = w ∧ s'.env 34 = .int .i64 (N b).length ∧ s'.env 35 = .int .i64 j35 ∧ s'.ds = [] ∧ H' = H ∧ ∀ k ∈ (N b).take j, rkOf order k ≤ rkOf order b → Dom N k b
/-- What graph.Reducible answers. -/
structure RdA (u : UUnit) (x : CV) : Prop where
  er : errU u ≠ 0 → x = .tuple [.bool false, ci (errU u)]
  ok : errU u = 0 → ∃ p c t, PLeast (opsOf u) p c ∧ x = .tuple [.bool t, ci 0] ∧ (t = true ↔ RedU (nextN u p) (ordL (nextN u p) u.blocks.length))
theorem take_get {α : Type} {L : List α} {j : Nat} {x : α} (h : L[j]? = some x) : L.take (j + 1) = L.take j ++ [x] := by
  obtain ⟨hj, e⟩ := List.getElem?_eq_some_iff.1 h
  rw [List.take_succ_eq_append_getElem hj, e]
theorem reducible_c (hX : CxOk (cx W G)) (hG : G 0 = .iptr formsC) (u : UUnit) (hu : UOk u) (hn80 : u.blocks.length ≤ 80) (H : Hp) : CC Tryz.prog W 22 [.agg (unitC u)] H fun x H' => ∃ v, x = .ret v ∧ RdA u v := by
  refine CC.of_cw hX Tryz.func22 rfl rfl (Nat.le_of_ble_eq_true rfl) ?_
  refine CW.walk hX mixed d22 rfl ?_
  simp
  intro q1 hq1
  by_cases he : errU u = 0
  rotate_left
  · have hc := gof_e hX hG u hu he (H.set q1 (.cells (unitC u)))
    refine CW.walk hX mixed d22 rfl ?_
    simp [unitC]
    simp only [unitC] at hc
    refine hc.k ?_
    rintro x H2 ⟨rfl, rfl⟩
    simp
    refine CW.walk hX mixed d22 rfl ?_
    simp [he]
    exact ⟨fun _ => rfl, fun q => absurd q he⟩
  have hw : wfU u = true := errU_wf.1 he
  have h0 : 0 < u.blocks.length := by obtain ⟨f1, f2, f3, f4, f5, f6, f7, f8, f9, f10, f11⟩ := wfU_facts hw; omega
  have hc := gof_c hX hG u hw (H.set q1 (.cells (unitC u)))
  refine CW.walk hX mixed d22 rfl ?_
  simp [unitC]
  simp only [unitC] at hc
  refine hc.k ?_
  rintro x HK ⟨gp, p, c, rn, rb, ro, ri, rk, co, ns, bs, ex, I, rfl, hp, h⟩
  simp
  refine CW.walk hX mixed d22 rfl ?_
  simp
  have mg := h.g
  have mn := h.n
  have mo := h.o
  have mk := h.k
  have hO := ord_of (N := nextN u p) h0 nextN_lt (f := u.blocks.length) (Nat.le_refl _)
  obtain ⟨order, hor⟩ : ∃ order, ordL (nextN u p) u.blocks.length = order := ⟨_, rfl⟩
  have hfin : ∀ t : Bool, (t = true ↔ RedU (nextN u p) order) → RdA u (.tuple [.bool t, ci 0]) := fun t ht => ⟨fun q => absurd he q, fun _ => ⟨p, c, t, hp, rfl, by rw [hor]; exact ht⟩⟩
  have hlt : ∀ b ∈ order, b < u.blocks.length := by rw [← hor]; exact hO.lt
  have hol : order.length ≤ u.blocks.length := by rw [← hor]; exact nodup_le u.blocks.length _ hO.nd hO.lt
  have hb80 : ∀ b, b < u.blocks.length → (nextN u p b).length ≤ 80 := fun b hb => by
    simp only [nextN]
    split
    · have := List.length_filter_le (wayTo u p (by assumption)) (List.range u.blocks.length)
      rw [List.length_range] at this
      omega
    · simp
  rw [hor] at mg mo mk
  refine CW.cut (fun s' H' => s'.ds = [] ∧ RedU (nextN u p) order) ?_ ?_
  · refine CW.walk hX mixed d22 rfl ?_
    simp [mg]
    refine CW.block ?_
    refine CW.loop (rdI HK (nextN u p) order gp ro co 0) ?_ (m := order.length) ⟨0, 0, rfl, by omega, rfl, by simp, by simp, by simp, by simp, rfl, rfl, by simp⟩
    rintro m ⟨e, ds⟩ H2 ⟨i, i23, rfl, hi, hi23, e4, e21, e22, e23, rfl, rfl, hall⟩
    obtain rfl : i23 = i := by omega
    dsimp only at e4 e21 e22 e23
    by_cases hil : i23 < order.length
    rotate_left
    · refine CW.walk hX mixed d22 rfl ?_
      simp [e22, e23, hil]
      refine CW.walk hX mixed d22 rfl ?_
      simp
      intro b hb
      exact hall b (by rwa [List.take_of_length_le (by omega)])
    obtain ⟨b, hb⟩ : ∃ b, order[i23]? = some b := ⟨_, List.getElem?_eq_getElem hil⟩
    have hbo : b ∈ order := List.mem_of_getElem? hb
    have hbn := hlt b hbo
    have gb : (nums (natL order) ex)[i23]? = some (ci (b : Int)) := by
      rw [nums, List.getElem?_append_left (by simpa [natL] using hil)]
      simp [natL, hb]
    refine CW.walk hX mixed d22 rfl ?_
    simp [e22, e23, hil]
    refine CW.walk hX mixed d22 rfl ?_
    simp
    refine CW.cut (rdI H2 (nextN u p) order gp ro co 1 (order.length - (i23 + 1))) ?_ ?_
    · refine CW.block ?_
      refine CW.walk hX mixed d22 rfl ?_
      simp [e21, e23, mo, hil, gb]
      obtain ⟨w, hw2, hsl⟩ := h.nn b hbn
      refine CW.cut (rdW H2 order gp ro co b i23 w (nextN u p b).length) ?_ ?_
      · rcases hsl with ⟨rfl, hl⟩ | ⟨r, c2, cs2, rfl, hr, hc2⟩
        · have hl0 : nextN u p b = [] := by simpa [natL] using hl
          refine CW.walk1 hX mixed d22 rfl ?_
          simp [e4, mg, mn, hbn, hw2, hl0]
          exact ⟨by simp [e4], by simp, by simp [e21], by simp [e22], by simp [e23], by simp, by simp, by simp, rfl, rfl⟩
        · rw [natL_len] at hw2 ⊢
          refine CW.walk1 hX mixed d22 rfl ?_
          simp [e4, mg, mn, hbn, hw2]
          exact ⟨by simp [e4], by simp, by simp [e21], by simp [e22], by simp [e23], by simp, by simp, by simp, rfl, rfl⟩
      clear e4 e21 e22 e23
      rintro ⟨e, ds⟩ H3 ⟨e4, e7, e21, e22, e23, e33, e34, e35, rfl, rfl⟩
      dsimp only at e4 e7 e21 e22 e23 e33 e34 e35
      refine CW.block ?_
      refine CW.loop (rdJ H3 (nextN u p) order gp ro co b i23 w 0) ?_ (m := (nextN u p b).length) ⟨0, 0, rfl, by omega, rfl, by simp [e4], by simp [e7], by simp [e21], by simp [e22], by simp [e23], by simp [e33], by simp [e34], by simp [e35], rfl, rfl, by simp⟩
      clear e4 e7 e21 e22 e23 e33 e34 e35
      rintro m ⟨e, ds⟩ H4 ⟨j, j35, rfl, hj, hj35, e4, e7, e21, e22, e23, e33, e34, e35, rfl, rfl, hin⟩
      obtain rfl : j35 = j := by omega
      dsimp only at e4 e7 e21 e22 e23 e33 e34 e35
      by_cases hjl : j35 < (nextN u p b).length
      rotate_left
      · refine CW.walk hX mixed d22 rfl ?_
        simp [e34, e35, hjl]
        refine CW.walk hX mixed d22 rfl ?_
        simp
        refine ⟨i23 + 1, i23, rfl, by omega, rfl, by simp [e4], by simp [e21], by simp [e22], by simp [e23], rfl, rfl, fun b' hb' => ?_⟩
        rw [take_get hb, List.mem_append] at hb'
        rcases hb' with hb' | hb'
        · exact hall b' hb'
        · simp at hb'; subst hb'
          rw [List.take_of_length_le (by omega)] at hin
          exact hin
      obtain ⟨k, hk⟩ : ∃ k, (nextN u p b)[j35]? = some k := ⟨_, List.getElem?_eq_getElem hjl⟩
      have hkm := List.mem_of_getElem? hk
      have hkn := nextN_lt b hbn k hkm
      have hb8 := hb80 b hbn
      have gk := genC_get (f := rkOf order) hkn
      have gb2 := genC_get (f := rkOf order) hbn
      obtain ⟨r, c2, cs2, rfl, hr, hc2⟩ : ∃ r c2 cs2, w = .ref r 0 (nextN u p b).length c2 ∧ H4 r = some (.cells cs2) ∧ cs2[j35]? = some (ci (k : Int)) := by
        rcases hsl with ⟨_, hl⟩ | ⟨r, c2, cs2, e, hr, hc2⟩
        · have hl0 : nextN u p b = [] := by simpa [natL] using hl
          rw [hl0] at hjl; simp at hjl
        · exact ⟨r, _, cs2, by rw [e, natL_len], hr, hc2 j35 k (by simp [natL, hk])⟩
      refine CW.walk hX mixed d22 rfl ?_
      simp [e34, e35, hjl]
      refine CW.walk hX mixed d22 rfl ?_
      simp
      refine CW.cut (rdJ H4 (nextN u p) order gp ro co b i23 (.ref r 0 (nextN u p b).length c2) 1 ((nextN u p b).length - (j35 + 1))) ?_ ?_
      · have hgo : ∀ en : Env, (rkOf order k ≤ rkOf order b → Dom (nextN u p) k b) → en 4 = .ptr gp 0 → en 7 = .int .i64 b → en 21 = .ref ro 0 order.length co → en 22 = .int .i64 order.length → en 23 = .int .i64 i23 → en 33 = .ref r 0 (nextN u p b).length c2 → en 34 = .int .i64 (nextN u p b).length → en 35 = .int .i64 j35 → rdJ H4 (nextN u p) order gp ro co b i23 (.ref r 0 (nextN u p b).length c2) 1 ((nextN u p b).length - (j35 + 1)) ⟨en, []⟩ H4 := fun en hd g4 g7 g21 g22 g23 g33 g34 g35 => ⟨j35 + 1, j35, rfl, by omega, rfl, g4, g7, g21, g22, g23, g33, g34, g35, rfl, rfl, fun k' hk' => by
          rw [take_get hk, List.mem_append] at hk'
          rcases hk' with hk' | hk'
          · exact hin k' hk'
          · simp at hk'; subst hk'; exact hd⟩
        refine CW.block ?_
        refine CW.walk hX mixed d22 rfl ?_
        simp [e33, e35, hjl, hr, hc2]
        refine CW.walk hX mixed d22 rfl ?_
        by_cases hrk : rkOf order k ≤ rkOf order b
        rotate_left
        · simp [d22, e4, e7, mg, mk, gk, gb2, hkn, hbn, hrk]
          refine CW.condE hX (b := false) (by simp) (fun h => by cases h) (fun _ => ?_)
          refine CW.walk1 hX mixed d22 rfl ?_
          simp
          exact hgo _ (fun h => absurd h hrk) (by simp [e4]) (by simp [e7]) (by simp [e21]) (by simp [e22]) (by simp [e23]) (by simp [e33]) (by simp [e34]) (by simp [e35])
        · simp [d22, e4, e7, mg, mk, gk, gb2, hkn, hbn, hrk]
          refine (over_c hX h nextN_lt hkn hbn).k ?_
          rintro x H5 ⟨⟨t, rfl, ht⟩, rfl⟩
          cases t with
          | true =>
            simp
            refine CW.condE hX (b := false) (by simp) (fun h => by cases h) (fun _ => ?_)
            refine CW.walk1 hX mixed d22 rfl ?_
            simp
            exact hgo _ (fun _ => ht.1 rfl) (by simp [e4]) (by simp [e7]) (by simp [e21]) (by simp [e22]) (by simp [e23]) (by simp [e33]) (by simp [e34]) (by simp [e35])
          | false =>
            simp
            refine CW.condE hX (b := true) (by simp) (fun _ => ?_) (fun h => by cases h)
            refine CW.walk hX mixed d22 rfl ?_
            simp
            refine CW.walk1 hX mixed d22 rfl ?_
            simp
            exact hfin false ⟨fun h => (by cases h), fun h => (by have := ht.2 (h b hbo k hkm hrk); cases this)⟩
      clear e4 e7 e21 e22 e23 e33 e34 e35
      rintro ⟨e, ds⟩ H5 ⟨j, j35', hjj, hj, hj35, e4, e7, e21, e22, e23, e33, e34, e35, rfl, rfl, hin2⟩
      dsimp only at e4 e7 e21 e22 e23 e33 e34 e35
      obtain rfl : j = j35 + 1 := by omega
      obtain rfl : j35' = j35 := by omega
      refine CW.walk1 hX mixed d22 rfl ?_
      simp [e35]
      exact ⟨(nextN u p b).length - (j35' + 1), by omega, j35' + 1, j35' + 1, rfl, hj, rfl, by simp [e4], by simp [e7], by simp [e21], by simp [e22], by simp [e23], by simp [e33], by simp [e34], by simp; exact wrapI (by omega) (by omega), rfl, rfl, hin2⟩
    clear e4 e21 e22 e23
    rintro ⟨e, ds⟩ H3 ⟨i, i23', hii, hi, hi23, e4, e21, e22, e23, rfl, rfl, hall2⟩
    dsimp only at e4 e21 e22 e23
    obtain rfl : i = i23 + 1 := by omega
    obtain rfl : i23' = i23 := by omega
    refine CW.walk1 hX mixed d22 rfl ?_
    simp [e23]
    exact ⟨order.length - (i23' + 1), by omega, i23' + 1, i23' + 1, rfl, hi, rfl, by simp [e4], by simp [e21], by simp [e22], by simp; exact wrapI (by omega) (by omega), rfl, rfl, hall2⟩
  rintro ⟨e, ds⟩ H2 ⟨rfl, hred⟩
  refine CW.walk hX mixed d22 rfl ?_
  simp
  refine CW.walk1 hX mixed d22 rfl ?_
  simp
  exact hfin true (by simpa using hred)
theorem RdA.plain {u : UUnit} {x : CV} (h : RdA u x) : plainV x = true := by
  by_cases he : errU u = 0
  · obtain ⟨p, c, t, _, rfl, _⟩ := h.ok he; simp [plainV]
  · rw [h.er he]; simp [plainV]
theorem reducible_f (hX : CxOk (cx W G)) (hG : G 0 = .iptr formsC) {u : UUnit} (hu : UOk u) (hn : u.blocks.length ≤ 80) {H : Hp} {cs : List CV} (hf : Fz H (.agg cs) (.agg (unitC u))) : CC Tryz.prog W 22 [.agg cs] H fun x H' => ∃ v, x = .ret v ∧ RdA u v ∧ H' = H :=
  CC.freeze (args' := [.agg (unitC u)]) (R := RdA u) (by rfl) (fz1 hf) (fun v h => h.plain) fun w hw => reducible_c (W := w) (CxOk.later hX hw) hG u hu hn _
/-- What graph.Loops answers, with the pointers that tell what dominates what. -/
structure LpsB (u : UUnit) (x : CE) (H' : Hp) : Prop where
  er : errU u ≠ 0 → x = .ret (.tuple [.nilsl, ci (errU u)])
  ok : errU u = 0 → ∃ p c v I, PLeast (opsOf u) p c ∧ DomI (nextN u p) (ordL (nextN u p) u.blocks.length) (rkOf (ordL (nextN u p) u.blocks.length)) I ∧ x = .ret (.tuple [v, ci 0]) ∧ LpsR H' v (loopsP (nextN u p) u.blocks.length u.blocks.length)
theorem loopsB_c (hX : CxOk (cx W G)) (hG : G 0 = .iptr formsC) (u : UUnit) (hu : UOk u) (hn : u.blocks.length ≤ 80) (H : Hp) : CC Tryz.prog W 20 [.agg (unitC u)] H fun x H' => LpsB u x H' := by
  refine CC.of_cw hX Tryz.func20 rfl rfl (Nat.le_of_ble_eq_true rfl) ?_
  refine CW.walk hX mixed d20 rfl ?_
  simp
  intro q1 hq1
  by_cases he : errU u = 0
  · have hw : wfU u = true := errU_wf.1 he
    have hc := gof_c hX hG u hw (H.set q1 (.cells (unitC u)))
    refine CW.walk hX mixed d20 rfl ?_
    simp [unitC]
    simp only [unitC] at hc
    refine hc.k ?_
    rintro x H3 ⟨gp, p, c, rn, rb, ro, ri, rk, co, ns, bs, ex, I, rfl, hp, h⟩
    simp
    have h0 : 0 < u.blocks.length := by obtain ⟨f1, f2, f3, f4, f5, f6, f7, f8, f9, f10, f11⟩ := wfU_facts hw; omega
    refine CW.walk hX mixed d20 rfl ?_
    simp
    refine CW.walk1 hX mixed d20 rfl ?_
    simp
    refine (loopsM_c hX h nextN_lt h0 hn).k ?_
    rintro x H4 ⟨v, rfl, hle, hL⟩
    simp
    exact ⟨fun q => absurd he q, fun _ => ⟨p, c, _, I, hp, h.domI h0 nextN_lt, rfl, hL⟩⟩
  · have hc := gof_e hX hG u hu he (H.set q1 (.cells (unitC u)))
    refine CW.walk hX mixed d20 rfl ?_
    simp [unitC]
    simp only [unitC] at hc
    refine hc.k ?_
    rintro x H2 ⟨rfl, rfl⟩
    simp
    refine CW.walk hX mixed d20 rfl ?_
    simp [he]
    exact ⟨fun _ => rfl, fun q => absurd q he⟩
theorem LpsB.free {u : UUnit} {x : CE} {H' : Hp} (h : LpsB u x H') : FreeEnd x := by
  by_cases he : errU u = 0
  · obtain ⟨p, c, v, I, _, _, rfl, h5⟩ := h.ok he
    exact tup2_free h5.free
  · rw [h.er he]; exact tup2_free .nilsl
theorem LpsB.wkm {u : UUnit} {x : CE} {H' H2 : Hp} (h : LpsB u x H') (hl : Le (wkH H') H2) : LpsB u x H2 :=
  ⟨h.er, fun he => by
    obtain ⟨p, c, v, I, a1, a2, a4, a5⟩ := h.ok he
    exact ⟨p, c, v, I, a1, a2, a4, a5.wk.mono hl⟩⟩
theorem loopsB_f (hX : CxOk (cx W G)) (hG : G 0 = .iptr formsC) {u : UUnit} (hu : UOk u) (hn : u.blocks.length ≤ 80) {H : Hp} {cs : List CV} (hf : Fz H (.agg cs) (.agg (unitC u))) : CC Tryz.prog W 20 [.agg cs] H fun x H' => LpsB u x H' ∧ Le H H' := by
  refine (CC.freeze3 (args' := [.agg (unitC u)]) (R := LpsB u) (by rfl) (fz1 hf) (fun x H' h => h.free) fun w hw => ?_).mono ?_
  · exact loopsB_c (W := w) (CxOk.later hX hw) hG u hu hn _
  · rintro x H2 ⟨H', h1, h2, h3, _⟩
    exact ⟨h1.wkm h3, h2⟩
/-- The cells of a list of loops, one by one. -/
theorem LpsR.get {H : Hp} {v : CV} {ls : List (Nat × List Nat × List Nat)} (h : LpsR H v ls) {k : Nat} {l : Nat × List Nat × List Nat} (hk : ls[k]? = some l) : ∃ r c cs vt vb, v = .ref r 0 ls.length c ∧ H r = some (.cells cs) ∧ cs[k * 3]? = some (ci l.1) ∧ cs[k * 3 + 1]? = some vt ∧ cs[k * 3 + 2]? = some vb ∧ SlF H vt (natL l.2.1) ∧ SlF H vb (natL l.2.2) := by
  rcases h with ⟨_, rfl⟩ | ⟨r, c, cs, rfl, hr, _, h4⟩
  · simp at hk
  · obtain ⟨vt, vb, h5, h6, h7⟩ := h4 k l hk
    have g : ∀ i, i < 3 → cs[k * 3 + i]? = [ci (l.1 : Int), vt, vb][i]? := fun i hi => by
      rw [← h5, List.getElem?_take_of_lt hi, List.getElem?_drop]
    exact ⟨r, _, cs, vt, vb, rfl, hr, g 0 (by omega), g 1 (by omega), g 2 (by omega), h6, h7⟩
/-- A loop that was found. -/
theorem loopsP_mem {N : Nat → List Nat} {n : Nat} : ∀ {m : Nat} {l : Nat × List Nat × List Nat}, l ∈ loopsP N n m → l.2.1 = tailsP N n l.1 ∧ l.2.2 = loopB N n l.1 l.2.1 ∧ l.2.1 ≠ []
  | 0, l, h => by simp [loopsP] at h
  | m + 1, l, h => by
    rw [loopsP, List.mem_append] at h
    rcases h with h | h
    · exact loopsP_mem h
    · split at h
      · simp at h
      · rename_i h2
        simp at h; subst h
        exact ⟨rfl, rfl, h2⟩
theorem loopB_mem {N : Nat → List Nat} {n h x : Nat} {T : List Nat} : x ∈ loopB N n h T ↔ x < n ∧ InL N h T x := by
  simp [loopB]
theorem loopB_nodup {N : Nat → List Nat} {n h : Nat} {T : List Nat} : (loopB N n h T).Nodup := List.Pairwise.filter _ List.nodup_range
theorem loopB_len {N : Nat → List Nat} {n h : Nat} {T : List Nat} : (loopB N n h T).length ≤ n := nodup_le n _ loopB_nodup fun x hx => (loopB_mem.1 hx).1
end Go.Cl.Gd
