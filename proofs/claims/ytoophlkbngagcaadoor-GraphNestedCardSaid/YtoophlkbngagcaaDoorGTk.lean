/- DERIVED HERE. GraphNested: the law. -/
import Derived.Test.YtoophlkbngagcaaDoorHBx
import Derived.Test.YtoophlkbngagcaaDoorHRd
import Derived.Test.YtoophlkbngagcaaDoorCP
set_option linter.unusedSimpArgs false
set_option linter.unusedVariables false
namespace Go.Cl.Gd
open Go.Proofs
variable {W : World} {G : Nat → CV}
set_option maxRecDepth 8000
set_option maxHeartbeats 1000000
theorem uv_six1 {H : Hp} {cs : List CV} {u : UUnit} (h : UV H cs u) : ∃ o0 o5, cs = [o0, ci u.params, ci u.regs, ci u.code, ci u.spill, o5] := by
  obtain ⟨v0, v5, h1, _⟩ := h.b
  exact ⟨v0, v5, h1⟩
structure gnI (H : Hp) (v : CV) (n : Nat) (d m : Nat) (s' : CA) (H' : Hp) : Prop where
  ex : ∃ i i8 : Nat, m = n - i ∧ i ≤ n ∧ i8 + d = i ∧ s'.env 6 = v ∧ s'.env 8 = .int .i64 i8 ∧ s'.ds = [] ∧ H' = H
structure gnJ (H : Hp) (v : CV) (i : Nat) (d m : Nat) (s' : CA) (H' : Hp) : Prop where
  ex : ∃ k k9 : Nat, m = i - k ∧ k ≤ i ∧ k9 + d = k ∧ s'.env 6 = v ∧ s'.env 8 = .int .i64 i ∧ s'.env 9 = .int .i64 k9 ∧ s'.ds = [] ∧ H' = H
structure gnK (H : Hp) (v : CV) (i k : Nat) (A B : List Nat) (d m : Nat) (s' : CA) (H' : Hp) : Prop where
  ex : ∃ j j11 : Nat, m = A.length - j ∧ j ≤ A.length ∧ j11 + d = j ∧ s'.env 6 = v ∧ s'.env 8 = .int .i64 i ∧ s'.env 9 = .int .i64 k ∧ s'.env 10 = .int .i64 ((A.take j).filter fun x => decide (x ∈ B)).length ∧ s'.env 11 = .int .i64 j11 ∧ s'.ds = [] ∧ H' = H
theorem graphNested_c (hX : CxOk (cx W G)) (hG : G 0 = .iptr formsC) (u0 : UUnit) (H : Hp) : CC Tryd.prog W 3 [.agg (unitC u0)] H fun x H' => x = .ret (.bool true) ∧ H' = H := by
  refine CC.shrink ?_
  refine CC.of_cw hX Tryd.func3 rfl rfl (Nat.le_of_ble_eq_true rfl) ?_
  refine CW.walk hX mixed d3 rfl ?_
  simp
  intro q1 hq1
  have hle1 : Le H (H.set q1 (.cells (unitC u0))) := Le.set_new hq1
  have m1 : (H.set q1 (.cells (unitC u0))) q1 = some (.cells (unitC u0)) := set_at
  generalize H.set q1 _ = H1 at hle1 m1 ⊢
  have hc := cut80_c hX u0 H1
  have hok := cut80_ok u0
  simp only [unitC] at m1 hc
  refine CW.walk hX mixed d3 rfl ?_
  simp [d3, m1]
  refine hc.k ?_
  rintro x H2 ⟨csO, rfl, hle2, hvO⟩
  clear hc m1
  generalize hcu : cutU u0 80 2000 = u at hvO hok
  have hUO := cutOk_uok hok
  have hnl : u.blocks.length ≤ 80 := by rw [← hcu]; simp [cutU]; omega
  obtain ⟨o0, o5, rfl⟩ := uv_six1 hvO
  simp [d3]
  intro q3 hq3
  have hle3 : Le H2 (H2.set q3 (.cells [o0, ci u.params, ci u.regs, ci u.code, ci u.spill, o5])) := Le.set_new hq3
  have m3 : (H2.set q3 (.cells [o0, ci u.params, ci u.regs, ci u.code, ci u.spill, o5])) q3 = some (.cells [o0, ci u.params, ci u.regs, ci u.code, ci u.spill, o5]) := set_at
  generalize H2.set q3 _ = H3 at hle3 m3 ⊢
  have hv := hvO.mono hle3
  have hle := (hle1.trans hle2).trans hle3
  clear hvO hle1 hle2 hle3
  refine CW.walk hX mixed d3 rfl ?_
  simp [m3]
  refine (copy_f hX hok hv.f).k ?_
  rintro x H5 ⟨cs4, rfl, hle4, hv4⟩
  simp
  refine (reducible_f hX hG hUO hnl hv4.f).k ?_
  rintro x H6 ⟨v6, rfl, hA, rfl⟩
  have m5 := hle4 _ _ m3
  have hv5 := hv.mono hle4
  obtain ⟨t, e1, rfl, ht⟩ : ∃ (t : Bool) (e1 : Int), v6 = .tuple [.bool t, ci e1] ∧ e1 = errU u := by
    by_cases he : errU u = 0
    · obtain ⟨p, c, t, _, h, _⟩ := hA.ok he; exact ⟨t, 0, h, he.symm⟩
    · exact ⟨false, _, hA.er he, rfl⟩
  subst ht
  simp
  refine CW.walk hX mixed d3 rfl ?_
  simp [m5]
  refine (copy_f hX hok hv5.f).k ?_
  rintro x H7 ⟨cs7, rfl, hle7, hv7⟩
  simp
  refine (loopsB_f hX hG hUO hnl hv7.f).k ?_
  rintro x H8 ⟨hB, hle8⟩
  have hle := hle.trans (hle4.trans (hle7.trans hle8))
  clear hA hv m3 hv4 hle4 hv5 m5 hv7 hle7 hle8
  by_cases he : errU u = 0
  rotate_left
  · obtain rfl := hB.er he
    simp
    refine CW.walk hX mixed d3 rfl ?_
    simp [he]
    refine (alive_c hX hG _).k ?_
    rintro x H9 ⟨rfl, rfl⟩
    simp
    exact hle
  obtain ⟨p, c, v, I, hp, hD, rfl, hL⟩ := hB.ok he
  simp
  cases t with
  | false =>
    refine CW.walk hX mixed d3 rfl ?_
    simp [he]
    refine (alive_c hX hG _).k ?_
    rintro x H9 ⟨rfl, rfl⟩
    simp
    exact hle
  | true =>
    have hmem := fun l (h : l ∈ loopsP (nextN u p) u.blocks.length u.blocks.length) => loopsP_mem h
    have hrise := loopsP_rise (N := nextN u p) (n := u.blocks.length) (m := u.blocks.length)
    have hap := fun l k => loops_apart (N := nextN u p) (n := u.blocks.length) hD (l := l) (k := k)
    have hlen := loopsP_len (N := nextN u p) (n := u.blocks.length) (m := u.blocks.length)
    generalize loopsP (nextN u p) u.blocks.length u.blocks.length = ls at hL hmem hrise hap hlen
    refine CW.walk hX mixed d3 rfl ?_
    simp [he]
    refine CW.cut (fun s' H' => s'.ds = [] ∧ H' = H8) ?_ ?_
    · refine CW.walk hX mixed d3 rfl ?_
      simp
      refine CW.block ?_
      refine CW.loop (gnI H8 v ls.length 0) ?_ (m := ls.length) ⟨0, 0, rfl, by omega, rfl, by simp, by simp, rfl, rfl⟩
      rintro m ⟨e, ds⟩ H9 ⟨i, i8, rfl, hi, hi8, e6, e8, rfl, rfl⟩
      obtain rfl : i8 = i := by omega
      dsimp only at e6 e8
      by_cases hil : i8 < ls.length
      rotate_left
      · rcases hL with ⟨rfl, rfl⟩ | ⟨r, c2, cs2, rfl, _⟩
        · refine CW.walk hX mixed d3 rfl ?_
          simp [e6, e8]
          simp at hi
          simp [hi]
        · refine CW.walk hX mixed d3 rfl ?_
          simp [e6, e8, hil]
      obtain ⟨l, hl⟩ : ∃ l, ls[i8]? = some l := ⟨_, List.getElem?_eq_getElem hil⟩
      obtain ⟨r, c2, cs2, vt, vb, rfl, hr, g0, g1, g2, st, sb⟩ := LpsR.get hL hl
      refine CW.walk hX mixed d3 rfl ?_
      simp [e6, e8, hil]
      refine CW.cut (gnI H9 (.ref r 0 ls.length c2) ls.length 1 (ls.length - (i8 + 1))) ?_ ?_
      · refine CW.block ?_
        refine CW.walk hX mixed d3 rfl ?_
        simp
        refine CW.block ?_
        refine CW.loop (gnJ H9 (.ref r 0 ls.length c2) i8 0) ?_ (m := i8) ⟨0, 0, rfl, by omega, rfl, by simp [e6], by simp [e8], by simp, rfl, rfl⟩
        clear e6 e8
        rintro m ⟨e, ds⟩ HA ⟨k, k9, rfl, hk, hk9, e6, e8, e9, rfl, rfl⟩
        obtain rfl : k9 = k := by omega
        dsimp only at e6 e8 e9
        by_cases hki : k9 < i8
        rotate_left
        · obtain rfl : k9 = i8 := by omega
          refine CW.walk hX mixed d3 rfl ?_
          simp [e8, e9]
          exact ⟨k9 + 1, k9, rfl, by omega, rfl, by simp [e6], by simp [e8], rfl, rfl⟩
        obtain ⟨l2, hl2⟩ : ∃ l, ls[k9]? = some l := ⟨_, List.getElem?_eq_getElem (by omega)⟩
        obtain ⟨r', c3, cs3, vt2, vb2, hvv, hr', f0, f1, f2, st2, sb2⟩ := LpsR.get hL hl2
        injection hvv with hvv1 _ _ hvv2
        subst hvv1; subst hvv2
        rw [hr] at hr'
        injection hr' with hr'
        injection hr' with hr'
        subst hr'
        have hne : l.1 ≠ l2.1 := by
          have := List.pairwise_iff_getElem.1 hrise k9 i8 (by omega) hil hki
          rw [List.getElem?_eq_getElem (by omega)] at hl2 hl
          injection hl with hl; injection hl2 with hl2
          rw [hl, hl2] at this; omega
        have hpl := hap l l2 (List.mem_of_getElem? hl) (List.mem_of_getElem? hl2) hne
        have hbl : l.2.2.length ≤ 80 := by
          rw [(hmem l (List.mem_of_getElem? hl)).2.1]
          have := loopB_len (N := nextN u p) (n := u.blocks.length) (h := l.1) (T := l.2.1)
          omega
        have hbl2 : l2.2.2.length ≤ 80 := by
          rw [(hmem l2 (List.mem_of_getElem? hl2)).2.1]
          have := loopB_len (N := nextN u p) (n := u.blocks.length) (h := l2.1) (T := l2.2.1)
          omega
        refine CW.walk hX mixed d3 rfl ?_
        simp [e8, e9, hki]
        refine CW.cut (gnJ HA (.ref r 0 ls.length c2) i8 1 (i8 - (k9 + 1))) ?_ ?_
        · refine CW.block ?_
          refine CW.walk hX mixed d3 rfl ?_
          simp
          refine CW.cut (gnK HA (.ref r 0 ls.length c2) i8 k9 l.2.2 l2.2.2 0 0) ?_ ?_
          · refine CW.walk hX mixed d3 rfl ?_
            simp
            refine CW.block ?_
            refine CW.loop (gnK HA (.ref r 0 ls.length c2) i8 k9 l.2.2 l2.2.2 0) ?_ (m := l.2.2.length) ⟨0, 0, rfl, by omega, rfl, by simp [e6], by simp [e8], by simp [e9], by simp, by simp, rfl, rfl⟩
            clear e6 e8 e9
            rintro m ⟨e, ds⟩ HB ⟨j, j11, rfl, hj, hj11, e6, e8, e9, e10, e11, rfl, rfl⟩
            obtain rfl : j11 = j := by omega
            dsimp only at e6 e8 e9 e10 e11
            by_cases hjl : j11 < l.2.2.length
            rotate_left
            · obtain hje : j11 = l.2.2.length := by omega
              rcases sb with ⟨rfl, hb0⟩ | ⟨r3, c3, cs3, rfl, hr3, hc3⟩
              · have hb1 : l.2.2 = [] := by simpa [natL] using hb0
                refine CW.walk hX mixed d3 rfl ?_
                simp [e6, e8, e11, hr, hil, g2, show ¬ (j11 : Int) < 0 by omega]
                exact ⟨j11, j11, by omega, by omega, rfl, by simp [e6], by simp [e8], by simp [e9], by simp [e10], by simp [e11], rfl, rfl⟩
              · rw [natL_len] at g2
                refine CW.walk hX mixed d3 rfl ?_
                simp [e6, e8, e11, hr, hil, g2, hje]
                exact ⟨j11, j11, by omega, by omega, rfl, by simp [e6], by simp [e8], by simp [e9], by simp [e10], by simp [e11], rfl, rfl⟩
            obtain ⟨y, hy⟩ : ∃ y, l.2.2[j11]? = some y := ⟨_, List.getElem?_eq_getElem hjl⟩
            obtain ⟨r3, c3, cs3, rfl, hr3, hc3⟩ : ∃ r3 c3 cs3, vb = .ref r3 0 l.2.2.length c3 ∧ HB r3 = some (.cells cs3) ∧ cs3[j11]? = some (ci (y : Int)) := by
              rcases sb with ⟨_, hb0⟩ | ⟨r3, c3, cs3, h1, h2, h3⟩
              · have hb1 : l.2.2 = [] := by simpa [natL] using hb0
                rw [hb1] at hjl; simp at hjl
              · exact ⟨r3, _, cs3, by rw [h1, natL_len], h2, h3 j11 y (by simp [natL, hy])⟩
            refine CW.walk hX mixed d3 rfl ?_
            simp [e6, e8, e11, hr, hil, g2, hjl]
            refine CW.cut (gnK HB (.ref r 0 ls.length c2) i8 k9 l.2.2 l2.2.2 1 (l.2.2.length - (j11 + 1))) ?_ ?_
            · refine CW.block ?_
              refine CW.walk hX mixed d3 rfl ?_
              simp [d3, e6, e8, e9, e11, hr, hil, show k9 < ls.length by omega, g2, f2, hr3, hjl, hc3]
              refine (hasQ_f hX (y : Int) sb2 (by rw [natL_len]; omega)).k ?_
              rintro x HC ⟨rfl, rfl⟩
              have hdec : decide ((y : Int) ∈ natL l2.2.2) = decide (y ∈ l2.2.2) := by rw [decide_eq_decide]; exact natL_mem
              rw [hdec]
              have htk : (l.2.2.take (j11 + 1)).filter (fun x => decide (x ∈ l2.2.2)) = (l.2.2.take j11).filter (fun x => decide (x ∈ l2.2.2)) ++ (if y ∈ l2.2.2 then [y] else []) := by
                rw [take_get hy, List.filter_append]
                congr 1
                by_cases h : y ∈ l2.2.2 <;> simp [h]
              have hcl : ((l.2.2.take j11).filter (fun x => decide (x ∈ l2.2.2))).length ≤ 80 := by
                have h1 := List.length_filter_le (fun x => decide (x ∈ l2.2.2)) (l.2.2.take j11)
                have h2 := List.length_take_le j11 l.2.2
                omega
              by_cases hm : y ∈ l2.2.2
              · rw [if_pos hm] at htk
                simp [hm]
                refine CW.condE hX (b := true) (by simp) (fun _ => ?_) (fun h => by cases h)
                refine CW.walk1 hX mixed d3 rfl ?_
                simp [e10]
                refine ⟨j11 + 1, j11, rfl, by omega, rfl, by simp [e6], by simp [e8], by simp [e9], ?_, by simp [e11], rfl, rfl⟩
                rw [htk, List.length_append]
                simp
                exact wrapI (by omega) (by omega)
              · rw [if_neg hm, List.append_nil] at htk
                simp [hm]
                refine CW.condE hX (b := false) (by simp) (fun h => by cases h) (fun _ => ?_)
                refine CW.walk1 hX mixed d3 rfl ?_
                simp
                exact ⟨j11 + 1, j11, rfl, by omega, rfl, by simp [e6], by simp [e8], by simp [e9], by rw [htk]; simp [e10], by simp [e11], rfl, rfl⟩
            clear e6 e8 e9 e10 e11
            rintro ⟨e, ds⟩ HC ⟨j, j11', hjj, hj, hj11, e6, e8, e9, e10, e11, rfl, rfl⟩
            dsimp only at e6 e8 e9 e10 e11
            obtain rfl : j = j11 + 1 := by omega
            obtain rfl : j11' = j11 := by omega
            refine CW.walk1 hX mixed d3 rfl ?_
            simp [e11]
            exact ⟨l.2.2.length - (j11' + 1), by omega, j11' + 1, j11' + 1, rfl, hj, rfl, by simp [e6], by simp [e8], by simp [e9], by simp [e10], by simp; exact wrapI (by omega) (by omega), rfl, rfl⟩
          clear e6 e8 e9
          rintro ⟨e, ds⟩ HB ⟨j, j11, hjj, hj, hj11, e6, e8, e9, e10, e11, rfl, rfl⟩
          dsimp only at e6 e8 e9 e10 e11
          obtain hjA : j = l.2.2.length := by omega
          rw [hjA, List.take_length] at e10
          generalize hcn : (l.2.2.filter fun x => decide (x ∈ l2.2.2)).length = cn at e10 hpl
          have hgo : ∀ en : Env, en 6 = .ref r 0 ls.length c2 → en 8 = .int .i64 i8 → en 9 = .int .i64 k9 → gnJ HB (.ref r 0 ls.length c2) i8 1 (i8 - (k9 + 1)) ⟨en, []⟩ HB := fun en g6 g8 g9 => ⟨k9 + 1, k9, rfl, by omega, rfl, g6, g8, g9, rfl, rfl⟩
          by_cases hc0 : cn = 0
          · refine CW.walk1 hX mixed d3 rfl ?_
            simp [d3, e10, hc0]
            exact hgo _ (by simp [e6]) (by simp [e8]) (by simp [e9])
          obtain ⟨y, hy⟩ : ∃ y, y ∈ l.2.2.filter fun x => decide (x ∈ l2.2.2) := List.exists_mem_of_length_pos (by rw [hcn]; omega)
          obtain ⟨hyA, hyB⟩ := List.mem_filter.1 hy
          have hyB : y ∈ l2.2.2 := by simpa using hyB
          obtain ⟨r3, c3, rfl⟩ : ∃ r3 c3, vb = .ref r3 0 l.2.2.length c3 := by
            rcases sb with ⟨_, hb0⟩ | ⟨r3, c3, cs3, h1, h2, h3⟩
            · have hb1 : l.2.2 = [] := by simpa [natL] using hb0
              rw [hb1] at hyA; simp at hyA
            · exact ⟨r3, _, by rw [h1, natL_len]⟩
          obtain ⟨r4, c4, rfl⟩ : ∃ r3 c3, vb2 = .ref r3 0 l2.2.2.length c3 := by
            rcases sb2 with ⟨_, hb0⟩ | ⟨r3, c3, cs3, h1, h2, h3⟩
            · have hb1 : l2.2.2 = [] := by simpa [natL] using hb0
              rw [hb1] at hyB; simp at hyB
            · exact ⟨r3, _, by rw [h1, natL_len]⟩
          have hnA : ¬ l.2.2 = [] := fun h => by rw [h] at hyA; simp at hyA
          have hnB : ¬ l2.2.2 = [] := fun h => by rw [h] at hyB; simp at hyB
          by_cases hcA : cn = l.2.2.length
          · refine CW.walk1 hX mixed d3 rfl ?_
            simp [d3, e6, e8, e9, e10, hc0, hr, hil, show k9 < ls.length by omega, g2, f2, hcA, hnA]
            exact hgo _ (by simp [e6]) (by simp [e8]) (by simp [e9])
          have hcB : cn = l2.2.2.length := by omega
          have hAB : ¬ (l2.2.2.length : Int) = (l.2.2.length : Int) := by omega
          refine CW.walk1 hX mixed d3 rfl ?_
          simp [d3, e6, e8, e9, e10, hc0, hr, hil, show k9 < ls.length by omega, g2, f2, hcB, hAB, hnB]
          exact hgo _ (by simp [e6]) (by simp [e8]) (by simp [e9])
        clear e6 e8 e9
        rintro ⟨e, ds⟩ HB ⟨k, k9', hkk, hk, hk9, e6, e8, e9, rfl, rfl⟩
        dsimp only at e6 e8 e9
        obtain rfl : k = k9 + 1 := by omega
        obtain rfl : k9' = k9 := by omega
        refine CW.walk1 hX mixed d3 rfl ?_
        simp [e9]
        exact ⟨i8 - (k9' + 1), by omega, k9' + 1, k9' + 1, rfl, hk, rfl, by simp [e6], by simp [e8], by simp; exact wrapI (by omega) (by omega), rfl, rfl⟩
      clear e6 e8
      rintro ⟨e, ds⟩ HA ⟨i, i8', hii, hi, hi8, e6, e8, rfl, rfl⟩
      dsimp only at e6 e8
      obtain rfl : i = i8 + 1 := by omega
      obtain rfl : i8' = i8 := by omega
      refine CW.walk1 hX mixed d3 rfl ?_
      simp [e8]
      exact ⟨ls.length - (i8' + 1), by omega, i8' + 1, i8' + 1, rfl, hi, rfl, by simp [e6], by simp; exact wrapI (by omega) (by omega), rfl, rfl⟩
    rintro ⟨e, ds⟩ H9 ⟨rfl, rfl⟩
    refine CW.walk hX mixed d3 rfl ?_
    simp
    refine (alive_c hX hG _).k ?_
    rintro x HA ⟨rfl, rfl⟩
    simp
    refine CW.walk1 hX mixed d3 rfl ?_
    simp
    exact hle
end Go.Cl.Gd
