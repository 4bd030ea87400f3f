/- DERIVED HERE. GuardFewer: the law. -/
import Derived.Test.YtiohgpapgkjfiaaGreatDoorGFw
set_option linter.unusedSimpArgs false
set_option linter.unusedVariables false
namespace Go.Cl.Gu
open Go.Proofs Go.Cl.Gd
variable {W : World} {G : Nat → CV}
set_option maxRecDepth 8000
set_option maxHeartbeats 1000000
theorem uok_wf {u : UUnit} (hw : wfU u = true) : UOk u ∧ u.sizes.length ≤ 1000000 := by
  obtain ⟨f1, f2, f3, f4, f5, f6, f7, f8, f9, f10, f11⟩ := wfU_facts hw
  have hsz : u.sizes.length ≤ 16 := by
    simp only [wfU, wfHead, Bool.and_eq_true, decide_eq_true_eq] at hw
    omega
  refine ⟨⟨by omega, by omega, fun b hb => ?_, fun b _ o _ => by simp only [Kd]; omega⟩, by omega⟩
  obtain ⟨j, hj⟩ := List.getElem?_of_mem hb
  have := (wfB_facts hw hj).2.1
  omega
theorem first_none_at {f : UUnit → Nat → Option UUnit} {u : UUnit} (h : firstS f u = none) {x : Nat} (hx : x < u.blocks.length) : f u x = none := by
  rw [firstS, List.findSome?_eq_none_iff] at h
  exact h x (List.mem_range.2 hx)
structure tfB (H1 : Hp) (q7 q19 : Nat) (b : Int) (g : Int) (vo : CV) (s' : CA) (H' : Hp) : Prop where
  e1 : s'.env 1 = ci b
  e7 : s'.env 7 = .ptr q7 0
  e13 : s'.env 13 = ci 0
  e19 : s'.env 19 = .ptr q19 0
  e20 : s'.env 20 = ci g
  e22 : s'.env 22 = vo
  ds : s'.ds = []
  h : H' = H1
structure tfC (H1 : Hp) (q7 q19 : Nat) (b : Int) (g : Int) (vo : CV) (r : Bool) (s' : CA) (H' : Hp) : Prop where
  b : tfB H1 q7 q19 b g vo s' H'
  e21 : s'.env 21 = .bool r
structure tfO (H1 : Hp) (q7 q19 : Nat) (n : Nat) (g : Int) (vo : CV) (ord : List Nat) (d m : Nat) (s' : CA) (H' : Hp) : Prop where
  ex : ∃ i i23 : Nat, m = ord.length - i ∧ i ≤ ord.length ∧ i23 + d = i ∧ s'.env 21 = .bool (decide (n ∈ ord.take i)) ∧ s'.env 23 = .int .i64 i23 ∧ tfB H1 q7 q19 n g vo s' H'
theorem cv_ok {u : UUnit} {b : Int} (h : cvE u b = 0) : (shapeP u (ordC u) b.toNat).kind ≠ 0 ∧ errU (convP u (ordC u) b.toNat) = 0 := by
  rw [cvE] at h
  split at h
  · rename_i h1; exact absurd h h1
  · split at h
    · cases h
    · rename_i h2
      split at h
      · cases h
      · rename_i h3; exact ⟨h2, Decidable.byContradiction h3⟩
theorem jn_ok {u : UUnit} {b : Int} (h : jnE u b = 0) : follB u (ordC u) b.toNat = true ∧ errU (joinP u b.toNat) = 0 := by
  rw [jnE] at h
  split at h
  · rename_i h1; exact absurd h h1
  · split at h
    · cases h
    · rename_i h2
      split at h
      · cases h
      · rename_i h3; exact ⟨by simpa using h2, Decidable.byContradiction h3⟩
structure tfA (H1 : Hp) (q3 q7 : Nat) (b size : Int) (s' : CA) (H' : Hp) : Prop where
  e1 : s'.env 1 = ci b
  e2 : s'.env 2 = ci size
  e3 : s'.env 3 = .ptr q3 0
  e7 : s'.env 7 = .ptr q7 0
  ds : s'.ds = []
  le : Le H1 H'
structure tfE (q3 q7 q10 : Nat) (b size : Int) (vl : CV) (s' : CA) : Prop where
  e1 : s'.env 1 = ci b
  e2 : s'.env 2 = ci size
  e3 : s'.env 3 = .ptr q3 0
  e7 : s'.env 7 = .ptr q7 0
  e10 : s'.env 10 = .ptr q10 0
  e12 : s'.env 12 = vl
  e13 : s'.env 13 = ci 0
  ds : s'.ds = []
structure tfX (H1 : Hp) (q3 q7 q10 : Nat) (b size : Int) (vl : CV) (s' : CA) (H' : Hp) : Prop where
  e : tfE q3 q7 q10 b size vl s'
  le : Le H1 H'
structure tfL (H1 : Hp) (q3 q7 q10 : Nat) (b size : Int) (vl : CV) (N d m : Nat) (s' : CA) (H' : Hp) : Prop where
  ex : ∃ i i14 : Nat, m = N - i ∧ i ≤ N ∧ i14 + d = i ∧ s'.env 14 = .int .i64 i14 ∧ tfE q3 q7 q10 b size vl s' ∧ Le H1 H'
theorem guardFewer_c (hX : CxOk (cx W G)) (hG : G 0 = .iptr formsC) (u0 : UUnit) (b size : Int) (H : Hp) : CC Tryz.prog W 9 [.agg (unitC u0), ci b, ci size] H fun x H' => x = .ret (.bool true) ∧ H' = H := by
  refine CC.shrink ?_
  refine CC.of_cw hX Tryz.func9 rfl rfl (Nat.le_of_ble_eq_true rfl) ?_
  refine CW.walk hX mixed d9 rfl ?_
  simp
  intro q3 hq3
  have hle1 : Le H (H.set q3 (.cells (unitC u0))) := Le.set_new hq3
  have m3 : (H.set q3 (.cells (unitC u0))) q3 = some (.cells (unitC u0)) := set_at
  generalize H.set q3 _ = H1 at hle1 m3 ⊢
  have hc := fun H => cut16_c hX u0 H
  have hok := cut16_ok u0
  simp only [unitC] at m3 hc
  refine CW.walk hX mixed d9 rfl ?_
  simp [m3]
  refine (hc H1).k ?_
  rintro x H2 ⟨csO, rfl, hle2, hvO⟩
  generalize hcu : cutU u0 16 60 = u at hc hvO hok
  have hUO := cutOk_uok hok
  have hs : u.sizes.length ≤ 1000000 := by have := hok.sz; omega
  have hbl := hok.bl
  obtain ⟨o0, o5, rfl, hbO⟩ := hvO.b
  simp
  intro q7 hq7
  have hle3 : Le H2 (H2.set q7 (.cells [o0, ci u.params, ci u.regs, ci u.code, ci u.spill, o5])) := Le.set_new hq7
  have m7 : (H2.set q7 (.cells [o0, ci u.params, ci u.regs, ci u.code, ci u.spill, o5])) q7 = some (.cells [o0, ci u.params, ci u.regs, ci u.code, ci u.spill, o5]) := set_at
  generalize H2.set q7 _ = H3 at hle3 m7 ⊢
  have hvO := hvO.mono hle3
  have m3 := hle3 _ _ (hle2 _ _ m3)
  have hle := (hle1.trans hle2).trans hle3
  clear hle1 hle2 hle3 hbO
  refine CW.walk hX mixed d9 rfl ?_
  simp [m7]
  refine (there_f hX hUO hvO b).k ?_
  rintro x H4 ⟨rfl, rfl⟩
  by_cases hb : thereE u b ≠ 0 ∨ size < 0
  · have : (thereE u b = 0 ∧ size < 0) ∨ thereE u b ≠ 0 := by omega
    rcases this with ⟨h1, h2⟩ | h1
    · simp [h1, h2]
      refine (alive_c hX hG _).k ?_
      rintro x H5 ⟨rfl, rfl⟩
      simp
      exact hle
    · simp [h1]
      refine (alive_c hX hG _).k ?_
      rintro x H5 ⟨rfl, rfl⟩
      simp
      exact hle
  have ht : thereE u b = 0 := by omega
  have hz : 0 ≤ size := by omega
  obtain ⟨hw, n, rfl, hn⟩ := thereE_ok ht
  obtain ⟨f1, f2, f3, f4, f5, f6, f7, f8, f9, f10, f11⟩ := wfU_facts hw
  simp [ht, show ¬ size < 0 by omega]
  refine CW.cut (tfA H4 q3 q7 n size) ?_ ?_
  · refine CW.walk hX mixed d9 rfl ?_
    simp [m3]
    refine (hc _).k ?_
    rintro x H5 ⟨cs5, rfl, hle5, hv5⟩
    have hl5 := hv5.l
    simp
    refine (convertF_c hX hG u hUO hs n H5 _ hv5).k ?_
    rintro x H6 ⟨cs6, rfl, hle6, hv6⟩
    have hl6 := hv6.l
    simp [hl6]
    intro q8 hq8
    have hle7 : Le H6 (H6.set q8 (.cells cs6)) := Le.set_new hq8
    have m8 : (H6.set q8 (.cells cs6)) q8 = some (.cells cs6) := set_at
    generalize H6.set q8 _ = H7 at hle7 m8 ⊢
    have hle47 := (hle5.trans hle6).trans hle7
    have m7 := hle47 _ _ m7
    have hvO := hvO.mono hle47
    have hv6 := hv6.mono hle7
    by_cases he : cvE u n = 0
    rotate_left
    · refine CW.walk1 hX mixed d9 rfl ?_
      simp [d9, he]
      exact ⟨stabI_le rfl (Le.refl _), by simp, by simp, by simp, by simp, rfl, hle47⟩
    obtain ⟨hk, _⟩ := cv_ok he
    have hbr : brN (cvU u n) + 1 = brN u := by
      rw [cvU, if_pos he]
      exact conv_br hn (shape_br hk)
    have hbN : brN u ≤ 1000 := by
      have := List.countP_le_length (p := fun k : UBlk => decide (k.en.kind = 2)) (l := u.blocks)
      simp only [brN]
      omega
    have hcb : (cvU u n).blocks.length ≤ 100000 := by
      rw [cvU, if_pos he]
      simp [convP]
      omega
    refine CW.walk1 hX mixed d9 rfl ?_
    simp [d9, he, m7, m8, hl6]
    rw [List.take_of_length_le (by omega)]
    refine (branches_f hX hcb hv6.f).k ?_
    rintro x H8 ⟨rfl, rfl⟩
    simp [d9, he, m7, m8, hl6]
    refine ⟨stabI_le rfl (Le.refl _), ?_⟩
    refine (branches_f hX (by omega) hvO.f).k ?_
    rintro x H9 ⟨rfl, rfl⟩
    have hw1 : IntKind.i64.wrap ((brN u : Int) - 1) = brN (cvU u n) := by rw [wrapI (by omega) (by omega)]; omega
    simp [d9, hw1]
    exact ⟨by simp, by simp, by simp, by simp, rfl, hle47⟩
  rintro ⟨e, ds⟩ H5 ⟨e1, e2, e3, e7, hds, hle5⟩
  dsimp only at e1 e2 e3 e7 hds
  subst hds
  have m7 := hle5 _ _ m7
  have m3 := hle5 _ _ m3
  have hvO := hvO.mono hle5
  have hle := hle.trans hle5
  clear hle5
  have hE : alE u size = 0 := by simp [alE, errU_wf.2 hw]; omega
  refine CW.walk hX mixed d9 rfl ?_
  simp [e2, e3, m3]
  refine (hc _).k ?_
  rintro x H6 ⟨cs6, rfl, hle6, hv6⟩
  have hl6 := hv6.l
  simp [e2]
  refine (allF_c hX hG u hUO hs size H6 _ hv6).k ?_
  rw [hE]
  rintro x H7 ⟨v, ⟨cs7, rfl, hle7, hv7⟩, _, hA⟩
  obtain ⟨hA, hwv, hsv⟩ := hA rfl
  have hst := hA.stop_eq
  clear hA
  obtain ⟨hUv, hsv'⟩ := uok_wf hwv
  obtain ⟨v0, v5, rfl, hb7⟩ := hv7.b
  simp
  intro q10 hq10
  have hle8 : Le H7 (H7.set q10 (.cells [v0, ci v.params, ci v.regs, ci v.code, ci v.spill, v5])) := Le.set_new hq10
  have m10 : (H7.set q10 (.cells [v0, ci v.params, ci v.regs, ci v.code, ci v.spill, v5])) q10 = some (.cells [v0, ci v.params, ci v.regs, ci v.code, ci v.spill, v5]) := set_at
  generalize H7.set q10 _ = H8 at hle8 m10 ⊢
  have hle58 := (hle6.trans hle7).trans hle8
  have m7 := hle58 _ _ m7
  have m3 := hle58 _ _ m3
  have hvO := hvO.mono hle58
  have hv7 := hv7.mono hle8
  have hle := hle.trans hle58
  clear hle6 hle7 hle8 hle58 hv6 hb7
  refine CW.walk hX mixed d9 rfl ?_
  simp
  refine CW.walk hX mixed d9 rfl ?_
  simp [m10]
  refine (shapes_c hX hG v hUv hsv' H8 _ hv7).k ?_
  rintro x H9 ⟨hle9, _, hok9⟩
  obtain ⟨vl, p, c, rfl, hp, hvl⟩ := hok9 (errU_wf.2 hwv)
  rw [ordC_eq hp] at hvl
  have hvl := hvl.bare
  have m7 := hle9 _ _ m7
  have m3 := hle9 _ _ m3
  have m10 := hle9 _ _ m10
  have hvO := hvO.mono hle9
  have hv7 := hv7.mono hle9
  have hle := hle.trans hle9
  clear hle9 hok9 hp
  simp
  obtain ⟨L, hL⟩ : ∃ L, shapesP v (ordC v) v.blocks.length = L := ⟨_, rfl⟩
  obtain ⟨k1, k2, k3, k4, k5, k6, k7, k8, k9, k10, k11⟩ := wfU_facts hwv
  have hLn : L.length ≤ 2000 := by
    have := shapesP_len (u := v) (ord := ordC v) (n := v.blocks.length)
    rw [hL] at this
    omega
  have hLm : ∀ s ∈ L, ∃ j : Nat, s.1 = j ∧ j < v.blocks.length ∧ (shapeP v (ordC v) j).kind ≠ 0 := fun s hs => by
    rw [← hL, shapesP, List.mem_map] at hs
    obtain ⟨j, hj, rfl⟩ := hs
    rw [List.mem_filter] at hj
    exact ⟨j, rfl, by simpa using hj.1, by simpa using hj.2⟩
  rw [hL] at hvl
  have hcl : (vl = .nilsl ∧ L.length = 0) ∨ ∃ r c ex, vl = .ref r 0 L.length c ∧ H9 r = some (.cells ((pairs L).flatten ++ ex)) := by
    obtain ⟨_, _, ⟨h1, h2⟩ | ⟨r, c, ex, h1, _, h2, _⟩⟩ := hvl
    · refine .inl ⟨h1, ?_⟩
      have := congrArg List.length h2
      simpa [pairs] using this
    · exact .inr ⟨r, c, ex, by simpa [pairs] using h1, h2⟩
  clear hvl
  refine CW.cut (tfX H9 q3 q7 q10 n size vl) ?_ ?_
  · refine CW.walk hX mixed d9 rfl ?_
    simp
    refine CW.block ?_
    refine CW.loop (tfL H9 q3 q7 q10 n size vl L.length 0) ?_ (m := L.length) ⟨0, 0, rfl, by omega, rfl, by simp, ⟨by simp [e1], by simp [e2], by simp [e3], by simp [e7], by simp, by simp, by simp [errU_wf.2 hwv], rfl⟩, Le.refl _⟩
    clear e1 e2 e3 e7
    rintro m ⟨e, ds⟩ H10 ⟨i, i14, rfl, hi, hi14, e14, ⟨e1, e2, e3, e7, e10, e12, e13, hds⟩, hle10⟩
    dsimp only at e1 e2 e3 e7 e10 e12 e13 e14 hds
    subst hds
    obtain rfl : i14 = i := by omega
    by_cases hil : i14 < L.length
    rotate_left
    · obtain rfl : i14 = L.length := by omega
      rcases hcl with ⟨rfl, h1⟩ | ⟨r1, c1, ex1, rfl, h1⟩
      · refine CW.walk hX mixed d9 rfl ?_
        simp [e12, e14, h1]
        exact ⟨⟨by simp [e1], by simp [e2], by simp [e3], by simp [e7], by simp [e10], by simp [e12], by simp [e13], rfl⟩, hle10⟩
      · refine CW.walk hX mixed d9 rfl ?_
        simp [e12, e14]
        exact ⟨⟨by simp [e1], by simp [e2], by simp [e3], by simp [e7], by simp [e10], by simp [e12], by simp [e13], rfl⟩, hle10⟩
    rcases hcl with ⟨rfl, h1⟩ | ⟨r1, c1, ex1, rfl, h1⟩
    · omega
    obtain ⟨s, hs'⟩ : ∃ s, L[i14]? = some s := ⟨_, List.getElem?_eq_getElem hil⟩
    obtain ⟨j, hj1, hj2, hj3⟩ := hLm s (List.mem_of_getElem? hs')
    have hpi : (pairs L)[i14]? = some [ci s.1, ci s.2] := by simp only [pairs, List.getElem?_map, hs']; rfl
    have hpz : ∀ e ∈ pairs L, e.length = 2 := fun e he => by
      simp only [pairs, List.mem_map] at he
      obtain ⟨_, _, rfl⟩ := he
      rfl
    have t1 := flat_take (ex := ex1) hpz hpi
    have tc : ((pairs L).flatten ++ ex1)[i14 * 2]? = some (ci j) := by
      have : (((pairs L).flatten ++ ex1).drop (i14 * 2)).take 2 = [ci s.1, ci s.2] := t1
      have h2 : ((((pairs L).flatten ++ ex1).drop (i14 * 2)).take 2)[0]? = some (ci s.1) := by rw [this]; rfl
      rw [← hj1]
      simpa [List.getElem?_take, List.getElem?_drop] using h2
    have m10' := hle10 _ _ m10
    have h1' := hle10 _ _ h1
    have hv10 := hv7.mono hle10
    refine CW.walk hX mixed d9 rfl ?_
    simp [e12, e14, hil]
    refine CW.cut (tfL H9 q3 q7 q10 n size (.ref r1 0 L.length c1) L.length 1 (L.length - (i14 + 1))) ?_ ?_
    rotate_left
    · clear e1 e2 e3 e7 e10 e12 e13 e14
      rintro ⟨e, ds⟩ H11 ⟨i, i15, hm, hi, hi15, e14, ⟨e1, e2, e3, e7, e10, e12, e13, hds⟩, hle11⟩
      dsimp only at e1 e2 e3 e7 e10 e12 e13 e14 hds
      subst hds
      obtain rfl : i = i14 + 1 := by omega
      obtain rfl : i15 = i14 := by omega
      refine CW.walk1 hX mixed d9 rfl ?_
      simp [e14]
      exact ⟨L.length - (i15 + 1), by omega, i15 + 1, i15 + 1, rfl, by omega, rfl, by simp; rw [wrapI (by omega) (by omega)], ⟨by simp [e1], by simp [e2], by simp [e3], by simp [e7], by simp [e10], by simp [e12], by simp [e13], rfl⟩, hle11⟩
    refine CW.block ?_
    refine CW.walk hX mixed d9 rfl ?_
    simp [d9, e10, e12, e14, hil, m10', h1', tc]
    refine (sizeF_c hX hG v hUv hsv' j H10 _ hv10).k ?_
    rintro x H11 ⟨hle11, _, hok11⟩
    have htj : thereE v j = 0 := by
      rw [thereE, if_neg (fun h => h (errU_wf.2 hwv)), if_neg (by omega)]
    obtain ⟨p', c', hp', _, hkk⟩ := hok11 htj
    rw [ordC_eq hp'] at hkk
    obtain rfl := hkk (by simpa using hj3)
    clear hok11
    have m11 := hle11 _ _ m10'
    have h11 := hle11 _ _ h1'
    have hv11 := hv10.mono hle11
    simp
    refine CW.walk hX mixed d9 rfl ?_
    simp [d9, e10, e12, e14, hil, m11, h11, tc]
    refine (convertF_c hX hG v hUv hsv' j H11 _ hv11).k ?_
    rintro x H12 ⟨cs12, rfl, hle12, hv12⟩
    have hl12 := hv12.l
    simp [hl12]
    intro q17 hq17
    have hle13 := ((hle10.trans hle11).trans hle12).trans (Le.set_new (o := .cells cs12) hq17)
    generalize H12.set q17 _ = H13 at hle13 ⊢
    have fin : ∀ s' : CA, s'.env 14 = .int .i64 i14 → tfE q3 q7 q10 n size (.ref r1 0 L.length c1) s' → tfL H9 q3 q7 q10 n size (.ref r1 0 L.length c1) L.length 1 (L.length - (i14 + 1)) s' H13 := fun s' h1 h2 => ⟨i14 + 1, i14, rfl, by omega, rfl, h1, h2, hle13⟩
    by_cases hz2 : (sizeP v (ordC v) j : Int) ≤ size
    · have hn := first_none_at hst hj2
      have he : errU (convP v (ordC v) j) ≠ 0 := fun h => by
        rw [stepAll, if_pos ⟨hj3, hz2, h⟩] at hn
        cases hn
      have e11 : cvE v j = 11 := by
        rw [cvE, if_neg (fun h => h htj), if_neg (by simpa using hj3), if_pos (by simpa using he)]
      refine CW.walk1 hX mixed d9 rfl ?_
      simp [hz2, e2, e11]
      exact fin _ (by simp [e14]) ⟨by simp [e1], by simp [e2], by simp [e3], by simp [e7], by simp [e10], by simp [e12], by simp [e13], rfl⟩
    · refine CW.walk1 hX mixed d9 rfl ?_
      simp [hz2, e2]
      exact fin _ (by simp [e14]) ⟨by simp [e1], by simp [e2], by simp [e3], by simp [e7], by simp [e10], by simp [e12], by simp [e13], rfl⟩
  clear e1 e2 e3 e7 hcl
  rintro ⟨e, ds⟩ HA ⟨⟨e1, e2, e3, e7, e10, e12, e13, hds⟩, hleA⟩
  dsimp only at e1 e2 e3 e7 e10 e12 e13 hds
  subst hds
  have m7 := hleA _ _ m7
  have m3 := hleA _ _ m3
  have hvO := hvO.mono hleA
  have hle := hle.trans hleA
  clear hleA m10 hv7
  refine CW.walk hX mixed d9 rfl ?_
  simp [e1, e3, m3]
  refine (hc _).k ?_
  rintro x HB ⟨csB, rfl, hleB, hvB⟩
  simp [e1]
  refine (joinF_c hX hG u hUO hs n HB _ hvB).k ?_
  rintro x HC ⟨csC, rfl, hleC, hvC⟩
  have hlC := hvC.l
  simp [hlC]
  intro q19 hq19
  have hleD : Le HC (HC.set q19 (.cells csC)) := Le.set_new hq19
  have m19 : (HC.set q19 (.cells csC)) q19 = some (.cells csC) := set_at
  generalize HC.set q19 _ = HD at hleD m19 ⊢
  have hleAD := (hleB.trans hleC).trans hleD
  have m7 := hleAD _ _ m7
  have hvO := hvO.mono hleAD
  have hvC := hvC.mono hleD
  have hle := hle.trans hleAD
  clear hleB hleC hleD hleAD hvB
  refine CW.walk hX mixed d9 rfl ?_
  simp
  refine CW.walk hX mixed d9 rfl ?_
  simp [e7, m7]
  refine (refOrder_f hX hw hvO.f).k ?_
  rintro x HE ⟨vo, p, c, rfl, hp, hleE, hvo⟩
  rw [ordC_eq hp] at hvo
  have m7 := hleE _ _ m7
  have m19 := hleE _ _ m19
  have hvO := hvO.mono hleE
  have hvC := hvC.mono hleE
  have hle := hle.trans hleE
  clear hleE
  obtain ⟨hnd, hlt, hmm⟩ := ordC_r (by omega) hp
  have hol : (ordC u).length ≤ 2000 := by
    have := nodup_sub (l := ordC u) (m := List.range u.blocks.length) hnd fun b hb => List.mem_range.2 (hlt b hb)
    simp at this
    omega
  simp
  refine CW.cut (tfC HE q7 q19 n (jnE u n) vo (decide (n ∈ ordC u))) ?_ ?_
  · refine CW.walk hX mixed d9 rfl ?_
    simp
    refine CW.block ?_
    have hnl : (natL (ordC u)).length = (ordC u).length := by simp [natL]
    generalize ordC u = ord at hvo hol hnl ⊢
    refine CW.loop (tfO HE q7 q19 n (jnE u n) vo ord 0) ?_ (m := ord.length) ⟨0, 0, rfl, by omega, rfl, by simp, by simp, ⟨by simp [e1], by simp [e7], by simp [e13], by simp, by simp, by simp, rfl, rfl⟩⟩
    clear e1 e2 e3 e7 e10 e12 e13
    rintro m ⟨e, ds⟩ HF ⟨i, i23, rfl, hi, hi23, e21, e23, ⟨e1, e7, e13, e19, e20, e22, hds, rfl⟩⟩
    dsimp only at e1 e7 e13 e19 e20 e21 e22 e23 hds
    subst hds
    obtain rfl : i23 = i := by omega
    rcases hvo with ⟨rfl, h0⟩ | ⟨r, cc, cs, rfl, hr, hcs⟩
    · have h0 : ord.length = 0 := by rw [← hnl, h0]; rfl
      obtain rfl : ord = [] := List.length_eq_zero_iff.1 h0
      obtain rfl : i23 = 0 := by simpa using hi
      refine CW.walk hX mixed d9 rfl ?_
      simp [e22, e23]
      exact ⟨⟨by simp [e1], by simp [e7], by simp [e13], by simp [e19], by simp [e20], by simp [e22], rfl, rfl⟩, by simp [e21]⟩
    rw [hnl] at e22
    by_cases hil : i23 < ord.length
    rotate_left
    · refine CW.walk hX mixed d9 rfl ?_
      simp [e22, e23, hil]
      obtain rfl : i23 = ord.length := by omega
      exact ⟨⟨by simp [e1], by simp [e7], by simp [e13], by simp [e19], by simp [e20], by simp [e22, hnl], rfl, rfl⟩, by simp [e21]⟩
    obtain ⟨bb, hbb⟩ : ∃ b, ord[i23] = b := ⟨_, rfl⟩
    have hcell := hcs i23 bb (by simp [natL, List.getElem?_eq_getElem hil, hbb])
    have hsc : decide (n ∈ ord.take (i23 + 1)) = (decide (n ∈ ord.take i23) || decide (bb = n)) := by
      rw [List.take_succ_eq_append_getElem hil, hbb, Bool.eq_iff_iff]
      simp only [decide_eq_true_eq, Bool.or_eq_true, List.mem_append, List.mem_singleton]
      exact or_congr Iff.rfl eq_comm
    refine CW.walk hX mixed d9 rfl ?_
    simp [e22, e23, hil]
    refine CW.cut (tfO HF q7 q19 n (jnE u n) (.ref r 0 (natL ord).length ((natL ord).length + cc)) ord 1 (ord.length - (i23 + 1))) ?_ ?_
    rotate_left
    · clear e1 e7 e13 e19 e20 e21 e22 e23
      rintro ⟨e, ds⟩ HG ⟨i, i24, hm, hi, hi24, e21, e23, ⟨e1, e7, e13, e19, e20, e22, hds, rfl⟩⟩
      dsimp only at e1 e7 e13 e19 e20 e21 e22 e23 hds
      subst hds
      obtain rfl : i = i23 + 1 := by omega
      obtain rfl : i24 = i23 := by omega
      refine CW.walk1 hX mixed d9 rfl ?_
      simp [e23]
      exact ⟨ord.length - (i24 + 1), by omega, i24 + 1, i24 + 1, rfl, by omega, rfl, by simp [e21], by simp; rw [wrapI (by omega) (by omega)], ⟨by simp [e1], by simp [e7], by simp [e13], by simp [e19], by simp [e20], by simp [e22], rfl, rfl⟩⟩
    refine CW.block ?_
    by_cases hin : n ∈ ord.take i23
    · refine CW.walk1 hX mixed d9 rfl ?_
      simp [e21, hin]
      exact ⟨i23 + 1, i23, rfl, by omega, rfl, by simp [hsc, hin], by simp [e23], ⟨by simp [e1], by simp [e7], by simp [e13], by simp [e19], by simp [e20], by simp [e22, hnl], rfl, rfl⟩⟩
    · refine CW.walk1 hX mixed d9 rfl ?_
      simp [e1, e21, e22, e23, hin, hil, hr, hcell]
      exact ⟨i23 + 1, i23, rfl, by omega, rfl, by rw [hsc]; simp only [hin, decide_false, Bool.false_or]; simp; rw [Bool.eq_iff_iff]; simp; omega, by simp [e23], ⟨by simp [e1], by simp [e7], by simp [e13], by simp [e19], by simp [e20], by simp [e22, hnl], rfl, rfl⟩⟩
  clear e1 e2 e3 e7 e10 e12 e13 hvo
  rintro ⟨e, ds⟩ HG ⟨⟨e1, e7, e13, e19, e20, e22, hds, rfl⟩, e21⟩
  dsimp only at e1 e7 e13 e19 e20 e21 e22 hds
  subst hds
  by_cases hj : jnE u n = 0
  rotate_left
  · refine CW.walk1 hX mixed d9 rfl ?_
    simp [d9, e13, e20, hj]
    refine ⟨stabI_le rfl (Le.refl _), ?_⟩
    refine (alive_c hX hG _).k ?_
    rintro x HH ⟨rfl, rfl⟩
    simp
    exact hle
  obtain ⟨hf, hwj⟩ := jn_ok hj
  have hwj := errU_wf.1 hwj
  simp only [Int.toNat_natCast] at hf hwj
  obtain ⟨p2, c2, hp2⟩ := pleast_ex (opsOf u)
  have hJ := jnF_of hw hp2 hn hf
  have hjm := join_jm hw hJ
  have hin := hJ.xo
  have hjU : jnU u n = joinP u n := by rw [jnU, if_pos hj]; rfl
  rw [hjU] at hvC
  have hjb : jmN u ≤ 2000 := by
    have := List.countP_le_length (p := fun b : Nat => decide ((blkAt u b).en.kind = 1)) (l := ordC u)
    simp only [jmN]
    omega
  refine CW.walk1 hX mixed d9 rfl ?_
  simp [d9, e7, e13, e19, e20, e21, hj, hin, m19, m7, hlC]
  rw [List.take_of_length_le (by omega)]
  refine (jumpsN_f hX hwj hvC.f).k ?_
  rintro x HH ⟨rfl, rfl⟩
  simp [d9, e7, e13, e19, e20, e21, hj, hin, m19, m7, hlC]
  refine ⟨stabI_le rfl (Le.refl _), ?_⟩
  refine (jumpsN_f hX hw hvO.f).k ?_
  rintro x HI ⟨rfl, rfl⟩
  have hw1 : IntKind.i64.wrap ((jmN u : Int) - 1) = jmN (joinP u n) := by rw [wrapI (by omega) (by omega)]; omega
  simp [d9, hw1]
  refine (alive_c hX hG _).k ?_
  rintro x HK ⟨rfl, rfl⟩
  simp
  exact hle
end Go.Cl.Gu
