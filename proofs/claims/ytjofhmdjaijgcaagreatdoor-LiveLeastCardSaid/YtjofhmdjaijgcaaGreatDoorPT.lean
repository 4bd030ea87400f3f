/- DERIVED HERE. The program's Points. -/
import Derived.Test.YtjofhmdjaijgcaaGreatDoorNM
import Derived.Test.YtjofhmdjaijgcaaGreatDoorLenK
set_option linter.unusedSimpArgs false
set_option linter.unusedVariables false
namespace Go.Cl
open Go.Proofs
variable {W : World} {G : Nat → CV}
set_option maxRecDepth 8000
set_option maxHeartbeats 4000000
theorem points56_c (hX : CxOk (cx W G)) (lv : List CV) (b : Nat) (H : Hp) : CC Tryz.prog W 39 [.iptr lv, .int .i64 b] H fun x H' => ∃ q2 q3, q2 ≠ q3 ∧ H q2 = none ∧ H q3 = none ∧ x = .ret (.func (.func 68) [] [.ptr q2 0, .ptr q3 0]) ∧ H' = (H.set q2 (.cells [.iptr lv])).set q3 (.cells [.int .i64 b]) := by
  refine CC.of_ev hX mixed d39 Tryz.func39 rfl rfl (Nat.le_of_ble_eq_true rfl) d39_ok ?_
  simp (config := {contextual := true}) [Tryz.f39, d39]
  intro q2 n2 q3 h1 h2 n3
  exact ⟨q2, q3, h2, n2, n3, ⟨rfl, rfl⟩, rfl⟩
def ptA (m : Nat) (len : Nat) (j r : Nat) : List CV := [.int .i64 ((len : Int) - j), .ref r 0 m m]
def ptC (u : UUnit) (p : Nat → Bool) (I : Nat → Nat → Bool) (k : UBlk) (j : Nat) : List CV := setC (mOf u) (beforeP u p I k (k.ops.drop (k.ops.length - j)))
theorem hset_none_iff {H : Hp} {r q : Nat} {o : Ob} : H.set q o r = none ↔ (r ≠ q ∧ H r = none) := by
  simp only [Hp.set]
  split
  · rename_i h; simp [h]
  · rename_i h; simp [h]
theorem points_it (hX : CxOk (cx W G)) (hG : G 0 = .iptr formsC) (u : UUnit) (hu : wfU u = true) (p : Nat → Bool) (cn : Nat) (c : Nat → Bool) (I : Nat → Nat → Bool) (b : Nat) (k : UBlk) (hb : u.blocks[b]? = some k) (q2 q3 : Nat) :
    IterP Tryz.prog W 68 [] [.ptr q2 0, .ptr q3 0] (k.ops.length + 1) (ptA (mOf u) k.ops.length) (ptC u p I k) (fun A => A q2 = some (.cells [.iptr (liveC u u.regs.toNat p cn c I)]) ∧ A q3 = some (.cells [.int .i64 b])) := by
  obtain ⟨f1, f2, f3, f4, f5, f6, f7, f8, f9, f10, f11⟩ := wfU_facts hu
  obtain ⟨g1, g2, g3, g4⟩ := wfB_facts hu hb
  have hbl := (List.getElem?_eq_some_iff.1 hb).1
  have hbe := (List.getElem?_eq_some_iff.1 hb).2
  intro l A J E H0 hA hJA hJs hEs h0 hy
  have mA := fun {j H} (h : J j H) => hJA j H h
  refine CC.of_cw hX Tryz.func68 rfl rfl (Nat.le_of_ble_eq_true rfl) ?_
  refine CW.walk hX mixed d68 rfl ?_
  simp [boxK, CV.stor, CV.cells]
  intro qy ny
  have a2 := mA h0 _ _ hA.1
  have a3 := mA h0 _ _ hA.2
  have y2 : qy ≠ q2 := fun e => by rw [e, a2] at ny; cases ny
  have y3 : qy ≠ q3 := fun e => by rw [e, a3] at ny; cases ny
  refine CW.walk hX mixed d68 rfl ?_
  simp [a2, a3, Ne.symm y2, Ne.symm y3]
  refine (end_c hX u hu p cn c I b k hb _).k ?_
  rintro x H1 ⟨r, hr, rfl, rfl⟩
  simp
  rw [hset_none_iff] at hr
  intro q4 h4r hr4 h4y hy4 n4
  have hy4' : q4 ≠ qy := h4y
  have hrA : A r = none := (mA h0).none hr.2
  obtain ⟨H1, hH1⟩ : ∃ H1, H1 = H0.set r (.cells (setC (mOf u) (endP u p I k))) := ⟨_, rfl⟩
  have hJ1 : J 0 H1 := by rw [hH1]; exact hJs 0 H0 r _ h0 hrA
  have h1r : H1 r = some (.cells (setC (mOf u) (endP u p I k))) := by rw [hH1]; exact set_at
  have h1y : H1 qy = none := by rw [hH1, hset_ne (Ne.symm hr.1)]; exact ny
  have h14 : H1 q4 = none := by rw [hH1, hset_ne h4r]; exact n4
  have hHe : ((H0.set qy (.cells [.func (.yield l) [] []])).set r (.cells (setC (mOf u) (endP u p I k)))).set q4 (.cells [.ref r 0 (mOf u) (mOf u)]) = (H1.set qy (.cells [.func (.yield l) [] []])).set q4 (.cells [.ref r 0 (mOf u) (mOf u)]) := by
    rw [hH1, set_comm (Ne.symm hr.1)]
  rw [hHe]
  clear hHe
  have a2 := mA hJ1 _ _ hA.1
  have a3 := mA hJ1 _ _ hA.2
  have h42 : q4 ≠ q2 := fun e => by rw [e, a2] at h14; cases h14
  have h43 : q4 ≠ q3 := fun e => by rw [e, a3] at h14; cases h14
  refine CW.walk hX mixed d68 rfl ?_
  simp [d68, a2, a3, Ne.symm y2, Ne.symm y3, Ne.symm h42, Ne.symm h43, hy4, liveC, unitC, mayC, hbl, hbe, blkC]
  refine CW.walk hX mixed d68 rfl ?_
  simp [d68, Ne.symm y2, Ne.symm y3, Ne.symm h42, Ne.symm h43, hy4]
  have yl : ∀ j (H1 : Hp), j < k.ops.length + 1 → J j H1 → H1 r = some (.cells (ptC u p I k j)) → H1 qy = none → H1 q4 = none → CY Tryz.prog W l (ptA (mOf u) k.ops.length j r) ((H1.set qy (.cells [.func (.yield l) [] []])).set q4 (.cells [.ref r 0 (mOf u) (mOf u)])) fun b H' => ∃ H2, H2 qy = none ∧ H2 q4 = none ∧ H' = (H2.set qy (.cells [.func (.yield l) [] []])).set q4 (.cells [.ref r 0 (mOf u) (mOf u)]) ∧ H2 r = some (.cells (ptC u p I k j)) ∧ if b = true then J (j + 1) H2 else E H2 := by
    intro j H1 hj hJ h1 h2 h3
    have hc := (((hy j r H1 hj hJ hrA h1).frame (r := qy) (ob := .cells [.func (.yield l) [] []]) h2).frame (r := q4) (ob := .cells [.ref r 0 (mOf u) (mOf u)]) (by rw [hset_none_iff]; exact ⟨hy4', h3⟩))
    refine hc.mono ?_
    rintro b H' ⟨H2, e1, rfl, H3, e2, rfl, e3, e4⟩
    rw [hset_none_iff] at e1
    exact ⟨H3, e2, e1.2, rfl, e3, e4⟩
  have hyA : A qy = none := by
    have := (mA hJ1).none h1y
    exact this
  have h4A : A q4 = none := (mA hJ1).none h14
  have fE : ∀ H2, E H2 → E ((H2.set qy (.cells [.func (.yield l) [] []])).set q4 (.cells [.ref r 0 (mOf u) (mOf u)])) := fun H2 h => hEs _ _ _ (hEs _ _ _ h hyA) h4A
  have h1r' : H1 r = some (.cells (ptC u p I k 0)) := by rw [h1r]; simp [ptC, beforeP]
  have y0 := yl 0 H1 (by omega) hJ1 h1r' h1y h14
  rw [show ptA (mOf u) k.ops.length 0 r = [.int .i64 (k.ops.length : Nat), .ref r 0 (mOf u) (mOf u)] by simp [ptA]] at y0
  refine y0.k ?_
  clear y0 h1r h1r' h1y h14 hJ1 a2 a3 hH1
  rintro b1 H' ⟨H2, k1, k2, rfl, k3, k4⟩
  cases b1 with
  | false =>
    simp
    exact .inr (fE _ k4)
  | true =>
  simp at k4
  simp
  refine CW.walk hX mixed d68 rfl ?_
  simp
  refine (backward_ops hX _ _).k ?_
  rintro x H3 ⟨qb, hqb, rfl, rfl⟩
  simp
  rw [hset_none_iff, hset_none_iff] at hqb
  refine CW.walk1 hX mixed d68 rfl ?_
  simp
  have hdis : qb ≠ q4 ∧ qb ≠ qy ∧ H2 qb = none := ⟨hqb.1, hqb.2.1, hqb.2.2⟩
  obtain ⟨b4, by', hbn⟩ := hdis
  have hbA : A qb = none := (mA k4).none hbn
  obtain ⟨Z, hZ⟩ : ∃ Z : Hp → Hp, Z = fun H1 => ((H1.set qy (.cells [.func (.yield l) [] []])).set q4 (.cells [.ref r 0 (mOf u) (mOf u)])).set qb (.cells [.sl 7 (k.ops.map opC)]) := ⟨_, rfl⟩
  have hZi : ∀ H1, ((H1.set qy (.cells [.func (.yield l) [] []])).set q4 (.cells [.ref r 0 (mOf u) (mOf u)])).set qb (.cells [.sl 7 (k.ops.map opC)]) = Z H1 := fun H1 => by rw [hZ]
  have zy : ∀ H1, Z H1 qy = some (.cells [.func (.yield l) [] []]) := fun H1 => by rw [hZ]; simp [Hp.set, Ne.symm by', Ne.symm hy4']
  have z4 : ∀ H1, Z H1 q4 = some (.cells [.ref r 0 (mOf u) (mOf u)]) := fun H1 => by rw [hZ]; simp [Hp.set, Ne.symm b4]
  have zb : ∀ H1, Z H1 qb = some (.cells [.sl 7 (k.ops.map opC)]) := fun H1 => by rw [hZ]; simp [Hp.set]
  have zo : ∀ H1 i, i ≠ qy → i ≠ q4 → i ≠ qb → Z H1 i = H1 i := fun H1 i h1 h2 h3 => by rw [hZ]; simp [Hp.set, h1, h2, h3]
  have zset : ∀ H1 i o, i ≠ qy → i ≠ q4 → i ≠ qb → (Z H1).set i o = Z (H1.set i o) := fun H1 i o h1 h2 h3 => by
    rw [hZ]
    funext z
    simp only [Hp.set]
    by_cases e : z = i
    · subst e; simp [h1, h2, h3]
    · simp [e]
  have zE : ∀ H1, E H1 → E (Z H1) := fun H1 h => by rw [hZ]; exact hEs _ _ _ (fE _ h) hbA
  have zJ : ∀ j H1, J j H1 → J j (Z H1) := fun j H1 h => by rw [hZ]; exact hJs _ _ _ _ (hJs _ _ _ _ (hJs _ _ _ _ h hyA) h4A) hbA
  have yl2 : ∀ j (H1 : Hp), j < k.ops.length + 1 → J j H1 → H1 r = some (.cells (ptC u p I k j)) → H1 qy = none → H1 q4 = none → H1 qb = none → CY Tryz.prog W l (ptA (mOf u) k.ops.length j r) (Z H1) fun b H' => ∃ H2, H2 qy = none ∧ H2 q4 = none ∧ H2 qb = none ∧ H' = Z H2 ∧ H2 r = some (.cells (ptC u p I k j)) ∧ if b = true then J (j + 1) H2 else E H2 := by
    intro j H1 hj hJ h1 h2 h3 h4
    have hc := (yl j H1 hj hJ h1 h2 h3).frame (r := qb) (ob := .cells [.sl 7 (k.ops.map opC)]) (by rw [hset_none_iff, hset_none_iff]; exact ⟨b4, by', h4⟩)
    rw [hZi] at hc
    refine hc.mono ?_
    rintro b H' ⟨H2, e1, rfl, H3, e2, e3, rfl, e4, e5⟩
    rw [hset_none_iff, hset_none_iff] at e1
    exact ⟨H3, e2, e3, e1.2.2, hZi _, e4, e5⟩
  rw [hZi]
  have hun : ∀ (B : Hp) d o, B d = none → (fun i => if i = d then none else (B.set d o) i) = B := fun B d o h => by
    funext i
    by_cases e : i = d
    · subst e; simp [h]
    · simp [e, Hp.set]
  refine CW.range hX (X := cx W G) (f := 104) (fs := []) (cap := [.ptr qb 0]) (ys := backYs (k.ops.map opC)) (by simp) (back_ops hX qb _ (by simp [opC]) (by simp; omega)) boxed_up (by simp) (by simp [backYs]) (fun j H' => ∃ H1, J (j + 1) H1 ∧ H1 r = some (.cells (ptC u p I k j)) ∧ H1 qy = none ∧ H1 q4 = none ∧ H1 qb = none ∧ H' = Z H1) (fun cd H' => cd = .ret ∧ ∃ H1, E H1 ∧ H' = Z H1) ?_ ?_ ?_ ?_ ?_
  · rintro j H' ⟨H1, _, _, _, _, _, rfl⟩
    exact zb H1
  · exact ⟨H2, k4, k3, k1, k2, hbn, rfl⟩
  · rintro l' j args H' hj ⟨H1, hJ, m1, m2, m3, m4, rfl⟩
    have hjl : j < k.ops.length := by have := (List.getElem?_eq_some_iff.1 hj).1; simpa [backYs] using this
    rw [backYs_get (by simpa using hjl)] at hj
    injection hj with hj
    subst hj
    have hx : k.ops[k.ops.length - 1 - j]? = some k.ops[k.ops.length - 1 - j] := List.getElem?_eq_getElem (by omega)
    have hdr : k.ops.drop (k.ops.length - (j + 1)) = k.ops[k.ops.length - 1 - j] :: k.ops.drop (k.ops.length - j) := by
      rw [show k.ops.length - (j + 1) = k.ops.length - 1 - j by omega, List.drop_eq_getElem_cons (by omega)]
      congr 2
      omega
    have hom : k.ops[k.ops.length - 1 - j] ∈ k.ops := List.getElem_mem _
    generalize k.ops[k.ops.length - 1 - j] = o at hx hdr hom
    have hgd : (k.ops.map opC).getD ((k.ops.map opC).length - 1 - j) [] = opC o := by rw [List.length_map, List.getD_eq_getElem?_getD, List.getElem?_map, hx]; rfl
    rw [hgd]
    refine CW.walk1 hX mixed d68 rfl ?_
    simp [opC]
    intro q9 hq9
    have q9y : q9 ≠ qy := fun e => by rw [e, zy] at hq9; cases hq9
    have q94 : q9 ≠ q4 := fun e => by rw [e, z4] at hq9; cases hq9
    have q9b : q9 ≠ qb := fun e => by rw [e, zb] at hq9; cases hq9
    rw [zo _ _ q9y q94 q9b] at hq9
    have q9A : A q9 = none := (mA hJ).none hq9
    have q9r : q9 ≠ r := fun e => by rw [e, m1] at hq9; cases hq9
    rw [zset _ _ _ q9y q94 q9b]
    have ry : r ≠ qy := fun e => by rw [e, m2] at m1; cases m1
    have r4 : r ≠ q4 := fun e => by rw [e, m3] at m1; cases m1
    have rb : r ≠ qb := fun e => by rw [e, m4] at m1; cases m1
    have hJ9 := hJs _ _ q9 (.cells (opC o)) hJ q9A
    have n1 := (Le.set_new (o := .cells (opC o)) hq9) _ _ m1
    have n9 : (H1.set q9 (.cells (opC o))) q9 = some (.cells (opC o)) := set_at
    have n2 : (H1.set q9 (.cells (opC o))) qy = none := by rw [hset_ne (Ne.symm q9y)]; exact m2
    have n3 : (H1.set q9 (.cells (opC o))) q4 = none := by rw [hset_ne (Ne.symm q94)]; exact m3
    have n4 : (H1.set q9 (.cells (opC o))) qb = none := by rw [hset_ne (Ne.symm q9b)]; exact m4
    change CW _ _ _ _ _ _ _ (Z (H1.set q9 (.cells (opC o))))
    generalize H1.set q9 _ = H5 at hJ9 n1 n9 n2 n3 n4 ⊢
    simp only [opC] at n9
    clear hJ m1 m2 m3 m4 hq9
    have c2 := mA hJ9 _ _ hA.1
    have c3 := mA hJ9 _ _ hA.2
    have d2 : Z H5 q2 = H5 q2 := zo _ _ (Ne.symm y2) (Ne.symm h42) (fun e => by rw [e, n4] at c2; cases c2)
    have d900003 : Z H5 q3 = H5 q3 := zo _ _ (Ne.symm y3) (Ne.symm h43) (fun e => by rw [e, n4] at c3; cases c3)
    have d900009 : Z H5 q9 = H5 q9 := zo _ _ q9y q94 q9b
    have dr : Z H5 r = H5 r := zo _ _ ry r4 rb
    rw [c2] at d2
    rw [c3] at d900003
    rw [n9] at d900009
    rw [n1] at dr
    refine CW.block ?_
    refine CW.walk hX mixed d68 rfl ?_
    simp [d2, d900003, d900009, z4]
    have hbf := before_c hX hG u hu p cn c I b k hb o (g3 o hom) r (mOf u) _ (Z H5) dr
    simp only [opC] at hbf
    refine hbf.k ?_
    rintro x H6 ⟨rfl, rfl⟩
    simp
    rw [zset _ _ _ ry r4 rb]
    have hst : setC (mOf u) (stepP u p I k o (beforeP u p I k (k.ops.drop (k.ops.length - j)))) = ptC u p I k (j + 1) := by
      simp only [ptC, hdr]
      rfl
    rw [hst]
    have hJ6 := hJs _ _ r (.cells (ptC u p I k (j + 1))) hJ9 hrA
    have w1 : (H5.set r (.cells (ptC u p I k (j + 1)))) r = some (.cells (ptC u p I k (j + 1))) := set_at
    have w2 : (H5.set r (.cells (ptC u p I k (j + 1)))) qy = none := by rw [hset_ne (Ne.symm ry)]; exact n2
    have w3 : (H5.set r (.cells (ptC u p I k (j + 1)))) q4 = none := by rw [hset_ne (Ne.symm r4)]; exact n3
    have w4 : (H5.set r (.cells (ptC u p I k (j + 1)))) qb = none := by rw [hset_ne (Ne.symm rb)]; exact n4
    generalize H5.set r _ = H6 at hJ6 w1 w2 w3 w4 ⊢
    have hy2 := yl2 (j + 1) H6 (by omega) hJ6 w1 w2 w3 w4
    rw [show ptA (mOf u) k.ops.length (j + 1) r = [.int .i64 (((k.ops.map opC).length : Int) - 1 - (j : Nat)), .ref r 0 (mOf u) (mOf u)] by simp [ptA]; omega] at hy2
    simp only [List.length_map] at hy2
    refine CW.walk1 hX mixed d68 rfl ?_
    simp [zy, z4]
    refine hy2.k ?_
    rintro b2 H7 ⟨H8, s1, s2, s3, rfl, s4, s5⟩
    cases b2 with
    | true =>
      simp at s5
      simp
      exact ⟨H8, s5, s4, s1, s2, s3, rfl⟩
    | false =>
      simp at s5
      simp
      exact ⟨H8, s5, rfl⟩
  · rintro d H' ⟨H3, s1, s2, s3, s4, s5, rfl⟩ hd
    simp
    rw [hun _ _ _ hd]
    exact .inl (zJ _ _ (by simpa [backYs] using s1))
  · rintro cd d H' ⟨rfl, H3, s1, rfl⟩ hd
    refine CW.walk1 hX mixed d68 rfl ?_
    simp
    rw [hun _ _ _ hd]
    exact .inr (zE _ s1)
end Go.Cl
