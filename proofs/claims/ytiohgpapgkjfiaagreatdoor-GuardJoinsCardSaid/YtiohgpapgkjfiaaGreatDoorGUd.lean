/- DERIVED HERE. The reference's Form. DERIVED HERE. The law's same. DERIVED HERE. The reference's Convert. DERIVED HERE. The reference's Joined, Join. DERIVED HERE. The reference's All. DERIVED HERE. The reference's Join, Joins. -/
import Derived.Test.YtiohgpapgkjfiaaGreatDoorGUc
import Derived.Test.YtiohgpapgkjfiaaGreatDoorGUb
set_option linter.unusedSimpArgs false
set_option linter.unusedVariables false
namespace Go.Cl.Gu
open Go.Proofs Go.Cl.Gd
variable {W : World} {G : Nat → CV}
set_option maxRecDepth 8000
set_option maxHeartbeats 1000000
/-- A side's value, frozen. -/
def SdV (sv : CV) (l : List UOp) : Prop := (sv = .nilsl ∧ l = []) ∨ sv = .sl 7 (l.map opC)
theorem guardedS_c (hX : CxOk (cx W G)) (l : List UOp) (xs : List (List CV)) (g z r : Int) (hg : ∀ o ∈ l, o.guard = -1 ∨ 0 ≤ o.guard) (hl : l.length ≤ 400) (hxs : xs.length ≤ 100000) (hr : 0 ≤ r ∧ r ≤ 1000000) {B H : Hp} {v sv : CV} (hs : SdV sv l) (hv : Own B H v 7 xs) :
    CC Tryz.prog W 71 [v, sv, ci g, ci z, ci r] H fun x H' => ∃ v', x = .ret (.tuple [v', ci (sideP g z l r).2]) ∧ Own B H' v' 7 (xs ++ (sideP g z l r).1.map opC) := by
  rcases hs with ⟨rfl, rfl⟩ | rfl
  · refine (guarded_nil hX g z r H v).mono ?_
    rintro x H' ⟨rfl, rfl⟩
    exact ⟨v, rfl, by simpa [sideP] using hv⟩
  · exact guarded_c hX l xs g z r hg hl hxs hr hv
theorem cutOk_of {u : UUnit} (hw : wfU u = true) (hbl : u.blocks.length ≤ 1000) (hs : u.sizes.length ≤ 17) : CutOk u := ⟨hs, hbl, fun b hb => by
    obtain ⟨j, hj⟩ := List.getElem?_of_mem hb
    have := (wfB_facts hw hj).2.1
    omega⟩
theorem sdAB {u : UUnit} {ord : List Nat} {x : Nat} (hu : wfU u = true) (hx : x < u.blocks.length) (hk : (shapeP u ord x).kind ≠ 0) : SdV (sdA u (blkAt u x).en (shapeP u ord x).kind) (sideOps u (shapeP u ord x).to) ∧ SdV (sdB u (blkAt u x).en (shapeP u ord x).kind) (sideOps u (shapeP u ord x).or_) := by
  rcases shape_kinds u ord x with h | ⟨h2, h⟩
  · exact absurd h hk
  obtain ⟨w1, w2, w3, w4, w5⟩ := wfE_facts (wfB_facts hu (blkAt_get hx)).2.2.2
  have h4 := w4 (.inr h2)
  have h5 := w5 h2
  rcases h with ⟨a, b, c⟩ | ⟨a, b, c⟩ | ⟨a, b, c⟩
  · rw [a, b, c]
    exact ⟨.inr (by simp [sdA, sideOps, show ¬ (blkAt u x).en.to < 0 by omega]), .inr (by simp [sdB, sideOps, show ¬ (blkAt u x).en.els < 0 by omega])⟩
  · rw [a, b, c]
    exact ⟨.inr (by simp [sdA, sideOps, show ¬ (blkAt u x).en.to < 0 by omega]), .inl (by simp [sdB, sideOps])⟩
  · rw [a, b, c]
    exact ⟨.inl (by simp [sdA, sideOps]), .inr (by simp [sdB, sideOps, show ¬ (blkAt u x).en.els < 0 by omega])⟩
theorem refForm_c (hX : CxOk (cx W G)) (u : UUnit) (hw : wfU u = true) (hbl : u.blocks.length ≤ 1000) (x : Nat) (hx : x < u.blocks.length) (hk : (shapeP u (ordC u) x).kind ≠ 0) (H : Hp) :
    CC Tryz.prog W 44 [.agg (unitC u), .int .i64 x] H fun r H' => ∃ cs, r = .ret (.agg cs) ∧ Le H H' ∧ UV H' cs (convP u (ordC u) x) := by
  obtain ⟨p, c, hp⟩ := pleast_ex (opsOf u)
  have hsh := refShape_c hX u hw hp x hx
  rw [ordC_eq hp] at hsh
  obtain ⟨f1, f2, f3, f4, f5, f6, f7, f8, f9, f10, f11⟩ := wfU_facts hw
  have hkx := blkAt_get hx
  obtain ⟨g1, g2, g3, g4⟩ := wfB_facts hw hkx
  have hsz : u.sizes.length ≤ 16 := by
    simp only [wfU, wfHead, Bool.and_eq_true, decide_eq_true_eq] at hw
    omega
  have hcut := cutOk_of hw hbl (by omega)
  have hk2 := shape_br hk
  have hsf := shape_facts hw (ord := ordC u) hx
  obtain ⟨sdA1, sdB1⟩ := sdAB hw hx hk
  generalize hS : shapeP u (ordC u) x = S at hsf hk hsh sdA1 sdB1
  have hsd := sides_c (W := W) hX u hw x hx hk2 S.kind
  have hmeet : S.kind ≠ 0 := hk
  refine CC.of_cw hX Tryz.func44 rfl rfl (Nat.le_of_ble_eq_true rfl) ?_
  refine CW.walk hX mixed d44 rfl ?_
  simp
  intro q2 hq2 q4 h42 h24 hq4
  have hle1 : Le H (H.set q2 (.cells (unitC u))) := Le.set_new hq2
  have m21 : (H.set q2 (.cells (unitC u))) q2 = some (.cells (unitC u)) := set_at
  have hK1 : (H.set q2 (.cells (unitC u))) q4 = none := by rw [hset_none_iff]; exact ⟨h42, hq4⟩
  generalize H.set q2 _ = K1 at hle1 m21 hK1 ⊢
  have hcp := (copy_cN hX u hcut K1).frame (ob := .cells zeroV) hK1
  have m22 : (K1.set q4 (.cells zeroV)) q2 = some (.cells (unitC u)) := Le.set_new hK1 _ _ m21
  simp only [unitC] at m22 m21 hcp hsh hsd
  refine CW.walk hX mixed d44 rfl ?_
  simp [m22]
  refine hcp.k ?_
  rintro y _ ⟨K2, hK2, rfl, cs, rfl, hle2, huv2, hN⟩
  obtain ⟨B, n0, n5, rfl, hB1, hB2, hn0, hb⟩ := hN
  obtain ⟨r5, c5, ds5, rfl, hc5, hBr5, hr5, hrow5⟩ : ∃ r c ds, n5 = .ref r 0 u.blocks.length c ∧ u.blocks.length ≤ c ∧ B r = none ∧ K2 r = some (.cells ds) ∧ ∀ (j : Nat) k, u.blocks[j]? = some k → ∃ x0, (ds.drop (j * 6)).take 6 = x0 :: blkT k ∧ Own E0 B x0 7 (k.ops.map opC) := by
    rcases hb with ⟨_, h0⟩ | h
    · rw [h0] at f7; simp at f7
    · exact h
  obtain ⟨sa, ca⟩ := Own.oneCell hn0
  simp only [CV.stor, CV.cells] at sa ca
  simp [sa, ca]
  intro q5 b1 b2 hq5
  have hq5' : (K2.set q4 (.cells zeroV)) q5 = none := by rw [hset_none_iff]; exact ⟨by first | exact b1 | exact b2, hq5⟩
  have m23 : (K2.set q4 (.cells zeroV)) q2 = some (.cells [.sl 1 (ints u.sizes), ci u.params, ci u.regs, ci u.code, ci u.spill, .sl 6 (u.blocks.map blkC)]) := Le.set_new hK2 _ _ (hB2 _ _ (hB1 _ _ m21))
  have mr53 : (K2.set q4 (.cells zeroV)) r5 = some (.cells ds5) := Le.set_new hK2 _ _ hr5
  have hBq4 := hB2.none hK2
  have hBq5 : B q5 = none := hB2.none hq5
  have hB3 : Le B ((K2.set q4 (.cells zeroV)).set q5 (.cells [n0, ci u.params, ci u.regs, ci u.code, ci u.spill, .ref r5 0 u.blocks.length c5])) := (hB2.trans (Le.set_new hK2)).trans (Le.set_new hq5')
  have m24 := Le.set_new (o := .cells [n0, ci u.params, ci u.regs, ci u.code, ci u.spill, .ref r5 0 u.blocks.length c5]) hq5' _ _ m23
  have mr54 := Le.set_new (o := .cells [n0, ci u.params, ci u.regs, ci u.code, ci u.spill, .ref r5 0 u.blocks.length c5]) hq5' _ _ mr53
  have m44 := Le.set_new (o := .cells [n0, ci u.params, ci u.regs, ci u.code, ci u.spill, .ref r5 0 u.blocks.length c5]) hq5' q4 _ set_at
  have m54 : ((K2.set q4 (.cells zeroV)).set q5 (.cells [n0, ci u.params, ci u.regs, ci u.code, ci u.spill, .ref r5 0 u.blocks.length c5])) q5 = _ := set_at
  have h5r : q5 ≠ r5 := fun e => by rw [e, mr53] at hq5'; cases hq5'
  have h5q : q5 ≠ q4 := fun e => by rw [e, set_at] at hq5'; cases hq5'
  have h4r : q4 ≠ r5 := fun e => by rw [e, hr5] at hK2; cases hK2
  generalize (K2.set q4 (.cells zeroV)).set q5 _ = H3 at hB3 m24 mr54 m44 m54 ⊢
  obtain ⟨x0, hrx, hox⟩ := hrow5 x _ hkx
  have hcx := row_head hrx
  have hdx : x * 6 + 6 ≤ ds5.length := by
    have := congrArg List.length hrx
    simp [blkT] at this
    omega
  have ra : ds5[x * 6 + 2]? = some (ci (blkAt u x).en.a) := row_get hrx (by omega) rfl
  refine CW.walk hX mixed d44 rfl ?_
  simp [m24]
  refine (hsh H3).k ?_
  rintro r H4 ⟨rfl, rfl⟩
  simp [rshV, hk]
  refine CW.walk hX mixed d44 rfl ?_
  simp [m24]
  refine (hsd H4).k ?_
  rintro r H5 ⟨rfl, rfl⟩
  simp
  refine CW.walk hX mixed d44 rfl ?_
  simp [m54, hx]
  refine CW.walk hX mixed d44 rfl ?_
  simp [mr54, ra]
  refine CW.walk hX mixed d44 rfl ?_
  simp [d44, m24]
  have w1 : IntKind.i64.wrap (u.regs + 1) = u.regs + 1 := wrapI (by omega) (by omega)
  have w2 : IntKind.i64.wrap (u.regs + 2) = u.regs + 2 := wrapI (by omega) (by omega)
  have w3 : IntKind.i64.wrap (u.regs + 3) = u.regs + 3 := wrapI (by omega) (by omega)
  rw [w1, w2]
  refine CW.walk hX mixed d44 rfl ?_
  simp [mr54, hcx, cfill, -vcAppend]
  intro q7 hq7
  have how : Own H5 (H5.set q7 (.cells [])) (.ref q7 0 0 0) 7 [] := ⟨Le.set_new hq7, by simp, .inr ⟨q7, 0, [], rfl, hq7, by simp, by simp, by simp⟩⟩
  have hq7r : r5 ≠ q7 := fun e => by rw [e, hq7] at mr54; cases mr54
  simp [hq7r, mr54, hcx, -vcAppend]
  refine how.append2 (ys := (blkAt u x).ops.map opC) hox.len (by simp; omega) ((hox.mono hB3).mono (Le.set_new hq7)).src fun v7 H7 how7 _ => ?_
  simp only [List.nil_append] at how7
  simp
  refine CW.walk hX mixed d44 rfl ?_
  simp [cfill, -vcAppend]
  intro q8 hq8
  refine (how7.more hq8).append2 (ys := (fourOps (blkAt u x).en.a u.regs).map opC) (by simp [fourOps, opC]) (by simp [fourOps]; omega) (src_ref set_at (by simp [fourOps, opC])) fun v8 H8 how8 _ => ?_
  simp
  have hle8 := how8.le
  refine CW.walk hX mixed d44 rfl ?_
  simp [hle8 _ _ m24]
  rw [w3]
  have hsg : ∀ s : Int, ∀ o ∈ sideOps u s, o.guard = -1 ∨ 0 ≤ o.guard := fun s o ho => by
    rw [sideOps] at ho
    split at ho
    · simp at ho
    · by_cases hs : s.toNat < u.blocks.length
      · have h1 := (wfO_facts ((wfB_facts hw (blkAt_get hs)).2.2.1 o ho) f3).2.2.2.2.1
        by_cases e : o.guard = -1
        · exact .inl e
        · exact .inr (h1 e).1
      · simp [blkAt, List.getD_eq_getElem?_getD, List.getElem?_eq_none (Nat.le_of_not_lt hs)] at ho
  have hsl : ∀ s : Int, (sideOps u s).length ≤ 400 := fun s => by
    rw [sideOps]
    split
    · simp
    · by_cases hs : s.toNat < u.blocks.length
      · exact (wfB_facts hw (blkAt_get hs)).2.1
      · simp [blkAt, List.getD_eq_getElem?_getD, List.getElem?_eq_none (Nat.le_of_not_lt hs)]
  have hsr1 := sideP_regs (g := u.regs) (z := u.regs + 1) (l := sideOps u S.to) (r := u.regs + 3)
  have hl1 := hsl S.to
  have hl2 := hsl S.or_
  refine CW.walk hX mixed d44 rfl ?_
  simp
  refine (guardedS_c hX (sideOps u S.to) _ u.regs (u.regs + 1) (u.regs + 3) (hsg _) (hsl _) (by simp [fourOps]; omega) (by omega) sdA1 how8).k ?_
  rintro y H9 ⟨v9, rfl, how9⟩
  simp
  refine CW.walk hX mixed d44 rfl ?_
  simp
  refine (guardedS_c hX (sideOps u S.or_) _ (u.regs + 2) (u.regs + 1) _ (hsg _) (hsl _) (by simp [fourOps]; omega) (by omega) sdB1 how9).k ?_
  rintro y H10 ⟨v10, rfl, how10⟩
  simp
  obtain ⟨rg', hrg'⟩ : ∃ r, (sideP (u.regs + 2) (u.regs + 1) (sideOps u S.or_) (sideP u.regs (u.regs + 1) (sideOps u S.to) (u.regs + 3)).2).2 = r := ⟨_, rfl⟩
  obtain ⟨N, hN⟩ : ∃ N : UBlk, (⟨(blkAt u x).ops ++ fourOps (blkAt u x).en.a u.regs ++ (sideP u.regs (u.regs + 1) (sideOps u S.to) (u.regs + 3)).1 ++ (sideP (u.regs + 2) (u.regs + 1) (sideOps u S.or_) (sideP u.regs (u.regs + 1) (sideOps u S.to) (u.regs + 3)).2).1, ⟨1, 0, S.meet, 0⟩, (blkAt u x).catch_⟩ : UBlk) = N := ⟨_, rfl⟩
  have hV : convP u (ordC u) x = { u with regs := rg', blocks := u.blocks.set x N } := by
    rw [← hrg', ← hN]
    simp only [convP, hS]
  rw [hrg']
  have how10 : Own H5 H10 v10 7 (N.ops.map opC) := by
    rw [← hN]
    simpa [List.append_assoc] using how10
  have hle10 := how10.le
  obtain ⟨sa', ca'⟩ := Own.oneCell how10
  simp only [CV.stor, CV.cells] at sa' ca'
  have mr510 := hle10 _ _ mr54
  have m510 := hle10 _ _ m54
  have m410 := hle10 _ _ m44
  have hB10 := hB3.trans hle10
  refine CW.walk hX mixed d44 rfl ?_
  simp [mr510, m510, sa', ca', h5r, Ne.symm h5r]
  refine ⟨by omega, ?_⟩
  rw [row_put hrx]
  have hown1 := (how10.setBase (r := r5) (o := .cells (ds5.take (x * 6) ++ ([v10, ci (blkAt u x).en.kind, ci (blkAt u x).en.a, ci (blkAt u x).en.to, ci (blkAt u x).en.els, ci (blkAt u x).catch_] ++ ds5.drop (x * 6 + 6)))) (by rw [mr54]; simp)).setBase (r := q5) (o := .cells [n0, ci u.params, ci rg', ci u.code, ci u.spill, .ref r5 0 u.blocks.length c5]) (by rw [hset_ne h5r, m54]; simp)
  have hB11 := (hB10.put (o := .cells (ds5.take (x * 6) ++ ([v10, ci (blkAt u x).en.kind, ci (blkAt u x).en.a, ci (blkAt u x).en.to, ci (blkAt u x).en.els, ci (blkAt u x).catch_] ++ ds5.drop (x * 6 + 6)))) hBr5).put (o := .cells [n0, ci u.params, ci rg', ci u.code, ci u.spill, .ref r5 0 u.blocks.length c5]) hBq5
  have m4b : ((H5.set r5 (.cells (ds5.take (x * 6) ++ ([v10, ci (blkAt u x).en.kind, ci (blkAt u x).en.a, ci (blkAt u x).en.to, ci (blkAt u x).en.els, ci (blkAt u x).catch_] ++ ds5.drop (x * 6 + 6))))).set q5 (.cells [n0, ci u.params, ci rg', ci u.code, ci u.spill, .ref r5 0 u.blocks.length c5])) q4 = some (.cells zeroV) := by rw [hset_ne (Ne.symm h5q), hset_ne h4r]; exact m44
  have m5b : ((H5.set r5 (.cells (ds5.take (x * 6) ++ ([v10, ci (blkAt u x).en.kind, ci (blkAt u x).en.a, ci (blkAt u x).en.to, ci (blkAt u x).en.els, ci (blkAt u x).catch_] ++ ds5.drop (x * 6 + 6))))).set q5 (.cells [n0, ci u.params, ci rg', ci u.code, ci u.spill, .ref r5 0 u.blocks.length c5])) q5 = some (.cells [n0, ci u.params, ci rg', ci u.code, ci u.spill, .ref r5 0 u.blocks.length c5]) := set_at
  have mrb : ((H5.set r5 (.cells (ds5.take (x * 6) ++ ([v10, ci (blkAt u x).en.kind, ci (blkAt u x).en.a, ci (blkAt u x).en.to, ci (blkAt u x).en.els, ci (blkAt u x).catch_] ++ ds5.drop (x * 6 + 6))))).set q5 (.cells [n0, ci u.params, ci rg', ci u.code, ci u.spill, .ref r5 0 u.blocks.length c5])) r5 = some (.cells (ds5.take (x * 6) ++ ([v10, ci (blkAt u x).en.kind, ci (blkAt u x).en.a, ci (blkAt u x).en.to, ci (blkAt u x).en.els, ci (blkAt u x).catch_] ++ ds5.drop (x * 6 + 6)))) := by rw [hset_ne (Ne.symm h5r)]; exact set_at
  generalize (H5.set r5 _).set q5 _ = HS at hown1 m4b m5b mrb
  generalize (H10.set r5 _).set q5 _ = H11 at hown1 hB11 ⊢
  have hleS := hown1.le
  have mr11 := hleS _ _ mrb
  simp only [List.cons_append, List.nil_append] at mr11
  refine CW.walk hX mixed d44 rfl ?_
  simp [mr11, cfill]
  have hA : (ds5.take (x * 6)).length = x * 6 := by rw [List.length_take]; omega
  have hp4 := row_put4 (C := ds5.drop (x * 6 + 6)) hA (v := v10) (a := ci (blkAt u x).en.kind) (b := ci (blkAt u x).en.a) (c := ci (blkAt u x).en.to) (d := ci (blkAt u x).en.els) (e := ci (blkAt u x).catch_) (p := ci 1) (q := ci 0) (r := ci S.meet) (s := ci 0)
  simp only [List.cons_append, List.nil_append] at hp4
  refine ⟨by omega, ?_⟩
  rw [hp4]
  have hown2 := hown1.setBase (r := r5) (o := .cells (ds5.take (x * 6) ++ v10 :: ci 1 :: ci 0 :: ci S.meet :: ci 0 :: ci (blkAt u x).catch_ :: ds5.drop (x * 6 + 6))) (by rw [mrb]; simp)
  have hB12 := hB11.put (o := .cells (ds5.take (x * 6) ++ v10 :: ci 1 :: ci 0 :: ci S.meet :: ci 0 :: ci (blkAt u x).catch_ :: ds5.drop (x * 6 + 6))) hBr5
  have m5c : (HS.set r5 (.cells (ds5.take (x * 6) ++ v10 :: ci 1 :: ci 0 :: ci S.meet :: ci 0 :: ci (blkAt u x).catch_ :: ds5.drop (x * 6 + 6)))) q5 = some (.cells [n0, ci u.params, ci rg', ci u.code, ci u.spill, .ref r5 0 u.blocks.length c5]) := by rw [hset_ne h5r]; exact m5b
  have m4c : (HS.set r5 (.cells (ds5.take (x * 6) ++ v10 :: ci 1 :: ci 0 :: ci S.meet :: ci 0 :: ci (blkAt u x).catch_ :: ds5.drop (x * 6 + 6)))) q4 = some (.cells zeroV) := by rw [hset_ne h4r]; exact m4b
  have mrc : (HS.set r5 (.cells (ds5.take (x * 6) ++ v10 :: ci 1 :: ci 0 :: ci S.meet :: ci 0 :: ci (blkAt u x).catch_ :: ds5.drop (x * 6 + 6)))) r5 = some (.cells (ds5.take (x * 6) ++ v10 :: ci 1 :: ci 0 :: ci S.meet :: ci 0 :: ci (blkAt u x).catch_ :: ds5.drop (x * 6 + 6))) := set_at
  generalize HS.set r5 _ = HT at hown2 m5c m4c mrc
  generalize H11.set r5 _ = H12 at hown2 hB12 ⊢
  clear hown1 hB11 hp4 how10 hle10 mr510 m510 m410 hB10 mr11 hleS
  have hleT := hown2.le
  have m512 := hleT _ _ m5c
  have m412 := hleT _ _ m4c
  have mr12 := hleT _ _ mrc
  refine CW.walk1 hX mixed d44 rfl ?_
  simp [m512, m412]
  have hBF : ∀ o, Le B (H12.set q4 o) := fun o => hB12.put hBq4
  refine ⟨(hle1.trans hB1).trans (hBF _), ?_⟩
  rw [hV]
  refine uv_of (u := { u with regs := rg', blocks := u.blocks.set x N }) (hn0.mono (hBF _)) (.inr ⟨r5, c5, _, by simp, by rw [hset_ne (Ne.symm h4r)]; exact mr12, fun j k hk => ?_⟩) (fun r n c e => by injection e with _ _ e1 e2; omega)
  simp only at hk
  by_cases hj : j = x
  · subst hj
    rw [List.getElem?_set, if_pos rfl, if_pos hx] at hk
    injection hk with hk
    subst hk
    refine ⟨v10, ?_, (hown2.setBase (r := q4) (by rw [m4c]; simp)).bare⟩
    have := row6_same (row := [v10, ci 1, ci 0, ci S.meet, ci 0, ci (blkAt u j).catch_]) hdx rfl
    simp only [List.cons_append, List.nil_append] at this
    rw [this, ← hN]
    rfl
  · rw [List.getElem?_set, if_neg (Ne.symm hj)] at hk
    obtain ⟨x1, a, b⟩ := hrow5 j k hk
    refine ⟨x1, ?_, b.mono (hBF _)⟩
    have := row6_other (row := [v10, ci 1, ci 0, ci S.meet, ci 0, ci (blkAt u x).catch_]) hdx rfl hj
    simp only [List.cons_append, List.nil_append] at this
    rw [this]
    exact a
end Go.Cl.Gu
set_option linter.unusedSimpArgs false
set_option linter.unusedVariables false
namespace Go.Cl.Gu
open Go.Proofs Go.Cl.Gd
variable {W : World} {G : Nat → CV}
set_option maxRecDepth 8000
set_option maxHeartbeats 1000000
theorem lawSame_c (hX : CxOk (cx W G)) {a : UUnit} (e : Int) (ha : e = 0 → CutOk a) (h0 : e ≠ 0 → a = zeroU) {H : Hp} {cs cs' : List CV} (hv : UV H cs a) (hv' : UV H cs' a) :
    CC Tryz.prog W 21 [.agg cs, .agg cs', ci e, ci e] H fun x H' => x = .ret (.bool true) ∧ H' = H := by
  obtain ⟨v0, v5, rfl, hb⟩ := hv.b
  obtain ⟨w0, w5, rfl, hb'⟩ := hv'.b
  have hw0 := hv.w
  simp only [List.getD_cons_zero] at hw0
  refine CC.shrink ?_
  refine CC.of_cw hX Tryz.func21 rfl rfl (Nat.le_of_ble_eq_true rfl) ?_
  refine CW.walk hX mixed d21 rfl ?_
  simp
  intro q4 hq4 q5 h54 h45 hq5
  have hq5' : (H.set q4 (.cells [v0, ci a.params, ci a.regs, ci a.code, ci a.spill, v5])) q5 = none := by rw [hset_none_iff]; exact ⟨h54, hq5⟩
  have hle : Le H ((H.set q4 (.cells [v0, ci a.params, ci a.regs, ci a.code, ci a.spill, v5])).set q5 (.cells [w0, ci a.params, ci a.regs, ci a.code, ci a.spill, w5])) := (Le.set_new hq4).trans (Le.set_new hq5')
  have m4 : ((H.set q4 (.cells [v0, ci a.params, ci a.regs, ci a.code, ci a.spill, v5])).set q5 (.cells [w0, ci a.params, ci a.regs, ci a.code, ci a.spill, w5])) q4 = some (.cells [v0, ci a.params, ci a.regs, ci a.code, ci a.spill, v5]) := Le.set_new hq5' _ _ set_at
  have m5 : ((H.set q4 (.cells [v0, ci a.params, ci a.regs, ci a.code, ci a.spill, v5])).set q5 (.cells [w0, ci a.params, ci a.regs, ci a.code, ci a.spill, w5])) q5 = some (.cells [w0, ci a.params, ci a.regs, ci a.code, ci a.spill, w5]) := set_at
  generalize (H.set q4 _).set q5 _ = H1 at hle m4 m5 ⊢
  by_cases he : e = 0
  · refine CW.walk1 hX mixed d21 rfl ?_
    simp [he, m4, m5]
    refine (same_f hX (ha he) (hv.mono hle).f (hv'.mono hle).f).k ?_
    rintro x H2 ⟨rfl, rfl⟩
    simp
    exact hle
  · obtain rfl := h0 he
    have hz0 : v0 = .nilsl ∨ ∃ r c, v0 = .ref r 0 0 c := by
      obtain ⟨_, _, ⟨h, _⟩ | ⟨r, c, ex, h, _⟩⟩ := hw0
      · exact .inl h
      · exact .inr ⟨r, c, by simpa [zeroU, ints] using h⟩
    have hz5 : v5 = .nilsl ∨ ∃ r c, v5 = .ref r 0 0 c := by
      rcases hb with ⟨h, _⟩ | ⟨r, c, ex, h, _⟩
      · exact .inl h
      · exact .inr ⟨r, c, by simpa [zeroU] using h⟩
    simp only [zeroU] at m4 m5
    rcases hz0 with rfl | ⟨r, c, rfl⟩ <;> rcases hz5 with rfl | ⟨r', c', rfl⟩
    all_goals
      refine CW.walk1 hX mixed d21 rfl ?_
      simp [he, m4, m5]
      exact ⟨hle, by rw [wrapI (n := 0) (by omega) (by omega)]; simp [wrapI]⟩
theorem refSize_f (hX : CxOk (cx W G)) {u : UUnit} (hu : wfU u = true) {x : Nat} (hx : x < u.blocks.length) {H : Hp} {cs : List CV} (hf : Fz H (.agg cs) (.agg (unitC u))) :
    CC Tryz.prog W 18 [.agg cs, .int .i64 x] H fun r H' => r = .ret (.tuple [ci (if (shapeP u (ordC u) x).kind = 0 then 0 else (sizeP u (ordC u) x : Int)), .bool (decide ((shapeP u (ordC u) x).kind ≠ 0))]) ∧ H' = H := by
  obtain ⟨p, c, hp⟩ := pleast_ex (opsOf u)
  refine (CC.freeze (args' := [.agg (unitC u), .int .i64 x]) (R := fun v => v = .tuple [ci (if (shapeP u (ordC u) x).kind = 0 then 0 else (sizeP u (ordC u) x : Int)), .bool (decide ((shapeP u (ordC u) x).kind ≠ 0))]) (by rfl) (fz2' hf _) (by rintro v rfl; simp [plainV]) fun w hw => ?_).mono ?_
  · have h := refSize_c (W := w) (CxOk.later hX hw) u hu hp x hx (fun _ => none)
    rw [ordC_eq hp] at h
    exact h.mono fun r H' ⟨h1, _⟩ => ⟨_, h1, rfl⟩
  · rintro r H' ⟨v, rfl, rfl, rfl⟩
    exact ⟨rfl, rfl⟩
end Go.Cl.Gu
set_option linter.unusedSimpArgs false
set_option linter.unusedVariables false
namespace Go.Cl.Gu
open Go.Proofs Go.Cl.Gd
variable {W : World} {G : Nat → CV}
set_option maxRecDepth 8000
set_option maxHeartbeats 1000000
noncomputable def rcE (u : UUnit) (x : Nat) : Int := if (shapeP u (ordC u) x).kind = 0 then 5 else if errU (convP u (ordC u) x) ≠ 0 then 11 else 0
noncomputable def rcU (u : UUnit) (x : Nat) : UUnit := if rcE u x = 0 then convP u (ordC u) x else zeroU
theorem conv_uok {u : UUnit} (hw : wfU u = true) {ord : List Nat} {x : Nat} (hx : x < u.blocks.length) : UOk (convP u ord x) := by
  obtain ⟨f1, f2, f3, f4, f5, f6, f7, f8, f9, f10, f11⟩ := wfU_facts hw
  have hsz : u.sizes.length ≤ 16 := by
    simp only [wfU, wfHead, Bool.and_eq_true, decide_eq_true_eq] at hw
    omega
  have hbl : ∀ b, (blkAt u b).ops.length ≤ 400 := fun b => by
    by_cases hb : b < u.blocks.length
    · exact (wfB_facts hw (blkAt_get hb)).2.1
    · simp [blkAt, List.getD_eq_getElem?_getD, List.getElem?_eq_none (Nat.le_of_not_lt hb)]
  have hsl : ∀ t : Int, (sideOps u t).length ≤ 400 := fun t => by
    rw [sideOps]
    split
    · simp
    · exact hbl _
  refine ⟨by simp [convP]; omega, by simp [convP]; omega, fun b hb => ?_, fun b _ o _ => by simp only [Kd]; omega⟩
  simp only [convP] at hb
  rcases List.mem_or_eq_of_mem_set hb with h | rfl
  · obtain ⟨j, hj⟩ := List.getElem?_of_mem h
    have := (wfB_facts hw hj).2.1
    omega
  · have h1 := sideP_regs (g := u.regs) (z := u.regs + 1) (l := sideOps u (shapeP u ord x).to) (r := u.regs + 3)
    have h2 := sideP_regs (g := u.regs + 2) (z := u.regs + 1) (l := sideOps u (shapeP u ord x).or_) (r := (sideP u.regs (u.regs + 1) (sideOps u (shapeP u ord x).to) (u.regs + 3)).2)
    have h3 := hbl x
    have h4 := hsl (shapeP u ord x).to
    have h5 := hsl (shapeP u ord x).or_
    simp only [List.length_append, fourOps, List.length_cons, List.length_nil]
    omega
theorem refConvert_c (hX : CxOk (cx W G)) (u : UUnit) (hw : wfU u = true) (hbl : u.blocks.length ≤ 1000) (x : Nat) (hx : x < u.blocks.length) (H : Hp) :
    CC Tryz.prog W 20 [.agg (unitC u), .int .i64 x] H (RU H (rcE u x) (rcU u x)) := by
  have hsz := fun H => refSize_f hX hw hx (H := H) (.same (.agg (unitC u)))
  refine CC.of_cw hX Tryz.func20 rfl rfl (Nat.le_of_ble_eq_true rfl) ?_
  refine CW.walk hX mixed d20 rfl ?_
  simp
  intro q2 hq2 q4 h42 h24 hq4
  have hle1 : Le H (H.set q2 (.cells (unitC u))) := Le.set_new hq2
  have m21 : (H.set q2 (.cells (unitC u))) q2 = some (.cells (unitC u)) := set_at
  have hK1 : (H.set q2 (.cells (unitC u))) q4 = none := by rw [hset_none_iff]; exact ⟨h42, hq4⟩
  generalize H.set q2 _ = K1 at hle1 m21 hK1 ⊢
  have m22 : (K1.set q4 (.cells zeroV)) q2 = some (.cells (unitC u)) := Le.set_new hK1 _ _ m21
  have hfm : (shapeP u (ordC u) x).kind ≠ 0 → _ := fun hk => (refForm_c hX u hw hbl x hx hk K1).frame (ob := .cells zeroV) hK1
  simp only [unitC] at m22 m21 hfm hsz
  refine CW.walk hX mixed d20 rfl ?_
  simp [m22]
  refine (hsz _).k ?_
  rintro r H2 ⟨rfl, rfl⟩
  simp [cfill]
  refine ⟨fun hk => ?_, fun hk => ?_⟩
  · have e5 : rcE u x = 5 := by simp [rcE, hk]
    exact ⟨zeroV, by rw [e5], hle1.trans (Le.set_new hK1), by rw [rcU, if_neg (by rw [e5]; decide)]; exact uv_zero⟩
  refine CW.walk hX mixed d20 rfl ?_
  simp [m22]
  refine (hfm hk).k ?_
  rintro r _ ⟨K4, hK4, rfl, cs4, rfl, hle4, huv⟩
  have hl6 := huv.l
  obtain ⟨c0, c5, rfl, hcb⟩ := huv.b
  simp
  intro q8 b1 b2 hq8
  have hne : q8 ≠ q4 := by first | exact b1 | exact b2
  rw [set_comm (Ne.symm hne)]
  generalize hcs : [c0, ci (convP u (ordC u) x).params, ci (convP u (ordC u) x).regs, ci (convP u (ordC u) x).code, ci (convP u (ordC u) x).spill, c5] = cs4 at huv hl6 ⊢
  have hK5 : (K4.set q8 (.cells cs4)) q4 = none := by rw [hset_ne (Ne.symm hne)]; exact hK4
  have hle5 : Le K4 (K4.set q8 (.cells cs4)) := Le.set_new hq8
  have m8 : ∀ o, ((K4.set q8 (.cells cs4)).set q4 o) q8 = some (.cells cs4) := fun o => Le.set_new hK5 _ _ set_at
  generalize K4.set q8 _ = K5 at hK5 hle5 m8 ⊢
  have hle : ∀ o, Le K4 (K5.set q4 o) := fun o => hle5.trans (Le.set_new hK5)
  refine CW.walk hX mixed d20 rfl ?_
  simp [m8, hl6]
  rw [List.take_of_length_le (by omega)]
  refine (check24_f hX (conv_uok hw hx) (huv.mono (hle _)).f).k ?_
  rintro r H6 ⟨rfl, rfl⟩
  by_cases hc : errU (convP u (ordC u) x) = 0
  rotate_left
  · simp [hc, cfill]
    have e11 : rcE u x = 11 := by simp [rcE, hk, hc]
    exact ⟨zeroV, by rw [e11], (hle1.trans hle4).trans (hle _), by rw [rcU, if_neg (by rw [e11]; decide)]; exact uv_zero⟩
  simp [hc]
  refine CW.walk1 hX mixed d20 rfl ?_
  simp [hl6, m8]
  have e0 : rcE u x = 0 := by simp [rcE, hk, hc]
  exact ⟨cs4, by rw [e0]; simp [List.take_of_length_le, hl6], (hle1.trans hle4).trans (hle _), by rw [rcU, if_pos e0]; exact huv.mono (hle _)⟩
theorem freeT {cs : List CV} {e : Int} (h : Free (.agg cs)) : Free (.tuple [.agg cs, ci e]) := by
  refine .tuple _ fun i x hx => ?_
  rcases i with _ | _ | i <;> simp at hx
  · subst hx; exact h
  · subst hx; constructor
/-- From frozen arguments to units in blocks. -/
theorem ru_freeze (hX : CxOk (cx W G)) {f : FuncId} {u v : UUnit} {x : Nat} {e : Int} {H : Hp} {cs : List CV} (hf : Fz H (.agg cs) (.agg (unitC u))) (h : ∀ w, CxOk (cx w G) → ∀ H, CC Tryz.prog w f [.agg (unitC u), .int .i64 x] H (RU H e v)) :
    CC Tryz.prog W f [.agg cs, .int .i64 x] H (RU H e v) := by
  refine (CC.freeze3 (args' := [.agg (unitC u), .int .i64 x]) (R := fun r H' => ∃ cs, r = .ret (.tuple [.agg cs, ci e]) ∧ UV H' cs v) (by rfl) (fz2' hf _) (by rintro x H' ⟨cs', rfl, h⟩; exact freeT h.wk.2) fun w hw => ?_).mono ?_
  · exact (h w (CxOk.later hX hw) _).mono fun x H' ⟨cs', h1, h2, h3⟩ => ⟨cs', h1, h3⟩
  · rintro x H2 ⟨H', ⟨cs', rfl, h6⟩, h7, h8, h9⟩
    exact ⟨cs', rfl, h7, h6.wk.1.mono h8⟩
theorem refConvert_f (hX : CxOk (cx W G)) {u : UUnit} (hw : wfU u = true) (hbl : u.blocks.length ≤ 1000) {x : Nat} (hx : x < u.blocks.length) {H : Hp} {cs : List CV} (hf : Fz H (.agg cs) (.agg (unitC u))) :
    CC Tryz.prog W 20 [.agg cs, .int .i64 x] H (RU H (rcE u x) (rcU u x)) :=
  ru_freeze hX hf fun w hw' H => refConvert_c hw' u hw hbl x hx H
end Go.Cl.Gu
set_option linter.unusedSimpArgs false
set_option linter.unusedVariables false
namespace Go.Cl.Gu
open Go.Proofs Go.Cl.Gd
variable {W : World} {G : Nat → CV}
set_option maxRecDepth 8000
set_option maxHeartbeats 1000000
theorem join_uok {u : UUnit} (hw : wfU u = true) {x : Nat} : UOk (joinP u x) := by
  obtain ⟨f1, f2, f3, f4, f5, f6, f7, f8, f9, f10, f11⟩ := wfU_facts hw
  have hsz : u.sizes.length ≤ 16 := by
    simp only [wfU, wfHead, Bool.and_eq_true, decide_eq_true_eq] at hw
    omega
  have hbl : ∀ b, (blkAt u b).ops.length ≤ 400 := fun b => by
    by_cases hb : b < u.blocks.length
    · exact (wfB_facts hw (blkAt_get hb)).2.1
    · simp [blkAt, List.getD_eq_getElem?_getD, List.getElem?_eq_none (Nat.le_of_not_lt hb)]
  refine ⟨by simp [joinP]; omega, by simp [joinP]; omega, fun b hb => ?_, fun b _ o _ => by simp only [Kd]; omega⟩
  simp only [joinP] at hb
  rcases List.mem_or_eq_of_mem_set hb with h | rfl
  · obtain ⟨j, hj⟩ := List.getElem?_of_mem h
    have := (wfB_facts hw hj).2.1
    omega
  · have h3 := hbl x
    have h4 := hbl (blkAt u x).en.to.toNat
    simp only [List.length_append]
    omega
/-- A unit, or none. -/
def JU (H : Hp) (b : Bool) (v : UUnit) (x : CE) (H' : Hp) : Prop := ∃ cs, x = .ret (.tuple [.agg cs, .bool b]) ∧ Le H H' ∧ UV H' cs v
theorem joined_c (hX : CxOk (cx W G)) (u : UUnit) (hw : wfU u = true) (hbl : u.blocks.length ≤ 1000) (x : Nat) (hx : x < u.blocks.length) (H : Hp) :
    CC Tryz.prog W 52 [.agg (unitC u), .int .i64 x] H (JU H (follB u (ordC u) x) (if follB u (ordC u) x = true then joinP u x else zeroU)) := by
  obtain ⟨p, c, hp⟩ := pleast_ex (opsOf u)
  obtain ⟨f1, f2, f3, f4, f5, f6, f7, f8, f9, f10, f11⟩ := wfU_facts hw
  have hkx := blkAt_get hx
  have e4 : ∀ h, u.blocks[x]'h = blkAt u x := fun h => by
    rw [List.getElem?_eq_getElem h] at hkx; injection hkx
  obtain ⟨g1, g2, g3, g4⟩ := wfB_facts hw hkx
  obtain ⟨w1, w2, w3, w4, w5⟩ := wfE_facts g4
  have hsz : u.sizes.length ≤ 16 := by
    simp only [wfU, wfHead, Bool.and_eq_true, decide_eq_true_eq] at hw
    omega
  have hcut := cutOk_of hw hbl (by omega)
  refine CC.of_cw hX Tryz.func52 rfl rfl (Nat.le_of_ble_eq_true rfl) ?_
  refine CW.walk hX mixed d52 rfl ?_
  simp
  intro q2 hq2 q4 h42 h24 hq4
  have hle1 : Le H (H.set q2 (.cells (unitC u))) := Le.set_new hq2
  have m21 : (H.set q2 (.cells (unitC u))) q2 = some (.cells (unitC u)) := set_at
  have hK1 : (H.set q2 (.cells (unitC u))) q4 = none := by rw [hset_none_iff]; exact ⟨h42, hq4⟩
  generalize H.set q2 _ = K1 at hle1 m21 hK1 ⊢
  have m22 : (K1.set q4 (.cells zeroV)) q2 = some (.cells (unitC u)) := Le.set_new hK1 _ _ m21
  simp only [unitC] at m22 m21
  refine CW.walk hX mixed d52 rfl ?_
  simp [m22, hx, e4, blkC]
  intro q6 b1 b2 hq6
  have h64 : q6 ≠ q4 := by first | exact b1 | exact b2
  rw [set_comm (Ne.symm h64)]
  have hle2 : Le K1 (K1.set q6 (.cells [ci (blkAt u x).en.kind, ci (blkAt u x).en.a, ci (blkAt u x).en.to, ci (blkAt u x).en.els])) := Le.set_new hq6
  have hK2 : (K1.set q6 (.cells [ci (blkAt u x).en.kind, ci (blkAt u x).en.a, ci (blkAt u x).en.to, ci (blkAt u x).en.els])) q4 = none := by rw [hset_ne (Ne.symm h64)]; exact hK1
  have m62 : (K1.set q6 (.cells [ci (blkAt u x).en.kind, ci (blkAt u x).en.a, ci (blkAt u x).en.to, ci (blkAt u x).en.els])) q6 = some (.cells [ci (blkAt u x).en.kind, ci (blkAt u x).en.a, ci (blkAt u x).en.to, ci (blkAt u x).en.els]) := set_at
  generalize K1.set q6 _ = K2 at hle2 hK2 m62 ⊢
  have m23 := hle2 _ _ m21
  have hl : ∀ o, Le K2 (K2.set q4 o) := fun o => Le.set_new hK2
  have hF : follB u (ordC u) x = (decide ((blkAt u x).en.kind = 1) && aloneB u (ordC u) (blkAt u x).en.to.toNat x) := rfl
  by_cases hk1 : (blkAt u x).en.kind = 1
  rotate_left
  · have e : follB u (ordC u) x = false := by simp [hF, hk1]
    refine CW.walk hX mixed d52 rfl ?_
    simp [hl _ _ _ m62, hk1, cfill]
    rw [e]
    exact ⟨zeroV, rfl, (hle1.trans hle2).trans (hl _), uv_zero⟩
  obtain ⟨ht0, htl⟩ := w4 (.inl hk1)
  obtain ⟨t, ht⟩ := Int.eq_ofNat_of_zero_le ht0
  have htn : t < u.blocks.length := by omega
  have hra := refAlone_e (W := W) hX u hw hp t x htn hx (by simp [goesL, hk1, ht])
  rw [ordC_eq hp] at hra
  have hkt := blkAt_get htn
  have hcp := (copy_cN hX u hcut K2).frame (ob := .cells zeroV) hK2
  simp only [unitC] at hra hcp
  refine CW.walk hX mixed d52 rfl ?_
  simp [hl _ _ _ m62, hl _ _ _ m23, hk1, ht, cfill]
  refine (hra _).k ?_
  rintro r H4 ⟨rfl, rfl⟩
  simp [cfill]
  refine ⟨fun hal => ?_, fun hal => ?_⟩
  · have e : follB u (ordC u) x = false := by simp [hF, hk1, ht, hal]
    rw [e]
    exact ⟨zeroV, rfl, (hle1.trans hle2).trans (hl _), uv_zero⟩
  have e : follB u (ordC u) x = true := by simp [hF, hk1, ht, hal]
  rw [e, if_pos rfl]
  refine CW.walk hX mixed d52 rfl ?_
  simp [hl _ _ _ m23]
  refine hcp.k ?_
  rintro y _ ⟨K3, hK3, rfl, cs, rfl, hle3, huv3, hN⟩
  obtain ⟨B, n0, n5, rfl, hB1, hB2, hn0, hb⟩ := hN
  obtain ⟨r5, c5, ds5, rfl, hc5, hBr5, hr5, hrow5⟩ : ∃ r c ds, n5 = .ref r 0 u.blocks.length c ∧ u.blocks.length ≤ c ∧ B r = none ∧ K3 r = some (.cells ds) ∧ ∀ (j : Nat) k, u.blocks[j]? = some k → ∃ x0, (ds.drop (j * 6)).take 6 = x0 :: blkT k ∧ Own E0 B x0 7 (k.ops.map opC) := by
    rcases hb with ⟨_, h0⟩ | h
    · rw [h0] at f7; simp at f7
    · exact h
  obtain ⟨sa, ca⟩ := Own.oneCell hn0
  simp only [CV.stor, CV.cells] at sa ca
  simp [sa, ca]
  intro q7 b3 b4 hq7
  have h74 : q7 ≠ q4 := by first | exact b3 | exact b4
  have hq7' : (K3.set q4 (.cells zeroV)) q7 = none := by rw [hset_none_iff]; exact ⟨h74, hq7⟩
  have hl3 : Le K3 (K3.set q4 (.cells zeroV)) := Le.set_new hK3
  have hl7 : Le (K3.set q4 (.cells zeroV)) ((K3.set q4 (.cells zeroV)).set q7 (.cells [n0, ci u.params, ci u.regs, ci u.code, ci u.spill, .ref r5 0 u.blocks.length c5])) := Le.set_new hq7'
  have m7 : ((K3.set q4 (.cells zeroV)).set q7 (.cells [n0, ci u.params, ci u.regs, ci u.code, ci u.spill, .ref r5 0 u.blocks.length c5])) q7 = _ := set_at
  have m44 := hl7 q4 _ set_at
  have mr5 := hl7 _ _ (hl3 _ _ hr5)
  have m64 := hl7 _ _ (hl3 _ _ (hle3 _ _ m62))
  have hB4 := (hB2.trans hl3).trans hl7
  have hBq4 := hB2.none hK3
  have hBq7 := hB2.none hq7
  generalize (K3.set q4 (.cells zeroV)).set q7 _ = H5 at m7 m44 mr5 m64 hB4 ⊢
  obtain ⟨xx, hrx, hox⟩ := hrow5 x _ hkx
  obtain ⟨xt, hrt, hot⟩ := hrow5 t _ hkt
  have hcx := row_head hrx
  have hdx : x * 6 + 6 ≤ ds5.length := by
    have := congrArg List.length hrx
    simp [blkT] at this
    omega
  have hdt : t * 6 + 6 ≤ ds5.length := by
    have := congrArg List.length hrt
    simp [blkT] at this
    omega
  have h7r : q7 ≠ r5 := fun e => by rw [e, hr5] at hq7; cases hq7
  have h4r : q4 ≠ r5 := fun e => by rw [e, hr5] at hK3; cases hK3
  refine CW.walk hX mixed d52 rfl ?_
  simp [d52, m7, m64, mr5, hx, htn, ht]
  refine ⟨hdt, fun q9 hq9 => ⟨by omega, ?_⟩⟩
  rw [hrt]
  have hl9 : Le H5 (H5.set q9 (.cells (xt :: blkT (blkAt u t)))) := Le.set_new hq9
  have m9 : (H5.set q9 (.cells (xt :: blkT (blkAt u t)))) q9 = _ := set_at
  have h9r : q9 ≠ r5 := fun e => by rw [e, mr5] at hq9; cases hq9
  have m7 := hl9 _ _ m7
  have m44 := hl9 _ _ m44
  have mr5 := hl9 _ _ mr5
  have hB4 := hB4.trans hl9
  generalize H5.set q9 _ = H6 at m9 m7 m44 mr5 hB4 ⊢
  simp only [blkT] at m9
  refine CW.walk hX mixed d52 rfl ?_
  simp [d52, m9, mr5, hcx, cfill, -vcAppend]
  intro qb hqb
  have how : Own H6 (H6.set qb (.cells [])) (.ref qb 0 0 0) 7 [] := ⟨Le.set_new hqb, by simp, .inr ⟨qb, 0, [], rfl, hqb, by simp, by simp, by simp⟩⟩
  refine how.append2 (ys := (blkAt u x).ops.map opC) hox.len (by simp; omega) ((hox.mono hB4).mono (Le.set_new hqb)).src fun v1 H7 how7 _ => ?_
  simp only [List.nil_append] at how7
  have hl7' := how7.le
  have m9b : (H6.set qb (.cells [])) q9 = _ := Le.set_new hqb _ _ m9
  refine ⟨⟨by simp [stabI, Stab, IsV, m9b, hl7' _ _ m9], trivial⟩, ?_⟩
  simp [d52, -vcAppend]
  refine how7.append2 (ys := (blkAt u t).ops.map opC) hot.len (by simp; have := (wfB_facts hw hkt).2.1; omega) ((hot.mono hB4).mono hl7').src fun v2 H8 how8 _ => ?_
  have hl8' := how8.le
  obtain ⟨sa', ca'⟩ := Own.oneCell how8
  simp only [CV.stor, CV.cells] at sa' ca'
  have m7 := hl8' _ _ m7
  have m9 := hl8' _ _ m9
  have mr58 := hl8' _ _ mr5
  have m48 := hl8' _ _ m44
  have hB8 := hB4.trans hl8'
  simp [d52, mr58, sa', ca', -vcAppend]
  refine ⟨by omega, ?_⟩
  rw [row_put hrx]
  obtain ⟨N, hN⟩ : ∃ N : UBlk, (⟨(blkAt u x).ops ++ (blkAt u t).ops, (blkAt u t).en, (blkAt u x).catch_⟩ : UBlk) = N := ⟨_, rfl⟩
  have hV : joinP u x = { u with blocks := u.blocks.set x N } := by
    rw [← hN]
    simp only [joinP, ht]
    rfl
  have how8 : Own H6 H8 v2 7 (N.ops.map opC) := by
    rw [← hN]
    simpa using how8
  have hown1 := how8.setBase (r := r5) (o := .cells (ds5.take (x * 6) ++ ([v2, ci (blkAt u x).en.kind, ci (blkAt u x).en.a, ci (blkAt u x).en.to, ci (blkAt u x).en.els, ci (blkAt u x).catch_] ++ ds5.drop (x * 6 + 6)))) (by rw [mr5]; simp)
  have hB11 := hB8.put (o := .cells (ds5.take (x * 6) ++ ([v2, ci (blkAt u x).en.kind, ci (blkAt u x).en.a, ci (blkAt u x).en.to, ci (blkAt u x).en.els, ci (blkAt u x).catch_] ++ ds5.drop (x * 6 + 6)))) hBr5
  have m4b : (H6.set r5 (.cells (ds5.take (x * 6) ++ ([v2, ci (blkAt u x).en.kind, ci (blkAt u x).en.a, ci (blkAt u x).en.to, ci (blkAt u x).en.els, ci (blkAt u x).catch_] ++ ds5.drop (x * 6 + 6))))) q4 = some (.cells zeroV) := by rw [hset_ne h4r]; exact m44
  have m711 : (H8.set r5 (.cells (ds5.take (x * 6) ++ ([v2, ci (blkAt u x).en.kind, ci (blkAt u x).en.a, ci (blkAt u x).en.to, ci (blkAt u x).en.els, ci (blkAt u x).catch_] ++ ds5.drop (x * 6 + 6))))) q7 = some (.cells [n0, ci u.params, ci u.regs, ci u.code, ci u.spill, .ref r5 0 u.blocks.length c5]) := by rw [hset_ne h7r]; exact m7
  have m911 : (H8.set r5 (.cells (ds5.take (x * 6) ++ ([v2, ci (blkAt u x).en.kind, ci (blkAt u x).en.a, ci (blkAt u x).en.to, ci (blkAt u x).en.els, ci (blkAt u x).catch_] ++ ds5.drop (x * 6 + 6))))) q9 = some (.cells [xt, ci (blkAt u t).en.kind, ci (blkAt u t).en.a, ci (blkAt u t).en.to, ci (blkAt u t).en.els, ci (blkAt u t).catch_]) := by rw [hset_ne h9r]; exact m9
  have mrb : (H6.set r5 (.cells (ds5.take (x * 6) ++ ([v2, ci (blkAt u x).en.kind, ci (blkAt u x).en.a, ci (blkAt u x).en.to, ci (blkAt u x).en.els, ci (blkAt u x).catch_] ++ ds5.drop (x * 6 + 6))))) r5 = some (.cells (ds5.take (x * 6) ++ ([v2, ci (blkAt u x).en.kind, ci (blkAt u x).en.a, ci (blkAt u x).en.to, ci (blkAt u x).en.els, ci (blkAt u x).catch_] ++ ds5.drop (x * 6 + 6)))) := set_at
  generalize H6.set r5 _ = HS at hown1 m4b mrb
  generalize H8.set r5 _ = H11 at hown1 hB11 m711 m911 ⊢
  have hleS := hown1.le
  have mr11 := hleS _ _ mrb
  simp only [List.cons_append, List.nil_append] at mr11
  refine CW.walk hX mixed d52 rfl ?_
  simp [mr11, m911, cfill]
  have hA : (ds5.take (x * 6)).length = x * 6 := by rw [List.length_take]; omega
  have hp4 := row_put4 (C := ds5.drop (x * 6 + 6)) hA (v := v2) (a := ci (blkAt u x).en.kind) (b := ci (blkAt u x).en.a) (c := ci (blkAt u x).en.to) (d := ci (blkAt u x).en.els) (e := ci (blkAt u x).catch_) (p := ci (blkAt u t).en.kind) (q := ci (blkAt u t).en.a) (r := ci (blkAt u t).en.to) (s := ci (blkAt u t).en.els)
  simp only [List.cons_append, List.nil_append] at hp4
  refine ⟨by omega, ?_⟩
  rw [hp4]
  have hown2 := hown1.setBase (r := r5) (o := .cells (ds5.take (x * 6) ++ v2 :: ci (blkAt u t).en.kind :: ci (blkAt u t).en.a :: ci (blkAt u t).en.to :: ci (blkAt u t).en.els :: ci (blkAt u x).catch_ :: ds5.drop (x * 6 + 6))) (by rw [mrb]; simp)
  have hB12 := hB11.put (o := .cells (ds5.take (x * 6) ++ v2 :: ci (blkAt u t).en.kind :: ci (blkAt u t).en.a :: ci (blkAt u t).en.to :: ci (blkAt u t).en.els :: ci (blkAt u x).catch_ :: ds5.drop (x * 6 + 6))) hBr5
  have m712 : (H11.set r5 (.cells (ds5.take (x * 6) ++ v2 :: ci (blkAt u t).en.kind :: ci (blkAt u t).en.a :: ci (blkAt u t).en.to :: ci (blkAt u t).en.els :: ci (blkAt u x).catch_ :: ds5.drop (x * 6 + 6)))) q7 = some (.cells [n0, ci u.params, ci u.regs, ci u.code, ci u.spill, .ref r5 0 u.blocks.length c5]) := by rw [hset_ne h7r]; exact m711
  have m4c : (HS.set r5 (.cells (ds5.take (x * 6) ++ v2 :: ci (blkAt u t).en.kind :: ci (blkAt u t).en.a :: ci (blkAt u t).en.to :: ci (blkAt u t).en.els :: ci (blkAt u x).catch_ :: ds5.drop (x * 6 + 6)))) q4 = some (.cells zeroV) := by rw [hset_ne h4r]; exact m4b
  have mrc : (HS.set r5 (.cells (ds5.take (x * 6) ++ v2 :: ci (blkAt u t).en.kind :: ci (blkAt u t).en.a :: ci (blkAt u t).en.to :: ci (blkAt u t).en.els :: ci (blkAt u x).catch_ :: ds5.drop (x * 6 + 6)))) r5 = some (.cells (ds5.take (x * 6) ++ v2 :: ci (blkAt u t).en.kind :: ci (blkAt u t).en.a :: ci (blkAt u t).en.to :: ci (blkAt u t).en.els :: ci (blkAt u x).catch_ :: ds5.drop (x * 6 + 6))) := set_at
  generalize HS.set r5 _ = HT at hown2 m4c mrc
  generalize H11.set r5 _ = H12 at hown2 hB12 m712 ⊢
  have hleT := hown2.le
  have m412 := hleT _ _ m4c
  have mr12 := hleT _ _ mrc
  refine CW.walk1 hX mixed d52 rfl ?_
  simp [m712, m412]
  have hBF : ∀ o, Le B (H12.set q4 o) := fun o => hB12.put hBq4
  refine ⟨_, rfl, ((hle1.trans hle2).trans hB1).trans (hBF _), ?_⟩
  rw [hV]
  refine uv_of (u := { u with blocks := u.blocks.set x N }) (hn0.mono (hBF _)) (.inr ⟨r5, c5, _, by simp, by rw [hset_ne (Ne.symm h4r)]; exact mr12, fun j k hk => ?_⟩) (fun r n c e => by injection e with _ _ e1 e2; omega)
  simp only at hk
  by_cases hj : j = x
  · subst hj
    rw [List.getElem?_set, if_pos rfl, if_pos hx] at hk
    injection hk with hk
    subst hk
    refine ⟨v2, ?_, (hown2.setBase (r := q4) (by rw [m4c]; simp)).bare⟩
    have := row6_same (row := [v2, ci (blkAt u t).en.kind, ci (blkAt u t).en.a, ci (blkAt u t).en.to, ci (blkAt u t).en.els, ci (blkAt u j).catch_]) hdx rfl
    simp only [List.cons_append, List.nil_append] at this
    rw [this, ← hN]
    rfl
  · rw [List.getElem?_set, if_neg (Ne.symm hj)] at hk
    obtain ⟨x1, a, b⟩ := hrow5 j k hk
    refine ⟨x1, ?_, b.mono (hBF _)⟩
    have := row6_other (row := [v2, ci (blkAt u t).en.kind, ci (blkAt u t).en.a, ci (blkAt u t).en.to, ci (blkAt u t).en.els, ci (blkAt u x).catch_]) hdx rfl hj
    simp only [List.cons_append, List.nil_append] at this
    rw [this]
    exact a
end Go.Cl.Gu
set_option linter.unusedSimpArgs false
set_option linter.unusedVariables false
namespace Go.Cl.Gu
open Go.Proofs Go.Cl.Gd
variable {W : World} {G : Nat → CV}
set_option maxRecDepth 8000
set_option maxHeartbeats 1000000
/-- What the reference's loops answer. -/
def RA (f : UUnit → Nat → Option UUnit) (u : UUnit) (H : Hp) (x : CE) (H' : Hp) : Prop := ∃ cs' v nn, x = .ret (.tuple [.agg cs', ci nn]) ∧ Le H H' ∧ UV H' cs' v ∧ wfU v = true ∧ v.sizes = u.sizes ∧ v.blocks.length = u.blocks.length ∧ AgR f u v
structure rlI (f : UUnit → Nat → Option UUnit) (μ : UUnit → Nat) (u : UUnit) (H : Hp) (size : Int) (q2 q4 : Nat) (m : Nat) (s' : CA) (H' : Hp) : Prop where
  ex : ∃ K csu v nn, s'.env 1 = ci size ∧ s'.env 2 = .ptr q2 0 ∧ s'.env 4 = .ptr q4 0 ∧ s'.env 6 = ci nn ∧ s'.ds = [] ∧ K q2 = none ∧ K q4 = none ∧ Le H K ∧ H' = (K.set q2 (.cells csu)).set q4 (.cells zeroV) ∧ UV K csu v ∧ wfU v = true ∧ v.sizes = u.sizes ∧ v.blocks.length = u.blocks.length ∧ (∀ w, AgR f v w → AgR f u w) ∧ m = μ v
structure rlN (f : UUnit → Nat → Option UUnit) (μ : UUnit → Nat) (u : UUnit) (H : Hp) (size : Int) (q2 q4 : Nat) (M : Nat) (s' : CA) (H' : Hp) : Prop where
  ex : ∃ m, m < M ∧ rlI f μ u H size q2 q4 m s' H'
structure rlM (f : UUnit → Nat → Option UUnit) (v : UUnit) (K0 : Hp) (size nn : Int) (q2 q4 : Nat) (s' : CA) (H' : Hp) : Prop where
  ex : ∃ K csu v', ∃ fd : Bool, s'.env 1 = ci size ∧ s'.env 2 = .ptr q2 0 ∧ s'.env 4 = .ptr q4 0 ∧ s'.env 6 = ci nn ∧ s'.env 7 = .bool fd ∧ s'.ds = [] ∧ K q2 = none ∧ K q4 = none ∧ Le K0 K ∧ H' = (K.set q2 (.cells csu)).set q4 (.cells zeroV) ∧ UV K csu v' ∧ (fd = false → v' = v ∧ firstS f v = none) ∧ (fd = true → firstS f v = some v')
structure rlJ (f : UUnit → Nat → Option UUnit) (v : UUnit) (K0 : Hp) (size nn : Int) (q2 q4 : Nat) (d m : Nat) (s' : CA) (H' : Hp) : Prop where
  ex : ∃ (i i8 : Nat) (K : Hp) (csu : List CV) (v' : UUnit), ∃ fd : Bool, i8 + d = i ∧ i ≤ v.blocks.length ∧ s'.env 1 = ci size ∧ s'.env 2 = .ptr q2 0 ∧ s'.env 4 = .ptr q4 0 ∧ s'.env 6 = ci nn ∧ s'.env 7 = .bool fd ∧ s'.env 8 = .int .i64 i8 ∧ s'.ds = [] ∧ K q2 = none ∧ K q4 = none ∧ Le K0 K ∧ H' = (K.set q2 (.cells csu)).set q4 (.cells zeroV) ∧ UV K csu v' ∧ 0 < v'.blocks.length ∧ (fd = false → v' = v ∧ (∀ y, y < i → f v y = none) ∧ m = v.blocks.length - i + 1) ∧ (fd = true → firstS f v = some v' ∧ m = 0)
structure rlQ (f : UUnit → Nat → Option UUnit) (v : UUnit) (K0 : Hp) (size nn : Int) (q2 q4 : Nat) (M : Nat) (s' : CA) (H' : Hp) : Prop where
  ex : ∃ m, m < M ∧ rlJ f v K0 size nn q2 q4 1 m s' H'
theorem stepAll_rc {size : Int} {u : UUnit} {x : Nat} : stepAll size u x = if (shapeP u (ordC u) x).kind ≠ 0 ∧ (sizeP u (ordC u) x : Int) ≤ size ∧ rcE u x = 0 then some (rcU u x) else none := by
  by_cases hk : (shapeP u (ordC u) x).kind = 0
  · simp [stepAll, hk]
  · by_cases hc : errU (convP u (ordC u) x) = 0
    · simp [stepAll, rcE, rcU, hk, hc]
    · simp [stepAll, rcE, rcU, hk, hc]
theorem refAll_c (hX : CxOk (cx W G)) (size : Int) (u : UUnit) (hw : wfU u = true) (hbl : u.blocks.length ≤ 1000) (H : Hp) (cs : List CV) (hv : UV H cs u) :
    CC Tryz.prog W 25 [.agg cs, ci size] H (RA (stepAll size) u H) := by
  obtain ⟨w0, w5, rfl, hbr⟩ := hv.b
  refine CC.of_cw hX Tryz.func25 rfl rfl (Nat.le_of_ble_eq_true rfl) ?_
  refine CW.walk hX mixed d25 rfl ?_
  simp
  intro q2 hq2 q4 h42 h24 hq4
  refine CW.walk hX mixed d25 rfl ?_
  simp
  refine CW.block ?_
  refine CW.loop (rlI (stepAll size) brN u H size q2 q4) ?_ (m := brN u) ⟨H, _, u, 0, by simp, by simp, by simp, by simp, rfl, hq2, hq4, Le.refl _, rfl, hv, hw, rfl, rfl, fun w h => h, rfl⟩
  clear hv hbr hq2 hq4
  rintro m ⟨e, ds⟩ _ ⟨K, csu, v, nn, e1, e2, e4, e6, hds, k2, k4, hK, rfl, huv, hwv, hsv, hlv, hag, rfl⟩
  dsimp only at e1 e2 e4 e6 hds
  subst hds
  have hvb : v.blocks.length ≤ 1000 := by omega
  obtain ⟨g1, g2, g3, g4, g5, g6, g7, g8, g9, g10, g11⟩ := wfU_facts hwv
  refine CW.cut (rlN (stepAll size) brN u H size q2 q4 (brN v)) ?_ ?_
  rotate_left
  · clear e1 e2 e4 e6 k2 k4 huv
    rintro ⟨e, ds⟩ _ ⟨m', hm', K', csu', v', nn', e1, e2, e4, e6, hds, k2, k4, hK', rfl, huv', hw', hs', hl', hag', rfl⟩
    dsimp only at e1 e2 e4 e6 hds
    subst hds
    refine CW.walk1 hX mixed d25 rfl ?_
    simp [e6]
    exact ⟨brN v', hm', K', csu', v', _, by simp [e1], by simp [e2], by simp [e4], by simp; rfl, rfl, k2, k4, hK', rfl, huv', hw', hs', hl', hag', rfl⟩
  refine CW.block ?_
  refine CW.walk hX mixed d25 rfl ?_
  simp
  refine CW.cut (rlM (stepAll size) v K size nn q2 q4) ?_ ?_
  rotate_left
  · clear e1 e2 e4 e6 k2 k4
    rintro ⟨e, ds⟩ _ ⟨K', csu', v', fd, e1, e2, e4, e6, e7, hds, k2, k4, hK', rfl, huv', hff, hft⟩
    dsimp only at e1 e2 e4 e6 e7 hds
    subst hds
    have hl6 := huv'.l
    have m2 : ∀ o, ((K'.set q2 (.cells csu')).set q4 o) q2 = some (.cells csu') := fun o => by rw [hset_ne h24]; exact set_at
    cases fd with
    | false =>
      obtain ⟨rfl, hn⟩ := hff rfl
      refine CW.walk1 hX mixed d25 rfl ?_
      simp [e2, e4, e6, e7, m2, hl6]
      have hle : Le K' ((K'.set q2 (.cells csu')).set q4 (.cells (List.take 6 csu'))) := le_two k2 k4
      exact ⟨csu', v', nn, by simp [List.take_of_length_le, hl6], (hK.trans hK').trans hle, huv'.mono hle, hwv, hsv, hlv, hag _ (.stop hn)⟩
    | true =>
      have hs := hft rfl
      obtain ⟨h1, h2, h3, h4⟩ := all_falls hs
      refine CW.walk1 hX mixed d25 rfl ?_
      simp [e7]
      exact ⟨brN v', by omega, K', csu', v', nn, by simp [e1], by simp [e2], by simp [e4], by simp [e6], rfl, k2, k4, hK.trans hK', rfl, huv', errU_wf.1 h2, h3.trans hsv, h4.trans hlv, fun w h => hag _ (.go hs h), rfl⟩
  refine CW.walk hX mixed d25 rfl ?_
  simp
  refine CW.block ?_
  refine CW.loop (rlJ (stepAll size) v K size nn q2 q4 0) ?_ (m := v.blocks.length + 1) ⟨0, 0, K, csu, v, false, rfl, by omega, by simp [e1], by simp [e2], by simp [e4], by simp [e6], by simp, by simp, rfl, k2, k4, Le.refl _, rfl, huv, by omega, fun _ => ⟨rfl, fun y h => by omega, by omega⟩, fun h => by cases h⟩
  clear e1 e2 e4 e6 k2 k4 huv
  rintro m ⟨e, ds⟩ _ ⟨i, i8, K3, csu3, v3, fd, hi8, hi, e1, e2, e4, e6, e7, e8, hds, k2, k4, hK3, rfl, huv3, hpos, hff, hft⟩
  dsimp only at e1 e2 e4 e6 e7 e8 hds
  subst hds
  obtain rfl : i8 = i := by omega
  obtain ⟨x0, x5, rfl, hxb⟩ := huv3.b
  obtain ⟨rb, cb, rfl⟩ : ∃ r c, x5 = .ref r 0 v3.blocks.length c := by
    rcases hxb with ⟨_, h0⟩ | ⟨r, c, cs, h, _⟩
    · rw [h0] at hpos; simp at hpos
    · exact ⟨r, c, h⟩
  have m2 : ∀ o, ((K3.set q2 (.cells [x0, ci v3.params, ci v3.regs, ci v3.code, ci v3.spill, .ref rb 0 v3.blocks.length cb])).set q4 o) q2 = some (.cells [x0, ci v3.params, ci v3.regs, ci v3.code, ci v3.spill, .ref rb 0 v3.blocks.length cb]) := fun o => by rw [hset_ne h24]; exact set_at
  cases fd with
  | true =>
    obtain ⟨hs, rfl⟩ := hft rfl
    by_cases hl : i8 < v3.blocks.length
    all_goals
      refine CW.walk hX mixed d25 rfl ?_
      simp [e2, e7, e8, m2, hl]
      exact ⟨K3, _, v3, true, by simp [e1], by simp [e2], by simp [e4], by simp [e6], by simp [e7], rfl, k2, k4, hK3, rfl, huv3, (fun h => by cases h), fun _ => hs⟩
  | false =>
  obtain ⟨rfl, hnone, rfl⟩ := hff rfl
  by_cases hl : i8 < v3.blocks.length
  rotate_left
  · refine CW.walk hX mixed d25 rfl ?_
    simp [e2, e7, e8, m2, hl]
    obtain rfl : i8 = v3.blocks.length := by omega
    exact ⟨K3, _, v3, false, by simp [e1], by simp [e2], by simp [e4], by simp [e6], by simp [e7], rfl, k2, k4, hK3, rfl, huv3, (fun _ => ⟨rfl, first_none hnone⟩), fun h => by cases h⟩
  refine CW.walk hX mixed d25 rfl ?_
  simp [e2, e7, e8, m2, hl]
  refine CW.cut (rlQ (stepAll size) v3 K size nn q2 q4 (v3.blocks.length - i8 + 1)) ?_ ?_
  rotate_left
  · clear e1 e2 e4 e6 e7 e8 k2 k4 huv3 m2
    rintro ⟨e, ds⟩ _ ⟨m', hm', i', i8', K4, csu4, v4, fd, hi8, hi, e1, e2, e4, e6, e7, e8, hds, k2, k4, hK4, rfl, huv4, hpos, hff, hft⟩
    dsimp only at e1 e2 e4 e6 e7 e8 hds
    subst hds
    refine CW.walk1 hX mixed d25 rfl ?_
    simp [e8]
    exact ⟨m', hm', i', i', K4, csu4, v4, fd, rfl, hi, by simp [e1], by simp [e2], by simp [e4], by simp [e6], by simp [e7], by simp; rw [wrapI (by omega) (by omega)]; omega, rfl, k2, k4, hK4, rfl, huv4, hpos, hff, hft⟩
  refine CW.block ?_
  have hle : Le K3 ((K3.set q2 (.cells [x0, ci v3.params, ci v3.regs, ci v3.code, ci v3.spill, .ref rb 0 v3.blocks.length cb])).set q4 (.cells zeroV)) := le_two k2 k4
  have hst := stepAll_rc (size := size) (u := v3) (x := i8)
  have miss : stepAll size v3 i8 = none → ∀ y, y < i8 + 1 → stepAll size v3 y = none := fun h y hy => by
    by_cases e : y = i8
    · rw [e]; exact h
    · exact hnone y (by omega)
  refine CW.walk hX mixed d25 rfl ?_
  simp [e2, e8, m2]
  refine (refSize_f hX hwv hl (huv3.mono hle).f).k ?_
  rintro r H5 ⟨rfl, rfl⟩
  by_cases hk : (shapeP v3 (ordC v3) i8).kind = 0
  · have hn := miss (by rw [hst, if_neg (fun h => h.1 hk)])
    simp [hk]
    refine CW.walk1 hX mixed d25 rfl ?_
    simp [e1]
    exact ⟨v3.blocks.length - (i8 + 1) + 1, by omega, i8 + 1, i8, K3, _, v3, false, rfl, by omega, by simp [e1], by simp [e2], by simp [e4], by simp [e6], by simp [e7], by simp [e8], rfl, k2, k4, hK3, rfl, huv3, hpos, fun _ => ⟨rfl, hn, rfl⟩, fun h => by cases h⟩
  by_cases hz : (sizeP v3 (ordC v3) i8 : Int) ≤ size
  rotate_left
  · have hn := miss (by rw [hst, if_neg (fun h => hz h.2.1)])
    simp [hk]
    refine CW.walk1 hX mixed d25 rfl ?_
    simp [e1, hz]
    exact ⟨v3.blocks.length - (i8 + 1) + 1, by omega, i8 + 1, i8, K3, _, v3, false, rfl, by omega, by simp [e1], by simp [e2], by simp [e4], by simp [e6], by simp [e7], by simp [e8], rfl, k2, k4, hK3, rfl, huv3, hpos, fun _ => ⟨rfl, hn, rfl⟩, fun h => by cases h⟩
  simp [hk]
  have hcv := ((refConvert_f hX hwv hvb hl huv3.f).frame (ob := .cells [x0, ci v3.params, ci v3.regs, ci v3.code, ci v3.spill, .ref rb 0 v3.blocks.length cb]) k2).frame (r := q4) (ob := .cells zeroV) (by rw [hset_none_iff]; exact ⟨h42, k4⟩)
  refine CW.walk1 hX mixed d25 rfl ?_
  simp [e1, e2, e8, hz, m2]
  refine hcv.k ?_
  rintro x _ ⟨_, l4, rfl, K4, l2, rfl, csr, rfl, hle4, huv4⟩
  rw [hset_none_iff] at l4
  have hl6 := huv4.l
  simp [hl6]
  intro q11 b1 b2 b3 b4 hq11
  have h2 : q11 ≠ q2 := by first | exact b1 | exact b2 | exact b3 | exact b4
  have h4 : q11 ≠ q4 := by first | exact b1 | exact b2 | exact b3 | exact b4
  rw [two_new h2 h4]
  have n2 : (K4.set q11 (.cells csr)) q2 = none := by rw [hset_ne (Ne.symm h2)]; exact l2
  have n4 : (K4.set q11 (.cells csr)) q4 = none := by rw [hset_ne (Ne.symm h4)]; exact l4.2
  have hle5 : Le K4 (K4.set q11 (.cells csr)) := Le.set_new hq11
  have m11 : ∀ a b : Ob, (((K4.set q11 (.cells csr)).set q2 a).set q4 b) q11 = some (.cells csr) := fun a b => (le_two n2 n4) _ _ set_at
  have huv5 := huv4.mono hle5
  have hle45 := hle4.trans hle5
  generalize K4.set q11 _ = K5 at n2 n4 hle45 m11 huv5 ⊢
  by_cases hc : rcE v3 i8 = 0
  rotate_left
  · have hn := miss (by rw [hst, if_neg (fun h => hc h.2.2)])
    simp [hc]
    exact ⟨v3.blocks.length - (i8 + 1) + 1, by omega, i8 + 1, i8, K5, _, v3, false, rfl, by omega, by simp [e1], by simp [e2], by simp [e4], by simp [e6], by simp [e7], by simp [e8], rfl, n2, n4, hK3.trans hle45, rfl, huv3.mono hle45, hpos, fun _ => ⟨rfl, hn, rfl⟩, fun h => by cases h⟩
  have hs := first_at hl hnone (hst.trans (if_pos ⟨hk, hz, hc⟩))
  obtain ⟨a1, a2, a3, a4⟩ := all_falls hs
  have m25 : ∀ a b : Ob, ((K5.set q2 a).set q4 b) q2 = some a := fun a b => by rw [hset_ne h24]; exact set_at
  simp [hc, m11, m25, hl6, e2]
  exact ⟨0, by omega, i8 + 1, i8, K5, csr, rcU v3 i8, true, rfl, by omega, by simp [e1], by simp [e2], by simp [e4], by simp [e6], by simp, by simp [e8], rfl, n2, n4, hK3.trans hle45, by rw [two_put h24, List.take_of_length_le (by omega)], huv5, by omega, (fun h => by cases h), fun _ => ⟨hs, rfl⟩⟩
end Go.Cl.Gu
set_option linter.unusedSimpArgs false
set_option linter.unusedVariables false
namespace Go.Cl.Gu
open Go.Proofs Go.Cl.Gd
variable {W : World} {G : Nat → CV}
set_option maxRecDepth 8000
set_option maxHeartbeats 1000000
noncomputable def rjE (u : UUnit) (x : Nat) : Int := if follB u (ordC u) x = false then 5 else if errU (joinP u x) ≠ 0 then 11 else 0
noncomputable def rjU (u : UUnit) (x : Nat) : UUnit := if rjE u x = 0 then joinP u x else zeroU
theorem stepJoin_rj {u : UUnit} {x : Nat} : stepJoin u x = if rjE u x = 0 then some (rjU u x) else none := by
  cases hf : follB u (ordC u) x
  · simp [stepJoin, rjE, hf]
  · by_cases hc : errU (joinP u x) = 0
    · simp [stepJoin, rjE, rjU, hf, hc]
    · simp [stepJoin, rjE, rjU, hf, hc]
theorem refJoin_f (hX : CxOk (cx W G)) {u : UUnit} (hw : wfU u = true) (hbl : u.blocks.length ≤ 1000) {x : Nat} (hx : x < u.blocks.length) {H : Hp} {cs : List CV} (hf : Fz H (.agg cs) (.agg (unitC u))) :
    CC Tryz.prog W 28 [.agg cs, .int .i64 x] H (RU H (rjE u x) (rjU u x)) := by
  refine ru_freeze hX hf fun W' hX' H => ?_
  clear hf
  clear cs
  have hjn := fun K => joined_c hX' u hw hbl x hx K
  refine CC.of_cw hX' Tryz.func28 rfl rfl (Nat.le_of_ble_eq_true rfl) ?_
  refine CW.walk hX' mixed d28 rfl ?_
  simp
  intro q2 hq2 q4 h42 h24 hq4
  have hle1 : Le H (H.set q2 (.cells (unitC u))) := Le.set_new hq2
  have m21 : (H.set q2 (.cells (unitC u))) q2 = some (.cells (unitC u)) := set_at
  have hK1 : (H.set q2 (.cells (unitC u))) q4 = none := by rw [hset_none_iff]; exact ⟨h42, hq4⟩
  generalize H.set q2 _ = K1 at hle1 m21 hK1 ⊢
  have m22 : (K1.set q4 (.cells zeroV)) q2 = some (.cells (unitC u)) := Le.set_new hK1 _ _ m21
  have hjn := (hjn K1).frame (ob := .cells zeroV) hK1
  simp only [unitC] at m22 m21 hjn
  refine CW.walk hX' mixed d28 rfl ?_
  simp [m22]
  refine hjn.k ?_
  rintro r _ ⟨K4, hK4, rfl, cs4, rfl, hle4, huv⟩
  have hl6 := huv.l
  simp [hl6]
  intro q8 b1 b2 hq8
  have hne : q8 ≠ q4 := by first | exact b1 | exact b2
  rw [set_comm (Ne.symm hne)]
  have hK5 : (K4.set q8 (.cells cs4)) q4 = none := by rw [hset_ne (Ne.symm hne)]; exact hK4
  have hle5 : Le K4 (K4.set q8 (.cells cs4)) := Le.set_new hq8
  have m8 : ∀ o, ((K4.set q8 (.cells cs4)).set q4 o) q8 = some (.cells cs4) := fun o => Le.set_new hK5 _ _ set_at
  generalize K4.set q8 _ = K5 at hK5 hle5 m8 ⊢
  have hle : ∀ o, Le K4 (K5.set q4 o) := fun o => hle5.trans (Le.set_new hK5)
  cases hf : follB u (ordC u) x
  · refine CW.walk hX' mixed d28 rfl ?_
    simp [hf, cfill]
    have e5 : rjE u x = 5 := by simp [rjE, hf]
    exact ⟨zeroV, by rw [e5], (hle1.trans hle4).trans (hle _), by rw [rjU, if_neg (by rw [e5]; decide)]; exact uv_zero⟩
  rw [if_pos hf] at huv
  refine CW.walk hX' mixed d28 rfl ?_
  simp [hf]
  refine CW.walk hX' mixed d28 rfl ?_
  simp [m8, hl6]
  rw [List.take_of_length_le (by omega)]
  refine (check24_f hX' (join_uok hw) (huv.mono (hle _)).f).k ?_
  rintro r H6 ⟨rfl, rfl⟩
  by_cases hc : errU (joinP u x) = 0
  rotate_left
  · simp [hc, cfill]
    have e11 : rjE u x = 11 := by simp [rjE, hf, hc]
    exact ⟨zeroV, by rw [e11], (hle1.trans hle4).trans (hle _), by rw [rjU, if_neg (by rw [e11]; decide)]; exact uv_zero⟩
  simp [hc]
  refine CW.walk1 hX' mixed d28 rfl ?_
  simp [hl6, m8]
  have e0 : rjE u x = 0 := by simp [rjE, hf, hc]
  exact ⟨cs4, by rw [e0]; simp [List.take_of_length_le, hl6], (hle1.trans hle4).trans (hle _), by rw [rjU, if_pos e0]; exact huv.mono (hle _)⟩
noncomputable def ordN (u : UUnit) : Nat := (ordC u).length
theorem joins_falls {u v : UUnit} (hu : wfU u = true) (h : firstS stepJoin u = some v) : ordN v < ordN u ∧ errU v = 0 ∧ v.sizes = u.sizes ∧ v.blocks.length = u.blocks.length := by
  obtain ⟨p, c, hp⟩ := pleast_ex (opsOf u)
  exact join_falls hu hp h
structure rjI (f : UUnit → Nat → Option UUnit) (μ : UUnit → Nat) (u : UUnit) (H : Hp) (q2 q4 : Nat) (m : Nat) (s' : CA) (H' : Hp) : Prop where
  ex : ∃ K csu v nn, s'.env 1 = .ptr q2 0 ∧ s'.env 2 = .ptr q4 0 ∧ s'.env 4 = ci nn ∧ s'.ds = [] ∧ K q2 = none ∧ K q4 = none ∧ Le H K ∧ H' = (K.set q2 (.cells csu)).set q4 (.cells zeroV) ∧ UV K csu v ∧ wfU v = true ∧ v.sizes = u.sizes ∧ v.blocks.length = u.blocks.length ∧ (∀ w, AgR f v w → AgR f u w) ∧ m = μ v
structure rjN (f : UUnit → Nat → Option UUnit) (μ : UUnit → Nat) (u : UUnit) (H : Hp) (q2 q4 : Nat) (M : Nat) (s' : CA) (H' : Hp) : Prop where
  ex : ∃ m, m < M ∧ rjI f μ u H q2 q4 m s' H'
structure rjM (f : UUnit → Nat → Option UUnit) (v : UUnit) (K0 : Hp) (nn : Int) (q2 q4 : Nat) (s' : CA) (H' : Hp) : Prop where
  ex : ∃ K csu v', ∃ fd : Bool, s'.env 1 = .ptr q2 0 ∧ s'.env 2 = .ptr q4 0 ∧ s'.env 4 = ci nn ∧ s'.env 5 = .bool fd ∧ s'.ds = [] ∧ K q2 = none ∧ K q4 = none ∧ Le K0 K ∧ H' = (K.set q2 (.cells csu)).set q4 (.cells zeroV) ∧ UV K csu v' ∧ (fd = false → v' = v ∧ firstS f v = none) ∧ (fd = true → firstS f v = some v')
structure rjJ (f : UUnit → Nat → Option UUnit) (v : UUnit) (K0 : Hp) (nn : Int) (q2 q4 : Nat) (d m : Nat) (s' : CA) (H' : Hp) : Prop where
  ex : ∃ (i i8 : Nat) (K : Hp) (csu : List CV) (v' : UUnit), ∃ fd : Bool, i8 + d = i ∧ i ≤ v.blocks.length ∧ s'.env 1 = .ptr q2 0 ∧ s'.env 2 = .ptr q4 0 ∧ s'.env 4 = ci nn ∧ s'.env 5 = .bool fd ∧ s'.env 6 = .int .i64 i8 ∧ s'.ds = [] ∧ K q2 = none ∧ K q4 = none ∧ Le K0 K ∧ H' = (K.set q2 (.cells csu)).set q4 (.cells zeroV) ∧ UV K csu v' ∧ 0 < v'.blocks.length ∧ (fd = false → v' = v ∧ (∀ y, y < i → f v y = none) ∧ m = v.blocks.length - i + 1) ∧ (fd = true → firstS f v = some v' ∧ m = 0)
structure rjQ (f : UUnit → Nat → Option UUnit) (v : UUnit) (K0 : Hp) (nn : Int) (q2 q4 : Nat) (M : Nat) (s' : CA) (H' : Hp) : Prop where
  ex : ∃ m, m < M ∧ rjJ f v K0 nn q2 q4 1 m s' H'
theorem refJoins_c (hX : CxOk (cx W G)) (u : UUnit) (hw : wfU u = true) (hbl : u.blocks.length ≤ 1000) (H : Hp) (cs : List CV) (hv : UV H cs u) :
    CC Tryz.prog W 29 [.agg cs] H (RA stepJoin u H) := by
  obtain ⟨w0, w5, rfl, hbr⟩ := hv.b
  refine CC.of_cw hX Tryz.func29 rfl rfl (Nat.le_of_ble_eq_true rfl) ?_
  refine CW.walk hX mixed d29 rfl ?_
  simp
  intro q2 hq2 q4 h42 h24 hq4
  refine CW.walk hX mixed d29 rfl ?_
  simp
  refine CW.block ?_
  refine CW.loop (rjI stepJoin ordN u H q2 q4) ?_ (m := ordN u) ⟨H, _, u, 0, by simp, by simp, by simp, rfl, hq2, hq4, Le.refl _, rfl, hv, hw, rfl, rfl, fun w h => h, rfl⟩
  clear hv hbr hq2 hq4
  rintro m ⟨e, ds⟩ _ ⟨K, csu, v, nn, e2, e4, e6, hds, k2, k4, hK, rfl, huv, hwv, hsv, hlv, hag, rfl⟩
  dsimp only at e2 e4 e6 hds
  subst hds
  have hvb : v.blocks.length ≤ 1000 := by omega
  obtain ⟨g1, g2, g3, g4, g5, g6, g7, g8, g9, g10, g11⟩ := wfU_facts hwv
  refine CW.cut (rjN stepJoin ordN u H q2 q4 (ordN v)) ?_ ?_
  rotate_left
  · clear e2 e4 e6 k2 k4 huv
    rintro ⟨e, ds⟩ _ ⟨m', hm', K', csu', v', nn', e2, e4, e6, hds, k2, k4, hK', rfl, huv', hw', hs', hl', hag', rfl⟩
    dsimp only at e2 e4 e6 hds
    subst hds
    refine CW.walk1 hX mixed d29 rfl ?_
    simp [e6]
    exact ⟨ordN v', hm', K', csu', v', _, by simp [e2], by simp [e4], by simp; rfl, rfl, k2, k4, hK', rfl, huv', hw', hs', hl', hag', rfl⟩
  refine CW.block ?_
  refine CW.walk hX mixed d29 rfl ?_
  simp
  refine CW.cut (rjM stepJoin v K nn q2 q4) ?_ ?_
  rotate_left
  · clear e2 e4 e6 k2 k4
    rintro ⟨e, ds⟩ _ ⟨K', csu', v', fd, e2, e4, e6, e7, hds, k2, k4, hK', rfl, huv', hff, hft⟩
    dsimp only at e2 e4 e6 e7 hds
    subst hds
    have hl6 := huv'.l
    have m2 : ∀ o, ((K'.set q2 (.cells csu')).set q4 o) q2 = some (.cells csu') := fun o => by rw [hset_ne h24]; exact set_at
    cases fd with
    | false =>
      obtain ⟨rfl, hn⟩ := hff rfl
      refine CW.walk1 hX mixed d29 rfl ?_
      simp [e2, e4, e6, e7, m2, hl6]
      have hle : Le K' ((K'.set q2 (.cells csu')).set q4 (.cells (List.take 6 csu'))) := le_two k2 k4
      exact ⟨csu', v', nn, by simp [List.take_of_length_le, hl6], (hK.trans hK').trans hle, huv'.mono hle, hwv, hsv, hlv, hag _ (.stop hn)⟩
    | true =>
      have hs := hft rfl
      obtain ⟨h1, h2, h3, h4⟩ := joins_falls hwv hs
      refine CW.walk1 hX mixed d29 rfl ?_
      simp [e7]
      exact ⟨ordN v', by omega, K', csu', v', nn, by simp [e2], by simp [e4], by simp [e6], rfl, k2, k4, hK.trans hK', rfl, huv', errU_wf.1 h2, h3.trans hsv, h4.trans hlv, fun w h => hag _ (.go hs h), rfl⟩
  refine CW.walk hX mixed d29 rfl ?_
  simp
  refine CW.block ?_
  refine CW.loop (rjJ stepJoin v K nn q2 q4 0) ?_ (m := v.blocks.length + 1) ⟨0, 0, K, csu, v, false, rfl, by omega, by simp [e2], by simp [e4], by simp [e6], by simp, by simp, rfl, k2, k4, Le.refl _, rfl, huv, by omega, fun _ => ⟨rfl, fun y h => by omega, by omega⟩, fun h => by cases h⟩
  clear e2 e4 e6 k2 k4 huv
  rintro m ⟨e, ds⟩ _ ⟨i, i8, K3, csu3, v3, fd, hi8, hi, e2, e4, e6, e7, e8, hds, k2, k4, hK3, rfl, huv3, hpos, hff, hft⟩
  dsimp only at e2 e4 e6 e7 e8 hds
  subst hds
  obtain rfl : i8 = i := by omega
  obtain ⟨x0, x5, rfl, hxb⟩ := huv3.b
  obtain ⟨rb, cb, rfl⟩ : ∃ r c, x5 = .ref r 0 v3.blocks.length c := by
    rcases hxb with ⟨_, h0⟩ | ⟨r, c, cs, h, _⟩
    · rw [h0] at hpos; simp at hpos
    · exact ⟨r, c, h⟩
  have m2 : ∀ o, ((K3.set q2 (.cells [x0, ci v3.params, ci v3.regs, ci v3.code, ci v3.spill, .ref rb 0 v3.blocks.length cb])).set q4 o) q2 = some (.cells [x0, ci v3.params, ci v3.regs, ci v3.code, ci v3.spill, .ref rb 0 v3.blocks.length cb]) := fun o => by rw [hset_ne h24]; exact set_at
  cases fd with
  | true =>
    obtain ⟨hs, rfl⟩ := hft rfl
    by_cases hl : i8 < v3.blocks.length
    all_goals
      refine CW.walk hX mixed d29 rfl ?_
      simp [e2, e7, e8, m2, hl]
      exact ⟨K3, _, v3, true, by simp [e2], by simp [e4], by simp [e6], by simp [e7], rfl, k2, k4, hK3, rfl, huv3, (fun h => by cases h), fun _ => hs⟩
  | false =>
  obtain ⟨rfl, hnone, rfl⟩ := hff rfl
  by_cases hl : i8 < v3.blocks.length
  rotate_left
  · refine CW.walk hX mixed d29 rfl ?_
    simp [e2, e7, e8, m2, hl]
    obtain rfl : i8 = v3.blocks.length := by omega
    exact ⟨K3, _, v3, false, by simp [e2], by simp [e4], by simp [e6], by simp [e7], rfl, k2, k4, hK3, rfl, huv3, (fun _ => ⟨rfl, first_none hnone⟩), fun h => by cases h⟩
  refine CW.walk hX mixed d29 rfl ?_
  simp [e2, e7, e8, m2, hl]
  refine CW.cut (rjQ stepJoin v3 K nn q2 q4 (v3.blocks.length - i8 + 1)) ?_ ?_
  rotate_left
  · clear e2 e4 e6 e7 e8 k2 k4 huv3 m2
    rintro ⟨e, ds⟩ _ ⟨m', hm', i', i8', K4, csu4, v4, fd, hi8, hi, e2, e4, e6, e7, e8, hds, k2, k4, hK4, rfl, huv4, hpos, hff, hft⟩
    dsimp only at e2 e4 e6 e7 e8 hds
    subst hds
    refine CW.walk1 hX mixed d29 rfl ?_
    simp [e8]
    exact ⟨m', hm', i', i', K4, csu4, v4, fd, rfl, hi, by simp [e2], by simp [e4], by simp [e6], by simp [e7], by simp; rw [wrapI (by omega) (by omega)]; omega, rfl, k2, k4, hK4, rfl, huv4, hpos, hff, hft⟩
  refine CW.block ?_
  have hle : Le K3 ((K3.set q2 (.cells [x0, ci v3.params, ci v3.regs, ci v3.code, ci v3.spill, .ref rb 0 v3.blocks.length cb])).set q4 (.cells zeroV)) := le_two k2 k4
  have hst : stepJoin v3 i8 = if rjE v3 i8 = 0 then some (rjU v3 i8) else none := stepJoin_rj
  have miss : stepJoin v3 i8 = none → ∀ y, y < i8 + 1 → stepJoin v3 y = none := fun h y hy => by
    by_cases e : y = i8
    · rw [e]; exact h
    · exact hnone y (by omega)
  have hcv := ((refJoin_f hX hwv hvb hl huv3.f).frame (ob := .cells [x0, ci v3.params, ci v3.regs, ci v3.code, ci v3.spill, .ref rb 0 v3.blocks.length cb]) k2).frame (r := q4) (ob := .cells zeroV) (by rw [hset_none_iff]; exact ⟨h42, k4⟩)
  refine CW.walk hX mixed d29 rfl ?_
  simp [e2, e8, m2]
  refine hcv.k ?_
  rintro x _ ⟨_, l4, rfl, K4, l2, rfl, csr, rfl, hle4, huv4⟩
  rw [hset_none_iff] at l4
  have hl6 := huv4.l
  simp [hl6]
  intro q11 b1 b2 b3 b4 hq11
  have h2 : q11 ≠ q2 := by first | exact b1 | exact b2 | exact b3 | exact b4
  have h4 : q11 ≠ q4 := by first | exact b1 | exact b2 | exact b3 | exact b4
  rw [two_new h2 h4]
  have n2 : (K4.set q11 (.cells csr)) q2 = none := by rw [hset_ne (Ne.symm h2)]; exact l2
  have n4 : (K4.set q11 (.cells csr)) q4 = none := by rw [hset_ne (Ne.symm h4)]; exact l4.2
  have hle5 : Le K4 (K4.set q11 (.cells csr)) := Le.set_new hq11
  have m11 : ∀ a b : Ob, (((K4.set q11 (.cells csr)).set q2 a).set q4 b) q11 = some (.cells csr) := fun a b => (le_two n2 n4) _ _ set_at
  have huv5 := huv4.mono hle5
  have hle45 := hle4.trans hle5
  generalize K4.set q11 _ = K5 at n2 n4 hle45 m11 huv5 ⊢
  by_cases hc : rjE v3 i8 = 0
  rotate_left
  · have hn := miss (by rw [hst, if_neg hc])
    refine CW.walk1 hX mixed d29 rfl ?_
    simp [hc]
    exact ⟨v3.blocks.length - (i8 + 1) + 1, by omega, i8 + 1, i8, K5, _, v3, false, rfl, by omega, by simp [e2], by simp [e4], by simp [e6], by simp [e7], by simp [e8], rfl, n2, n4, hK3.trans hle45, rfl, huv3.mono hle45, hpos, fun _ => ⟨rfl, hn, rfl⟩, fun h => by cases h⟩
  have hs := first_at hl hnone (hst.trans (if_pos hc))
  obtain ⟨a1, a2, a3, a4⟩ := joins_falls hwv hs
  have m25 : ∀ a b : Ob, ((K5.set q2 a).set q4 b) q2 = some a := fun a b => by rw [hset_ne h24]; exact set_at
  refine CW.walk1 hX mixed d29 rfl ?_
  simp [hc, m11, m25, hl6, e2]
  exact ⟨0, by omega, i8 + 1, i8, K5, csr, rjU v3 i8, true, rfl, by omega, by simp [e2], by simp [e4], by simp [e6], by simp, by simp [e8], rfl, n2, n4, hK3.trans hle45, by rw [two_put h24, List.take_of_length_le (by omega)], huv5, by omega, (fun h => by cases h), fun _ => ⟨hs, rfl⟩⟩
end Go.Cl.Gu
