/- DERIVED HERE. The reference's Live: Before. -/
import Derived.Test.YtdoifdjodafakaaGreatDoorRC
set_option linter.unusedSimpArgs false
set_option linter.unusedVariables false
namespace Go.Cl
open Go.Proofs Dd
variable {W : World} {G : Nat → CV}
set_option maxRecDepth 8000
set_option maxHeartbeats 4000000
theorem CW.condE {X : Cx} {N : Nat} {ρ : Option Nat} {Q : CP} {s : CA} {H : Hp} (hX : CxOk X) {o : Operand} {x y : Code} {b : Bool} (h : evC X N s.env o = .bool b) (ht : b = true → CW X.P X.W N ρ x Q s H) (hf : b = false → CW X.P X.W N ρ y Q s H) : CW X.P X.W N ρ (.cond o x y) Q s H :=
  CW.cond (fun a hr => by
    have := ev_rep hX hr o
    rw [h] at this
    generalize a.eval o = v at this ⊢
    cases this
    rfl) ht hf
theorem Own.new {B H : Hp} {v : CV} {sz : Nat} {xs : List (List CV)} (h : Own B H v sz xs) {r o l c : Nat} (hv : v = .ref r o l c) : B r = none := by
  obtain ⟨_, _, ⟨h1, _⟩ | ⟨q, c', ex, h1, h2, h3, _⟩⟩ := h
  · rw [h1] at hv; cases hv
  · rw [h1] at hv; injection hv with e1; subst e1; exact h2
theorem le_set_of {H H' : Hp} {r : Nat} {o : Ob} (h : Le H H') (hr : H' r = some o) : Le (H.set r o) H' := fun i x hi => by
  simp only [Hp.set] at hi
  split at hi
  · rename_i e; injection hi with hi; rw [e, hr, hi]
  · exact h i x hi
def anyOf (l : List Int) : Nat → Bool := fun x => l.any fun y => x == y.toNat
theorem anyOf_take {l : List Int} {i : Nat} {y : Int} (h : l[i]? = some y) (x : Nat) : anyOf (l.take (i + 1)) x = (anyOf (l.take i) x || x == y.toNat) := by
  obtain ⟨hi, he⟩ := List.getElem?_eq_some_iff.1 h
  simp only [anyOf]
  rw [List.take_add_one, h, List.any_append]
  simp
structure bfM (H : Hp) (cs : List CV) (b t r7 r8 n : Nat) (bl : List CV) (f : Nat → Bool) (s' : CA) (H' : Hp) : Prop where
  ex : s'.env 0 = .iptr cs ∧ s'.env 1 = .int .i64 b ∧ s'.env 2 = .int .i64 t ∧ s'.env 7 = .ptr r7 0 ∧ s'.env 8 = .ref r8 0 n n ∧ s'.ds = [] ∧ Le H H' ∧ H r8 = none ∧ H' r8 = some (.cells (boolC n f)) ∧ H' r7 = some (.cells bl)
structure bfL (H : Hp) (cs : List CV) (b t r7 r8 n tl ti : Nat) (bl : List CV) (v : CV) (l : List Int) (f : Nat → Bool) (d : Nat) (j : Nat) (s' : CA) (H' : Hp) : Prop where
  ex : ∃ i i' : Nat, i ≤ l.length ∧ j = l.length - i ∧ bfM H cs b t r7 r8 n bl (fun x => f x || anyOf (l.take i) x) s' H' ∧ s'.env tl = v ∧ s'.env ti = .int .i64 i' ∧ i' + d = i ∧ SlF H' v l ∧ (∀ o m c, v ≠ .ref r8 o m c)
theorem before41_c (hX : CxOk (cx W G)) (u : UUnit) (hw : wfU u = true) (p : Nat → Bool) (I : Nat → Nat → Bool) (b : Nat) (k : UBlk) (hk : u.blocks[b]? = some k) : ∀ (m t : Nat) (hm : k.ops.length - t = m) (ht : t ≤ k.ops.length) (H : Hp),
    CC Tryz.prog W 32 [.iptr (refC u p I), .int .i64 b, .int .i64 t] H fun x H' => ∃ r, H r = none ∧ x = .ret (.ref r 0 u.regs.toNat u.regs.toNat) ∧ H' = H.set r (.cells (boolC u.regs.toNat (beforeP u p I k (k.ops.drop t)))) := by
  obtain ⟨f1, f2, f3, f4, f5, f6, f7, f8, f9, f10, f11⟩ := wfU_facts hw
  obtain ⟨hct, hlen, hwo, hwe⟩ := wfB_facts hw hk
  obtain ⟨g1, g2, g3, g4, g5⟩ := wfE_facts hwe
  have hb := (List.getElem?_eq_some_iff.1 hk).1
  have hbe := (List.getElem?_eq_some_iff.1 hk).2
  have hcs : refC u p I = [.sl 1 (u.sizes.map fun n => [ci n]), ci u.params, ci u.regs, ci u.code, ci u.spill, .sl 6 (u.blocks.map blkC), .sl 1 (boolS u.regs.toNat p), .sl 1 (insS u.blocks.length u.regs.toNat I)] := rfl
  intro m
  induction m with
  | zero =>
    intro t hm ht H
    have htt : t = k.ops.length := by omega
    subst htt
    refine CC.shrink ?_
    refine CC.of_cw hX Tryz.func32 rfl rfl (Nat.le_of_ble_eq_true rfl) ?_
    refine CW.walk hX mixed d32 rfl ?_
    simp
    refine CW.walk hX mixed d32 rfl ?_
    simp [d32, refC, unitC, hb, hbe, blkC]
    intro r7 n7
    refine CW.walk hX mixed d32 rfl ?_
    simp
    refine ⟨by omega, by omega, by omega, fun r8 q1 q2 n8 => ?_⟩
    rw [zeroB]
    have n8' : (H.set r7 (.cells (.sl 7 (k.ops.map opC) :: blkT k))) r8 = none := by rw [hset_ne q1]; exact n8
    have c10 : Le H ((H.set r7 (.cells (blkC k))).set r8 (.cells (boolC u.regs.toNat fun _ => false))) := (Le.set_new n7).trans (Le.set_new n8')
    have c12 : ((H.set r7 (.cells (blkC k))).set r8 (.cells (boolC u.regs.toNat fun _ => false))) r8 = some (.cells (boolC u.regs.toNat fun _ => false)) := set_at
    have c13 : ((H.set r7 (.cells (blkC k))).set r8 (.cells (boolC u.regs.toNat fun _ => false))) r7 = some (.cells (blkC k)) := by rw [hset_ne q2]; exact set_at
    have c11 := n8
    refine CW.seq ?_
    refine CW.walk hX mixed d32 rfl ?_
    simp [q1, q2]
    refine CW.condE hX (b := true) (by simp) (fun _ => ?_) (fun q => by cases q)
    obtain ⟨l, hl⟩ : ∃ l, l = (if k.en.kind = 1 then [] else [k.en.a]) := ⟨_, rfl⟩
    have hlr : ∀ y ∈ l, 0 ≤ y ∧ y < u.regs := fun y hy => by
      rw [hl] at hy
      split at hy
      · simp at hy
      · simp at hy; subst hy; exact g3 (by assumption)
    have hll : l.length ≤ 10 := by rw [hl]; split <;> simp
    refine CW.cut (fun s' H' => ∃ v, bfM H (refC u p I) b k.ops.length r7 r8 u.regs.toNat (blkC k) (fun _ => false) s' H' ∧ s'.env 9 = v ∧ SlF H' v l ∧ ∀ o m c, v ≠ .ref r8 o m c) ?_ ?_
    · refine CW.walk1 hX mixed d32 rfl ?_
      simp [q1, q2]
      have her := endReads65_c hX k.en ((H.set r7 (.cells (blkC k))).set r8 (.cells (boolC u.regs.toNat fun _ => false)))
      simp only [endC, blkC, blkT] at her
      refine her.k ?_
      rintro x H4 ⟨v, rfl, how⟩
      simp
      rw [← hl] at how
      refine ⟨⟨by simp [hcs], by simp, by simp, by simp, by simp, rfl, c10.trans how.le, c11, how.le _ _ c12, how.le _ _ c13⟩, how.slF, fun o m c q => ?_⟩
      have := Own.new how q
      cases this.symm.trans c12
    rintro ⟨en, ds⟩ H4 ⟨v, ⟨hM⟩, hv, hsl, hvn⟩
    dsimp only at hM hv
    obtain rfl : ds = [] := hM.2.2.2.2.2.1
    refine CW.cut (bfM H (refC u p I) b k.ops.length r7 r8 u.regs.toNat (blkC k) (fun x => (fun _ => false) x || anyOf l x)) ?_ ?_
    · refine CW.walk hX mixed d32 rfl ?_
      simp
      refine CW.block ?_
      refine CW.loop (bfL H (refC u p I) b k.ops.length r7 r8 u.regs.toNat 9 10 (blkC k) v l (fun _ => false) 0) ?_ (m := l.length) ⟨0, 0, by omega, rfl, ⟨by simp [hM.1], by simp [hM.2.1], by simp [hM.2.2.1], by simp [hM.2.2.2.1], by simp [hM.2.2.2.2.1], rfl, hM.2.2.2.2.2.2.1, hM.2.2.2.2.2.2.2.1, by rw [hM.2.2.2.2.2.2.2.2.1]; first | rfl | (congr 2; exact boolC_congr fun x _ => by simp [anyOf]), hM.2.2.2.2.2.2.2.2.2⟩, by simp [hv], by simp, rfl, hsl, hvn⟩
      clear hM hv hsl
      rintro j ⟨en, ds⟩ H5 ⟨i, i', hi, rfl, ⟨e0, e1, e2, e7, e8, rfl, hle, hn8, m8, m7⟩, el, ei, hii, hsl, hvn⟩
      obtain rfl : i = i' := by omega
      dsimp only at e0 e1 e2 e7 e8 el ei
      by_cases hlt : i < l.length
      rotate_left
      · have hil : i = l.length := by omega
        have fin : ∀ en : Env, en 0 = .iptr (refC u p I) → en 1 = .int .i64 b → en 2 = .int .i64 k.ops.length → en 7 = .ptr r7 0 → en 8 = .ref r8 0 u.regs.toNat u.regs.toNat → bfM H (refC u p I) b k.ops.length r7 r8 u.regs.toNat (blkC k) (fun x => (fun _ => false) x || anyOf l x) ⟨en, []⟩ H5 := fun en g0 g1 g2 g7 g8 => ⟨g0, g1, g2, g7, g8, rfl, hle, hn8, by rw [m8, hil, List.take_length], m7⟩
        refine CW.walk hX mixed d32 rfl ?_
        rcases hsl with ⟨rfl, rfl⟩ | ⟨rl, cl, csl, rfl, ml, hcl⟩
        · have : i = 0 := by simpa using hil
          subst this
          simp [el, ei]
          exact fin _ (by simp [e0]) (by simp [e1]) (by simp [e2]) (by simp [e7]) (by simp [e8])
        · simp [el, ei, hlt]
          exact fin _ (by simp [e0]) (by simp [e1]) (by simp [e2]) (by simp [e7]) (by simp [e8])
      rcases hsl with ⟨rfl, rfl⟩ | ⟨rl, cl, csl, rfl, ml, hcl⟩
      · simp at hlt
      obtain ⟨y, hy⟩ : ∃ y, l[i] = y := ⟨_, rfl⟩
      have hy' : l[i]? = some y := by rw [List.getElem?_eq_getElem hlt, hy]
      have hcy := hcl i y hy'
      obtain ⟨y0, y1⟩ := hlr y (List.mem_of_getElem? hy')
      have y2 : y.toNat < u.regs.toNat := by omega
      have hrl : rl ≠ r8 := fun q => hvn 0 l.length (l.length + cl) (by rw [q])
      refine CW.walk hX mixed d32 rfl ?_
      simp [el, ei, hlt]
      refine CW.cut (bfL H (refC u p I) b k.ops.length r7 r8 u.regs.toNat 9 10 (blkC k) (.ref rl 0 l.length (l.length + cl)) l (fun _ => false) 1 (l.length - (i + 1))) ?_ ?_
      · refine CW.block ?_
        refine CW.walk1 hX mixed d32 rfl ?_
        simp [e8, el, ei, hlt, ml, hcy, y0, y1, y2, m8, boolC_len]
        refine ⟨by omega, by omega, i + 1, i, hlt, rfl, ⟨by simp [e0], by simp [e1], by simp [e2], by simp [e7], by simp [e8], rfl, hle.put hn8, hn8, ?_, ?_⟩, by simp [el], by simp [ei], rfl, .inr ⟨rl, cl, csl, rfl, by rw [hset_ne hrl]; exact ml, hcl⟩, fun o m c q => hvn o m c q⟩
        · rw [set_at, boolC_put _ _ y2]
          congr 2
          refine boolC_congr fun x _ => ?_
          rw [anyOf_take hy']
          by_cases hx : x = y.toNat
          · subst hx; simp
          · have hx2 : (x == y.toNat) = false := by simpa using hx
            simp [hx, hx2]
        · rw [hset_ne q2]; exact m7
      · rintro ⟨en, ds⟩ H6 ⟨i', i2, hi', hj', ⟨g0, g1, g2, g7, g8, rfl, hle', hn8', m8', m7'⟩, gl, gi, hii', hsl', hvn'⟩
        dsimp only at g0 g1 g2 g7 g8 gl gi
        refine CW.walk1 hX mixed d32 rfl ?_
        simp [gi]
        exact ⟨l.length - (i + 1), by omega, i', i', hi', hj', ⟨by simp [g0], by simp [g1], by simp [g2], by simp [g7], by simp [g8], rfl, hle', hn8', m8', m7'⟩, by simp [gl], by simp; rw [wrapI (by omega) (by omega)]; omega, rfl, hsl', hvn'⟩
    clear hM hv hsl
    rintro ⟨en, ds⟩ H5 ⟨e0, e1, e2, e7, e8, rfl, hle, hn8, m8, m7⟩
    dsimp only at e0 e1 e2 e7 e8
    refine CW.walk1 hX mixed d32 rfl ?_
    simp [e0, e1, e8]
    refine (behind67_c hX u hw p I b k hk H5).k ?_
    rintro x H6 ⟨r, hr, rfl, rfl⟩
    have hr8 : r ≠ r8 := fun q => by rw [q, m8] at hr; cases hr
    simp [e8]
    have m8' : (H5.set r (.cells (boolC u.regs.toNat (behP u p I k)))) r8 = some (.cells (boolC u.regs.toNat fun x => (fun _ => false) x || anyOf l x)) := by rw [hset_ne (Ne.symm hr8)]; exact m8
    refine (join66_c hX u.regs.toNat r8 _ (behP u p I k) (-1) (.ref r 0 u.regs.toNat u.regs.toNat) m8' (.inr ⟨r, _, rfl, set_at, hr8⟩) (by omega)).k ?_
    rintro x H7 ⟨rfl, rfl⟩
    simp [e8]
    refine ⟨H.set r8 (.cells (boolC u.regs.toNat fun x => anyOf l x || behP u p I k x)), le_set_of ((hle.trans (Le.set_new hr)).put hn8) set_at, r8, hn8, rfl, ?_⟩
    congr 2
    refine boolC_congr fun x _ => ?_
    show _ = endP u p I k x
    simp only [endP, behP, hl, anyOf]
    by_cases h1 : k.en.kind = 1
    · simp [h1]
    · simp [h1, Bool.or_comm]
  | succ m ih =>
    intro t hm ht H
    have htl : t < k.ops.length := by omega
    obtain ⟨o, hoe⟩ : ∃ o, k.ops[t] = o := ⟨_, rfl⟩
    have ho : k.ops[t]? = some o := by rw [List.getElem?_eq_getElem htl, hoe]
    obtain ⟨w1, w2, w3, w4, w5, w6, w7, w8, w9⟩ := wfO_facts (hwo o (List.mem_of_getElem? ho)) f3
    refine CC.shrink ?_
    refine CC.of_cw hX Tryz.func32 rfl rfl (Nat.le_of_ble_eq_true rfl) ?_
    refine CW.walk hX mixed d32 rfl ?_
    simp
    refine CW.walk hX mixed d32 rfl ?_
    simp [d32, refC, unitC, hb, hbe, blkC]
    intro r7 n7
    refine CW.walk hX mixed d32 rfl ?_
    simp
    refine ⟨by omega, by omega, by omega, fun r8 q1 q2 n8 => ?_⟩
    rw [zeroB]
    have n8' : (H.set r7 (.cells (.sl 7 (k.ops.map opC) :: blkT k))) r8 = none := by rw [hset_ne q1]; exact n8
    have c10 : Le H ((H.set r7 (.cells (blkC k))).set r8 (.cells (boolC u.regs.toNat fun _ => false))) := (Le.set_new n7).trans (Le.set_new n8')
    have c12 : ((H.set r7 (.cells (blkC k))).set r8 (.cells (boolC u.regs.toNat fun _ => false))) r8 = some (.cells (boolC u.regs.toNat fun _ => false)) := set_at
    have c13 : ((H.set r7 (.cells (blkC k))).set r8 (.cells (boolC u.regs.toNat fun _ => false))) r7 = some (.cells (blkC k)) := by rw [hset_ne q2]; exact set_at
    simp only [blkC, blkT] at c10 c12 c13
    have htn : ¬ ((t : Int) = k.ops.length) := by omega
    refine CW.walk hX mixed d32 rfl ?_
    simp [q1, q2, htn]
    skip
    generalize hH1 : Hp.set _ r8 _ = H1 at c10 c12 c13 ⊢
    clear hH1
    refine CW.walk hX mixed d32 rfl ?_
    simp [c13, htl, hoe, opC]
    intro r11 n11
    have h811 : r11 ≠ r8 := fun q => by rw [q, c12] at n11; cases n11
    have l11 : Le H1 (H1.set r11 (.cells (opC o))) := Le.set_new n11
    have m11 : (H1.set r11 (.cells (opC o))) r11 = some (.cells (opC o)) := set_at
    simp only [opC] at l11 m11
    generalize H1.set r11 _ = H2 at l11 m11 ⊢
    have c10 := c10.trans l11
    have c12 := l11 _ _ c12
    have c13 := l11 _ _ c13
    refine CW.walk hX mixed d32 rfl ?_
    simp
    obtain ⟨bu, hbu⟩ : ∃ bu : Int, bu = (if uBit o.kind 0 = true ∧ o.guard = -1 then o.dst else -1) := ⟨_, rfl⟩
    have hwr := writes40_c hX o w1 H2
    simp only [opC] at hwr
    refine CW.cut (fun s' H' => (s'.env 0 = .iptr (refC u p I) ∧ s'.env 1 = .int .i64 b ∧ s'.env 2 = .int .i64 t ∧ s'.env 7 = .ptr r7 0 ∧ s'.env 8 = .ref r8 0 u.regs.toNat u.regs.toNat ∧ s'.env 11 = .ptr r11 0 ∧ s'.env 12 = ci bu ∧ s'.ds = []) ∧ H' = H2) ?_ ?_
    · refine CW.walk1 hX mixed d32 rfl ?_
      simp [m11]
      refine hwr.k ?_
      rintro x H3 ⟨rfl, rfl⟩
      by_cases hd : uBit o.kind 0 = true
      · by_cases hg : o.guard = -1
        · simp [hd, m11, hg]
          exact ⟨by simp [hcs], by simp [hbu, hd, hg]⟩
        · simp [hd, m11, hg]
          exact ⟨by simp [hcs], by simp [hbu, hd, hg]⟩
      · simp [hd]
        exact ⟨by simp [hcs], by simp [hbu, hd]⟩
    rintro ⟨en, ds⟩ H3 ⟨⟨e0, e1, e2, e7, e8, e11, e12, rfl⟩, rfl⟩
    dsimp only at e0 e1 e2 e7 e8 e11 e12
    refine CW.walk hX mixed d32 rfl ?_
    simp [e0, e1, e2, e8, e12]
    rw [wrapI (by omega) (by omega)]
    have hih := ih (t + 1) (by omega) (by omega) H3
    refine hih.k ?_
    rintro x H4 ⟨r, hr, rfl, rfl⟩
    have hr8 : r ≠ r8 := fun q => by rw [q, c12] at hr; cases hr
    simp [e8, e12]
    have m8' : (H3.set r (.cells (boolC u.regs.toNat (beforeP u p I k (k.ops.drop (t + 1)))))) r8 = some (.cells (boolC u.regs.toNat fun _ => false)) := by rw [hset_ne (Ne.symm hr8)]; exact c12
    refine (join66_c hX u.regs.toNat r8 _ (beforeP u p I k (k.ops.drop (t + 1))) bu (.ref r 0 u.regs.toNat u.regs.toNat) m8' (.inr ⟨r, _, rfl, set_at, hr8⟩) (by omega)).k ?_
    rintro x H5 ⟨rfl, rfl⟩
    simp
    obtain ⟨S1, hS1⟩ : ∃ S1 : Nat → Bool, S1 = fun x => beforeP u p I k (k.ops.drop (t + 1)) x && !decide ((x : Int) = bu) := ⟨_, rfl⟩
    have l5 : Le H ((H3.set r (.cells (boolC u.regs.toNat (beforeP u p I k (k.ops.drop (t + 1)))))).set r8 (.cells (boolC u.regs.toNat S1))) := (c10.trans (Le.set_new hr)).put n8
    have c12 : ((H3.set r (.cells (boolC u.regs.toNat (beforeP u p I k (k.ops.drop (t + 1)))))).set r8 (.cells (boolC u.regs.toNat S1))) r8 = some (.cells (boolC u.regs.toNat S1)) := set_at
    have hr7 : r7 ≠ r := fun q => by rw [← q, c13] at hr; cases hr
    have hr11 : r11 ≠ r := fun q => by rw [← q, m11] at hr; cases hr
    have c13 : ((H3.set r (.cells (boolC u.regs.toNat (beforeP u p I k (k.ops.drop (t + 1)))))).set r8 (.cells (boolC u.regs.toNat S1))) r7 = some (.cells (blkC k)) := by rw [hset_ne q2, hset_ne hr7]; exact c13
    have m11 : ((H3.set r (.cells (boolC u.regs.toNat (beforeP u p I k (k.ops.drop (t + 1)))))).set r8 (.cells (boolC u.regs.toNat S1))) r11 = some (.cells [ci o.kind, ci o.dst, ci o.a, ci o.b, ci o.c, ci o.n, ci o.guard]) := by rw [hset_ne h811, hset_ne hr11]; exact m11
    rw [← hS1]
    generalize ((H3.set r (.cells (boolC u.regs.toNat (beforeP u p I k (k.ops.drop (t + 1)))))).set r8 (.cells (boolC u.regs.toNat S1))) = H5 at l5 c12 c13 m11 ⊢
    obtain ⟨l, hl⟩ : ∃ l, l = allReads o := ⟨_, rfl⟩
    have hlr : ∀ y ∈ l, 0 ≤ y ∧ y < u.regs := fun y hy => w3 y (by rw [← hl]; exact hy)
    have hll : l.length ≤ 10 := by
      have := reads_len o
      rw [hl]; simp only [allReads]; split <;> simp <;> omega
    refine CW.cut (fun s' H' => ∃ v, bfM H (refC u p I) b t r7 r8 u.regs.toNat (blkC k) S1 s' H' ∧ s'.env 15 = v ∧ SlF H' v l ∧ ∀ o m c, v ≠ .ref r8 o m c) ?_ ?_
    · have hrd := reads68_c hX o w1 H5
      simp only [opC] at hrd
      refine CW.walk1 hX mixed d32 rfl ?_
      simp [e11, m11]
      refine hrd.k ?_
      rintro x H6 ⟨v, rfl, how⟩
      simp
      rw [← hl] at how
      refine ⟨⟨by simp [e0], by simp [e1], by simp [e2], by simp [e7], by simp [e8], rfl, l5.trans how.le, n8, how.le _ _ c12, how.le _ _ c13⟩, how.slF, fun o m c q => ?_⟩
      have := Own.new how q
      rw [c12] at this
      cases this
    clear e0 e1 e2 e7 e8 e11 e12
    rintro ⟨en, ds⟩ H6 ⟨v, ⟨hM⟩, hv, hsl, hvn⟩
    dsimp only at hM hv
    obtain rfl : ds = [] := hM.2.2.2.2.2.1
    refine CW.cut (bfM H (refC u p I) b t r7 r8 u.regs.toNat (blkC k) (fun x => S1 x || anyOf l x)) ?_ ?_
    · refine CW.walk hX mixed d32 rfl ?_
      simp
      refine CW.block ?_
      refine CW.loop (bfL H (refC u p I) b t r7 r8 u.regs.toNat 15 16 (blkC k) v l S1 0) ?_ (m := l.length) ⟨0, 0, by omega, rfl, ⟨by simp [hM.1], by simp [hM.2.1], by simp [hM.2.2.1], by simp [hM.2.2.2.1], by simp [hM.2.2.2.2.1], rfl, hM.2.2.2.2.2.2.1, hM.2.2.2.2.2.2.2.1, by rw [hM.2.2.2.2.2.2.2.2.1]; first | rfl | (congr 2; exact boolC_congr fun x _ => by simp [anyOf]), hM.2.2.2.2.2.2.2.2.2⟩, by simp [hv], by simp, rfl, hsl, hvn⟩
      clear hM hv hsl
      rintro j ⟨en, ds⟩ H5 ⟨i, i', hi, rfl, ⟨e0, e1, e2, e7, e8, rfl, hle, hn8, m8, m7⟩, el, ei, hii, hsl, hvn⟩
      obtain rfl : i = i' := by omega
      dsimp only at e0 e1 e2 e7 e8 el ei
      by_cases hlt : i < l.length
      rotate_left
      · have hil : i = l.length := by omega
        have fin : ∀ en : Env, en 0 = .iptr (refC u p I) → en 1 = .int .i64 b → en 2 = .int .i64 t → en 7 = .ptr r7 0 → en 8 = .ref r8 0 u.regs.toNat u.regs.toNat → bfM H (refC u p I) b t r7 r8 u.regs.toNat (blkC k) (fun x => S1 x || anyOf l x) ⟨en, []⟩ H5 := fun en g0 g1 g2 g7 g8 => ⟨g0, g1, g2, g7, g8, rfl, hle, hn8, by rw [m8, hil, List.take_length], m7⟩
        refine CW.walk hX mixed d32 rfl ?_
        rcases hsl with ⟨rfl, rfl⟩ | ⟨rl, cl, csl, rfl, ml, hcl⟩
        · have : i = 0 := by simpa using hil
          subst this
          simp [el, ei]
          exact fin _ (by simp [e0]) (by simp [e1]) (by simp [e2]) (by simp [e7]) (by simp [e8])
        · simp [el, ei, hlt]
          exact fin _ (by simp [e0]) (by simp [e1]) (by simp [e2]) (by simp [e7]) (by simp [e8])
      rcases hsl with ⟨rfl, rfl⟩ | ⟨rl, cl, csl, rfl, ml, hcl⟩
      · simp at hlt
      obtain ⟨y, hy⟩ : ∃ y, l[i] = y := ⟨_, rfl⟩
      have hy' : l[i]? = some y := by rw [List.getElem?_eq_getElem hlt, hy]
      have hcy := hcl i y hy'
      obtain ⟨y0, y1⟩ := hlr y (List.mem_of_getElem? hy')
      have y2 : y.toNat < u.regs.toNat := by omega
      have hrl : rl ≠ r8 := fun q => hvn 0 l.length (l.length + cl) (by rw [q])
      refine CW.walk hX mixed d32 rfl ?_
      simp [el, ei, hlt]
      refine CW.cut (bfL H (refC u p I) b t r7 r8 u.regs.toNat 15 16 (blkC k) (.ref rl 0 l.length (l.length + cl)) l S1 1 (l.length - (i + 1))) ?_ ?_
      · refine CW.block ?_
        refine CW.walk1 hX mixed d32 rfl ?_
        simp [e8, el, ei, hlt, ml, hcy, y0, y1, y2, m8, boolC_len]
        refine ⟨by omega, by omega, i + 1, i, hlt, rfl, ⟨by simp [e0], by simp [e1], by simp [e2], by simp [e7], by simp [e8], rfl, hle.put hn8, hn8, ?_, ?_⟩, by simp [el], by simp [ei], rfl, .inr ⟨rl, cl, csl, rfl, by rw [hset_ne hrl]; exact ml, hcl⟩, fun o m c q => hvn o m c q⟩
        · rw [set_at, boolC_put _ _ y2]
          congr 2
          refine boolC_congr fun x _ => ?_
          rw [anyOf_take hy']
          by_cases hx : x = y.toNat
          · subst hx; simp
          · have hx2 : (x == y.toNat) = false := by simpa using hx
            simp [hx, hx2]
        · rw [hset_ne q2]; exact m7
      · rintro ⟨en, ds⟩ H6 ⟨i', i2, hi', hj', ⟨g0, g1, g2, g7, g8, rfl, hle', hn8', m8', m7'⟩, gl, gi, hii', hsl', hvn'⟩
        dsimp only at g0 g1 g2 g7 g8 gl gi
        refine CW.walk1 hX mixed d32 rfl ?_
        simp [gi]
        exact ⟨l.length - (i + 1), by omega, i', i', hi', hj', ⟨by simp [g0], by simp [g1], by simp [g2], by simp [g7], by simp [g8], rfl, hle', hn8', m8', m7'⟩, by simp [gl], by simp; rw [wrapI (by omega) (by omega)]; omega, rfl, hsl', hvn'⟩
    clear hM hv hsl
    rintro ⟨en, ds⟩ H5 ⟨e0, e1, e2, e7, e8, rfl, hle, hn8, m8, m7⟩
    dsimp only at e0 e1 e2 e7 e8
    refine CW.walk1 hX mixed d32 rfl ?_
    simp [e0, e1, e2, e8]
    refine (aside69_c hX u hw p I b t k hk o ho H5).k ?_
    rintro x H6 ⟨r, hr, rfl, rfl⟩
    have hr8 : r ≠ r8 := fun q => by rw [q, m8] at hr; cases hr
    simp [e8]
    have m8' : (H5.set r (.cells (boolC u.regs.toNat (asideP u p I k o)))) r8 = some (.cells (boolC u.regs.toNat fun x => S1 x || anyOf l x)) := by rw [hset_ne (Ne.symm hr8)]; exact m8
    refine (join66_c hX u.regs.toNat r8 _ (asideP u p I k o) (-1) (.ref r 0 u.regs.toNat u.regs.toNat) m8' (.inr ⟨r, _, rfl, set_at, hr8⟩) (by omega)).k ?_
    rintro x H7 ⟨rfl, rfl⟩
    simp [e8]
    refine ⟨_, le_set_of ((hle.trans (Le.set_new hr)).put hn8) set_at, r8, hn8, rfl, ?_⟩
    congr 2
    refine boolC_congr fun x hx => ?_
    rw [List.drop_eq_getElem_cons htl, hoe]
    show _ = stepP u p I k o (beforeP u p I k (k.ops.drop (t + 1))) x
    have hb1 : decide ((x : Int) = bu) = (decide (0 ≤ writeOf o) && decide (o.guard = -1) && x == (writeOf o).toNat) := by
      rw [hbu]
      simp only [writeOf]
      by_cases hd : uBit o.kind 0 = true
      · have := w4 hd
        by_cases hg : o.guard = -1
        · rw [Bool.eq_iff_iff]; simp [hd, hg] <;> omega
        · rw [Bool.eq_iff_iff]; simp [hd, hg] <;> omega
      · rw [Bool.eq_iff_iff]; simp [hd] <;> omega
    simp only [stepP, asideP, hS1, hb1, hl, anyOf]
    generalize (beforeP u p I k (k.ops.drop (t + 1)) x && !(decide (0 ≤ writeOf o) && decide (o.guard = -1) && x == (writeOf o).toNat)) = a1
    generalize ((allReads o).any fun y => x == y.toNat) = a2
    generalize (decide (o.kind = 21) && I o.n.toNat x) = a3
    generalize (mayTrap p o && catchP u I k x) = a4
    cases a1 <;> cases a2 <;> cases a3 <;> cases a4 <;> rfl
end Go.Cl
