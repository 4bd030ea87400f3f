/- DERIVED HERE. The reference's Throws. -/
import Derived.Test.YtfkdjajpopocpaaDoorRO
set_option linter.unusedSimpArgs false
set_option linter.unusedVariables false
namespace Go.Cl
open Go.Proofs Dd
variable {W : World} {G : Nat → CV}
set_option maxRecDepth 8000
set_option maxHeartbeats 4000000
/-- Frozen: the poison as it lies. -/
theorem mayEnd_h (hX : CxOk (cx W G)) (e : UEnd) (n rr : Nat) (p : Nat → Bool) (hk : 1 ≤ e.kind ∧ e.kind ≤ 4) (ha : e.kind ≠ 1 → 0 ≤ e.a ∧ e.a < n) {H : Hp} (hr : H rr = some (.cells (boolC n p))) : CC Tryd.prog W 62 [.agg (endC e), .ref rr 0 n n] H fun x H' => x = .ret (.bool (mayEnd p e)) ∧ H' = H := by
  refine (CC.freeze (args' := [.agg (endC e), .sl 1 (boolS n p)]) (R := fun v => v = .bool (mayEnd p e)) (by rfl) ?_ ?_ ?_).mono ?_
  · intro j x y hx hy
    rcases j with _|_|j
    · simp at hx hy; subst hx; subst hy; exact .same _
    · simp at hx hy; subst hx; subst hy; exact fz_bool hr (Nat.le_refl _)
    · simp at hx
  · rintro v rfl; simp [plainV]
  · intro w hw
    exact (mayEnd62_c (W := w) (CxOk.later hX hw) e n p hk ha _).mono fun x H' ⟨h1, _⟩ => ⟨_, h1, rfl⟩
  · rintro x H2 ⟨v, rfl, rfl, rfl⟩
    exact ⟨rfl, rfl⟩
theorem may_h (hX : CxOk (cx W G)) (o : UOp) (n rr : Nat) (p : Nat → Bool) (hg : o.guard ≠ -1 → 0 ≤ o.guard ∧ o.guard < n) (ha : o.kind = 20 ∨ o.kind = 21 ∨ o.kind = 22 → 0 ≤ o.a ∧ o.a < n) {H : Hp} (hr : H rr = some (.cells (boolC n p))) : CC Tryd.prog W 63 [.agg (opC o), .ref rr 0 n n] H fun x H' => x = .ret (.bool (mayTrap p o)) ∧ H' = H := by
  refine (CC.freeze (args' := [.agg (opC o), .sl 1 (boolS n p)]) (R := fun v => v = .bool (mayTrap p o)) (by rfl) ?_ ?_ ?_).mono ?_
  · intro j x y hx hy
    rcases j with _|_|j
    · simp at hx hy; subst hx; subst hy; exact .same _
    · simp at hx hy; subst hx; subst hy; exact fz_bool hr (Nat.le_refl _)
    · simp at hx
  · rintro v rfl; simp [plainV]
  · intro w hw
    exact (may63_c (W := w) (CxOk.later hX hw) o n p _ hg ha).mono fun x H' ⟨h1, _⟩ => ⟨_, h1, rfl⟩
  · rintro x H2 ⟨v, rfl, rfl, rfl⟩
    exact ⟨rfl, rfl⟩
def throwsB (p : Nat → Bool) (k : UBlk) : Bool := mayEnd p k.en || k.ops.any (mayTrap p)
def thrL (p : Nat → Bool) (l : List UBlk) : List (List CV) := l.map fun k => [.bool (throwsB p k)]
structure thI (H H1 : Hp) (u : UUnit) (p : Nat → Bool) (q1 rr : Nat) (d : Nat) (j : Nat) (s' : CA) (H' : Hp) : Prop where
  ex : ∃ (i i5 : Nat) (v : CV), i ≤ u.blocks.length ∧ j = u.blocks.length - i ∧ s'.env 1 = .ptr q1 0 ∧ s'.env 3 = .ref rr 0 u.regs.toNat u.regs.toNat ∧ s'.env 4 = v ∧ s'.env 5 = .int .i64 i5 ∧ i5 + d = i ∧ s'.ds = [] ∧ Own H1 H' v 1 (thrL p (u.blocks.take i))
structure thE (H H1 : Hp) (u : UUnit) (p : Nat → Bool) (s' : CA) (H' : Hp) : Prop where
  ex : ∃ (v : CV), s'.env 4 = v ∧ s'.ds = [] ∧ Own H1 H' v 1 (thrL p u.blocks)
structure thX (q1 rr n r6 i : Nat) (v : CV) (b : Bool) (H6 : Hp) (s' : CA) (H' : Hp) : Prop where
  ex : s'.env 1 = .ptr q1 0 ∧ s'.env 3 = .ref rr 0 n n ∧ s'.env 4 = v ∧ s'.env 5 = .int .i64 i ∧ s'.env 6 = .ptr r6 0 ∧ s'.env 7 = .bool b ∧ s'.ds = [] ∧ H' = H6
structure thY (q1 rr n r6 i : Nat) (v : CV) (p : Nat → Bool) (k : UBlk) (H6 : Hp) (d : Nat) (j : Nat) (s' : CA) (H' : Hp) : Prop where
  ex : ∃ t t8 : Nat, t ≤ k.ops.length ∧ j = k.ops.length - t ∧ thX q1 rr n r6 i v (mayEnd p k.en || (k.ops.take t).any (mayTrap p)) H6 s' H' ∧ s'.env 8 = .int .i64 t8 ∧ t8 + d = t
structure ThR (H : Hp) (u : UUnit) (x : CE) (H' : Hp) : Prop where
  ex : ∃ v p c H1, x = .ret v ∧ Le H H1 ∧ PLeast (opsOf u) p c ∧ Own H1 H' v 1 (thrL p u.blocks)
theorem throws39_c (hX : CxOk (cx W G)) (u : UUnit) (hu : wfU u = true) (H : Hp) : CC Tryd.prog W 39 [.agg (unitC u)] H (ThR H u) := by
  obtain ⟨f1, f2, f3, f4, f5, f6, f7, f8, f9, f10, f11⟩ := wfU_facts hu
  refine CC.of_cw hX Tryd.func39 rfl rfl (Nat.le_of_ble_eq_true rfl) ?_
  refine CW.walk hX mixed d39 rfl ?_
  simp
  intro q1 hq1
  refine CW.walk hX mixed d39 rfl ?_
  simp [unitC]
  refine (poisons61_c hX u hu _).k ?_
  rintro x H1 ⟨p, c, rr, rfl, hrp, hr, hle, hpl⟩
  simp
  have hH1 : Le H H1 := (Le.set_new hq1).trans hle
  have h11 : H1 q1 = some (.cells (unitC u)) := hle q1 _ (by simp [unitC])
  clear hle hrp hq1
  refine CW.walk hX mixed d39 rfl ?_
  simp
  refine CW.cut (thE H H1 u p) ?_ ?_
  · refine CW.walk hX mixed d39 rfl ?_
    simp
    refine CW.block ?_
    refine CW.loop (thI H H1 u p q1 rr 0) ?_ (m := u.blocks.length) ⟨0, 0, .nilsl, by omega, rfl, by simp, by simp, by simp, by simp, rfl, rfl, Own.nil (Le.refl _)⟩
    rintro j ⟨e, ds⟩ H2 ⟨i, i5, v, hi, rfl, e1, e3, e4, e5, hd, rfl, hown⟩
    obtain rfl : i5 = i := by omega
    dsimp only at e1 e3 e4 e5
    have m1 := hown.le _ _ h11
    have mr := hown.le _ _ hr
    simp only [unitC] at m1
    by_cases hil : i5 < u.blocks.length
    rotate_left
    · refine CW.walk hX mixed d39 rfl ?_
      simp [e1, e5, m1, hil]
      have : i5 = u.blocks.length := by omega
      subst this
      rw [List.take_length] at hown
      exact ⟨v, by simp [e4], rfl, hown⟩
    obtain ⟨k, hke⟩ : ∃ k, u.blocks[i5] = k := ⟨_, rfl⟩
    have hk : u.blocks[i5]? = some k := by rw [List.getElem?_eq_getElem hil, hke]
    obtain ⟨hct, hlen, hwo, hwe⟩ := wfB_facts hu hk
    obtain ⟨g1, g2, g3, g4, g5⟩ := wfE_facts hwe
    refine CW.walk hX mixed d39 rfl ?_
    simp [e1, e5, m1, hil]
    refine CW.cut (thI H H1 u p q1 rr 1 (u.blocks.length - (i5 + 1))) ?_ ?_
    · refine CW.block ?_
      refine CW.walk hX mixed d39 rfl ?_
      simp [e1, e5, m1, hil, hke, blkC]
      intro r6 hr6
      have hl6 : Le H2 (H2.set r6 (.cells (blkC k))) := Le.set_new hr6
      have m6 : (H2.set r6 (.cells (blkC k))) r6 = some (.cells (blkC k)) := set_at
      have hown6 := hown.mono hl6
      simp only [blkC, blkT] at hl6 m6 hown6
      have mr6 := hl6 _ _ mr
      generalize H2.set r6 _ = H3 at hl6 m6 mr6 hown6 ⊢
      have hme := mayEnd_h hX k.en u.regs.toNat rr p ⟨g1, g2⟩ (fun q => by have := g3 q; omega) mr6
      simp only [endC] at hme
      refine CW.walk hX mixed d39 rfl ?_
      simp [e3, m6]
      refine hme.k ?_
      rintro x H4 ⟨rfl, rfl⟩
      simp
      refine CW.cut (thX q1 rr u.regs.toNat r6 i5 v (throwsB p k) H4) ?_ ?_
      · refine CW.walk hX mixed d39 rfl ?_
        simp
        refine CW.block ?_
        refine CW.loop (thY q1 rr u.regs.toNat r6 i5 v p k H4 0) ?_ (m := k.ops.length) ⟨0, 0, by omega, rfl, ⟨by simp [e1], by simp [e3], by simp [e4], by simp [e5], by simp, by simp, rfl, rfl⟩, by simp, rfl⟩
        clear e1 e3 e4 e5
        rintro j ⟨e, ds⟩ H5 ⟨t, t', ht, rfl, ⟨e1, e3, e4, e5, e6, e7, rfl, rfl⟩, e8, htt⟩
        obtain rfl : t' = t := by omega
        dsimp only at e1 e3 e4 e5 e6 e7 e8
        by_cases htl : t' < k.ops.length
        rotate_left
        · have htt : t' = k.ops.length := by omega
          rw [htt, List.take_length] at e7
          refine CW.walk hX mixed d39 rfl ?_
          simp [e6, e8, m6, htl]
          exact ⟨by simp [e1], by simp [e3], by simp [e4], by simp [e5], by simp [e6], by simp [e7, throwsB], rfl, rfl⟩
        obtain ⟨o, hoe⟩ : ∃ o, k.ops[t'] = o := ⟨_, rfl⟩
        have ho : k.ops[t']? = some o := by rw [List.getElem?_eq_getElem htl, hoe]
        obtain ⟨w1, w2, w3, w4, w5, w6, w7, w8, w9⟩ := wfO_facts (hwo o (List.mem_of_getElem? ho)) f3
        refine CW.walk hX mixed d39 rfl ?_
        simp [e6, e8, m6, htl]
        have htk : (k.ops.take (t' + 1)).any (mayTrap p) = ((k.ops.take t').any (mayTrap p) || mayTrap p o) := by rw [List.take_add_one, ho, List.any_append]; simp
        refine CW.cut (thY q1 rr u.regs.toNat r6 i5 v p k H5 1 (k.ops.length - (t' + 1))) ?_ ?_
        · refine CW.block ?_
          refine CW.walk1 hX mixed d39 rfl ?_
          cases hx7 : (mayEnd p k.en || (k.ops.take t').any (mayTrap p)) with
          | true =>
            rw [hx7] at e7
            simp [d39, e7]
            exact ⟨t' + 1, t', htl, rfl, ⟨by simp [e1], by simp [e3], by simp [e4], by simp [e5], by simp [e6], by simp [htk, ← Bool.or_assoc, hx7], rfl, rfl⟩, by simp [e8], rfl⟩
          | false =>
            rw [hx7] at e7
            have hmt := may_h hX o u.regs.toNat rr p (fun q => by have := w5 q; omega) (fun q => by have := w8 q; omega) mr6
            simp only [opC] at hmt
            simp [d39, e3, e6, e7, e8, m6, htl, hoe, opC]
            refine hmt.k ?_
            rintro x H6 ⟨rfl, rfl⟩
            simp [d39]
            exact ⟨t' + 1, t', htl, rfl, ⟨by simp [e1], by simp [e3], by simp [e4], by simp [e5], by simp [e6], by simp [htk, ← Bool.or_assoc, hx7], rfl, rfl⟩, by simp [e8], rfl⟩
        · rintro ⟨e, ds⟩ H6 ⟨t2, t3, ht2, hj2, ⟨g1, g3, g4, g5, g6, g7, rfl, rfl⟩, g8, htt2⟩
          dsimp only at g1 g3 g4 g5 g6 g7 g8
          refine CW.walk1 hX mixed d39 rfl ?_
          simp [g8]
          exact ⟨k.ops.length - (t' + 1), by omega, t2, t2, ht2, hj2, ⟨by simp [g1], by simp [g3], by simp [g4], by simp [g5], by simp [g6], by simp [g7], rfl, rfl⟩, by simp; rw [wrapI (by omega) (by omega)]; omega, rfl⟩
      · clear e1 e3 e4 e5
        rintro ⟨e, ds⟩ H5 ⟨e1, e3, e4, e5, e6, e7, rfl, rfl⟩
        dsimp only at e1 e3 e4 e5 e6 e7
        refine CW.walk1 hX mixed d39 rfl ?_
        simp [e4, e7, cfill, -vcAppend]
        intro q hq
        refine (hown6.more (r := q) (o := .cells [.bool (throwsB p k)]) hq).append (ys := [[.bool (throwsB p k)]]) (by simp) (by simp [thrL]; omega) (src_one set_at rfl) fun v' H6 how6 _ => ?_
        have hnew : thrL p (u.blocks.take i5) ++ [[CV.bool (throwsB p k)]] = thrL p (u.blocks.take (i5 + 1)) := by rw [List.take_add_one, hk]; simp [thrL]
        rw [hnew] at how6
        simp
        exact ⟨i5 + 1, i5, v', hil, rfl, by simp [e1], by simp [e3], by simp, by simp [e5], rfl, rfl, how6⟩
    · rintro ⟨en, ds⟩ H3 ⟨i', i5', v', hi', hj', g1, g3, g4, g5, hd', rfl, hown'⟩
      dsimp only at g1 g3 g4 g5
      refine CW.walk1 hX mixed d39 rfl ?_
      simp [g5]
      exact ⟨u.blocks.length - (i5 + 1), by omega, i', i', v', hi', hj', by simp [g1], by simp [g3], by simp [g4], by simp; rw [wrapI (by omega) (by omega)]; omega, rfl, rfl, hown'⟩
  rintro ⟨e, ds⟩ H2 ⟨v, e4, rfl, hown⟩
  dsimp only at e4
  refine CW.walk1 hX mixed d39 rfl ?_
  simp [e4]
  exact ⟨v, p, c, H1, rfl, hH1, hpl, hown⟩
end Go.Cl
