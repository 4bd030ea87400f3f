/- DERIVED HERE. The reference's Apart. -/
import Derived.Test.YtfkdjajpopocpaaDoorRApP
set_option linter.unusedSimpArgs false
set_option linter.unusedVariables false
namespace Go.Cl
open Go.Proofs Dd
variable {W : World} {G : Nat → CV}
set_option maxRecDepth 8000
set_option maxHeartbeats 4000000
structure apM (H2 : Hp) (a b : Int) (q3 lp : Nat) (v : CV) (s' : CA) (H' : Hp) : Prop where
  ex : s'.env 1 = ci a ∧ s'.env 2 = ci b ∧ s'.env 3 = .ptr q3 0 ∧ s'.env 7 = .ptr lp 0 ∧ s'.env 8 = v ∧ s'.ds = [] ∧ Le H2 H'
structure apI (H2 : Hp) (u : UUnit) (p : Nat → Bool) (I : Nat → Nat → Bool) (a b : Int) (q3 lp : Nat) (v : CV) (d : Nat) (j : Nat) (s' : CA) (H' : Hp) : Prop where
  ex : ∃ i i9 : Nat, i ≤ u.blocks.length ∧ j = u.blocks.length - i ∧ apM H2 a b q3 lp v s' H' ∧ s'.env 9 = .int .i64 i9 ∧ i9 + d = i ∧ ∀ k ∈ u.blocks.take i, blkBad u p I a b k = false
structure apE (u : UUnit) (p : Nat → Bool) (I : Nat → Nat → Bool) (a b : Int) (H2 : Hp) (s' : CA) (H' : Hp) : Prop where
  ex : s'.ds = [] ∧ Le H2 H' ∧ ∀ k ∈ u.blocks, blkBad u p I a b k = false
structure apF (H2 : Hp) (u : UUnit) (p : Nat → Bool) (I : Nat → Nat → Bool) (a b : Int) (q3 lp : Nat) (v : CV) (k : UBlk) (i : Nat) (s' : CA) (H' : Hp) : Prop where
  ex : apM H2 a b q3 lp v s' H' ∧ s'.env 9 = .int .i64 i ∧ ∀ t, t < k.ops.length → opBadAt u p I k a b t = false
structure apK (H2 : Hp) (u : UUnit) (p : Nat → Bool) (I : Nat → Nat → Bool) (a b : Int) (q3 lp : Nat) (v : CV) (k : UBlk) (i : Nat) (d : Nat) (j : Nat) (s' : CA) (H' : Hp) : Prop where
  ex : ∃ t t11 : Nat, t ≤ k.ops.length ∧ j = k.ops.length - t ∧ apM H2 a b q3 lp v s' H' ∧ s'.env 9 = .int .i64 i ∧ s'.env 10 = .sl 7 (k.ops.map opC) ∧ s'.env 11 = .int .i64 t11 ∧ t11 + d = t ∧ ∀ t', t' < t → opBadAt u p I k a b t' = false
structure apG (H2 : Hp) (a b : Int) (q3 lp : Nat) (v : CV) (k : UBlk) (i t sl : Nat) (y : Int) (H6 : Hp) (s' : CA) (H' : Hp) : Prop where
  ex : apM H2 a b q3 lp v s' H' ∧ s'.env 9 = .int .i64 i ∧ s'.env 10 = .sl 7 (k.ops.map opC) ∧ s'.env 11 = .int .i64 t ∧ s'.env sl = ci y ∧ H' = H6
structure apH (H2 : Hp) (a b : Int) (q3 lp : Nat) (v : CV) (k : UBlk) (i t : Nat) (y : Int) (cp : Bool) (H6 : Hp) (s' : CA) (H' : Hp) : Prop where
  ex : apM H2 a b q3 lp v s' H' ∧ s'.env 9 = .int .i64 i ∧ s'.env 10 = .sl 7 (k.ops.map opC) ∧ s'.env 11 = .int .i64 t ∧ s'.env 14 = ci y ∧ s'.env 15 = .bool cp ∧ H' = H6
structure ApR (H : Hp) (u : UUnit) (a b : Int) (x : CE) (H' : Hp) : Prop where
  ex : ∃ p c I, x = .ret (.bool (apartP u p I a b)) ∧ Le H H' ∧ PLeast (opsOf u) p c ∧ LLeast u p I
theorem rapart25_c (hX : CxOk (cx W G)) (u : UUnit) (hu : wfU u = true) (a b : Int) (ha : 0 ≤ a ∧ a < u.regs) (hb : 0 ≤ b ∧ b < u.regs) (hab : a ≠ b) (H : Hp) : CC Tryd.prog W 25 [.agg (unitC u), ci a, ci b] H (ApR H u a b) := by
  obtain ⟨f1, f2, f3, f4, f5, f6, f7, f8, f9, f10, f11⟩ := wfU_facts hu
  have ha' : a.toNat < u.regs.toNat := by omega
  have hb' : b.toNat < u.regs.toNat := by omega
  refine CC.of_cw hX Tryd.func25 rfl rfl (Nat.le_of_ble_eq_true rfl) ?_
  refine CW.walk hX mixed d25 rfl ?_
  simp
  intro q3 hq3
  refine CW.walk hX mixed d25 rfl ?_
  simp [unitC]
  refine (of38_c hX u hu _).k ?_
  rintro x H1 ⟨lp, rp, ri, cci, σ, ex, p, c, I, rfl, hle, hpl, hll, hbnd, hL⟩
  simp
  have h13 : H1 q3 = some (.cells (unitC u)) := hle q3 _ (by simp [unitC])
  have hH1 : Le H H1 := (Le.set_new hq3).trans hle
  have h13' := h13
  simp only [unitC] at h13'
  refine CW.walk hX mixed d25 rfl ?_
  simp [h13']
  have hth := throws39_c hX u hu H1
  simp only [unitC] at hth
  refine hth.k ?_
  rintro x H2 ⟨v, p', c', H1', rfl, hle1, hpl', hown⟩
  obtain ⟨rfl, rfl⟩ := hpl.unique hpl'
  simp
  have hle2 : Le H1 H2 := hle1.trans hown.le
  have h23 := hle2 _ _ h13
  have hL2 := hL.mono hle2
  have hH2 := hH1.trans hle2
  obtain ⟨rt, ct, ext, rfl, hrt⟩ : ∃ rt ct ext, v = .ref rt 0 u.blocks.length ct ∧ H2 rt = some (.cells ((thrL p u.blocks).flatten ++ ext)) := by
    obtain ⟨_, _, ⟨_, hx⟩ | ⟨q, c, ex, rfl, h1, h2, _, h4⟩⟩ := hown
    · have := congrArg List.length hx
      simp [thrL] at this
      rw [this] at f7
      simp at f7
    · exact ⟨q, c, ex, by simp [thrL], h2⟩
  have hthr : ∀ i k, u.blocks[i]? = some k → ((thrL p u.blocks).flatten ++ ext)[i]? = some (CV.bool (throwsB p k)) := fun i k hk => by
    have hil := (List.getElem?_eq_some_iff.1 hk).1
    have hx : ∀ e ∈ thrL p u.blocks, e.length = 1 := by simp [thrL]
    rw [List.getElem?_append_left (by rw [flat_len hx]; simp [thrL]; exact hil)]
    have := flat_get hx (i := i) (j := 0) (e := [CV.bool (throwsB p k)]) (by simp [thrL, hk]) (by omega)
    simpa using this
  clear hown hpl' hth hle1 hle2 h13 h13' hle hL hq3 hH1
  have hset : ∀ H', Le H2 H' → LR H' lp rp ri cci σ ex u p I := fun H' h => hL2.mono h
  have h0 : ∀ y, y < u.regs.toNat → ∀ b, b < u.blocks.length → (boolC u.regs.toNat (I b))[y]? = some (.bool (I b y)) := fun y hy b _ => boolC_get hy
  have hget : ∀ b, b < u.blocks.length → (refsC u.blocks.length u.regs.toNat σ ++ ex)[b]? = some (.ref (σ b) 0 u.regs.toNat u.regs.toNat) := fun b hbl => by rw [List.getElem?_append_left (by rw [refsC_len]; exact hbl), refsC_get hbl]
  have m23 := h23
  have ml := hL2.l
  have mi := hL2.i
  have ms0 := hL2.s 0 (by omega)
  have hg0 := hget 0 (by omega)
  simp only [unitC] at m23 ml
  refine CW.cut (fun s' H' => (I 0 a.toNat && I 0 b.toNat) = false ∧ apM H2 a b q3 lp (.ref rt 0 u.blocks.length ct) s' H') ?_ ?_
  · refine CW.walk1 hX mixed d25 rfl ?_
    have hn0 : 0 < u.blocks.length := by omega
    have hma : a < max u.regs 0 := by omega
    have hmb : b < max u.regs 0 := by omega
    have xa : (boolC u.regs.toNat (I 0))[a.toNat]? = some (CV.bool (I 0 a.toNat)) := boolC_get ha'
    have xb : (boolC u.regs.toNat (I 0))[b.toNat]? = some (CV.bool (I 0 b.toNat)) := boolC_get hb'
    have fin : ∀ en : Env, (I 0 a.toNat && I 0 b.toNat) = false → en 1 = ci a → en 2 = ci b → en 3 = .ptr q3 0 → en 7 = .ptr lp 0 → en 8 = .ref rt 0 u.blocks.length ct → apM H2 a b q3 lp (.ref rt 0 u.blocks.length ct) ⟨en, []⟩ H2 := fun en _ h1 h2 h3 h7 h8 => ⟨h1, h2, h3, h7, h8, rfl, Le.refl _⟩
    have hna : max a 0 < u.regs := by omega
    have hnb : max b 0 < u.regs := by omega
    cases hia : I 0 a.toNat with
    | false =>
      simp [d25, ml, mi, ms0, hg0, ha.1, hn0, hma, hna, xa, hia]
      exact ⟨by simp, by simp, by simp, by simp, by simp, rfl, Le.refl _⟩
    | true =>
      cases hib : I 0 b.toNat with
      | false =>
        simp [d25, ml, mi, ms0, hg0, ha.1, hb.1, hn0, hma, hmb, hna, hnb, xa, xb, hia, hib]
        exact ⟨by simp, by simp, by simp, by simp, by simp, rfl, Le.refl _⟩
      | true =>
        simp [d25, ml, mi, ms0, hg0, ha.1, hb.1, hn0, hma, hmb, hna, hnb, xa, xb, hia, hib]
        exact ⟨p, c, I, by rw [apart_entry (by rw [hia, hib]; rfl)], hH2, hpl, hll⟩
  clear hg0 ms0
  rintro ⟨e, ds⟩ H3 ⟨hent, e1, e2, e3, e7, e8, rfl, hle3⟩
  dsimp only at e1 e2 e3 e7 e8
  refine CW.cut (apE u p I a b H2) ?_ ?_
  · refine CW.walk hX mixed d25 rfl ?_
    simp
    refine CW.block ?_
    refine CW.loop (apI H2 u p I a b q3 lp (.ref rt 0 u.blocks.length ct) 0) ?_ (m := u.blocks.length) ⟨0, 0, by omega, rfl, ⟨by simp [e1], by simp [e2], by simp [e3], by simp [e7], by simp [e8], rfl, hle3⟩, by simp, rfl, by simp⟩
    clear e1 e2 e3 e7 e8 hle3
    rintro j ⟨e, ds⟩ H4 ⟨i, i9, hi, rfl, ⟨e1, e2, e3, e7, e8, rfl, hle4⟩, e9, hd, hbad⟩
    obtain rfl : i9 = i := by omega
    dsimp only at e1 e2 e3 e7 e8 e9
    have m3 := hle4 _ _ m23
    by_cases hil : i9 < u.blocks.length
    rotate_left
    · refine CW.walk hX mixed d25 rfl ?_
      simp [e3, e9, m3, hil]
      have : i9 = u.blocks.length := by omega
      subst this
      rw [List.take_length] at hbad
      exact ⟨rfl, hle4, hbad⟩
    obtain ⟨k, hke⟩ : ∃ k, u.blocks[i9] = k := ⟨_, rfl⟩
    have hk : u.blocks[i9]? = some k := by rw [List.getElem?_eq_getElem hil, hke]
    have hkm := List.mem_of_getElem? hk
    obtain ⟨hct, hlen, hwo, hwe⟩ := wfB_facts hu hk
    have htrue : apartP u p I a b = false → ∀ H', Le H2 H' → ApR H u a b (.ret (.bool false)) H' := fun h H' hl => ⟨p, c, I, by rw [h], hH2.trans hl, hpl, hll⟩
    refine CW.walk hX mixed d25 rfl ?_
    simp [e3, e9, m3, hil]
    refine CW.cut (apI H2 u p I a b q3 lp (.ref rt 0 u.blocks.length ct) 1 (u.blocks.length - (i9 + 1))) ?_ ?_
    · refine CW.block ?_
      refine CW.walk hX mixed d25 rfl ?_
      simp [e3, e9, m3, hil, hke, blkC]
      refine CW.cut (apF H2 u p I a b q3 lp (.ref rt 0 u.blocks.length ct) k i9) ?_ ?_
      · refine CW.walk hX mixed d25 rfl ?_
        simp
        refine CW.block ?_
        refine CW.loop (apK H2 u p I a b q3 lp (.ref rt 0 u.blocks.length ct) k i9 0) ?_ (m := k.ops.length) ⟨0, 0, by omega, rfl, ⟨by simp [e1], by simp [e2], by simp [e3], by simp [e7], by simp [e8], rfl, hle4⟩, by simp [e9], by simp, by simp, rfl, fun t' h => absurd h (by omega)⟩
        clear e1 e2 e3 e7 e8 e9
        clear m3 hle4
        rintro j ⟨e, ds⟩ H5 ⟨t, t11, ht, rfl, ⟨e1, e2, e3, e7, e8, rfl, hle5⟩, e9, e10, e11, htt, hbt⟩
        obtain rfl : t11 = t := by omega
        dsimp only at e1 e2 e3 e7 e8 e9 e10 e11
        have m3 := hle5 _ _ m23
        by_cases htl : t11 < k.ops.length
        rotate_left
        · have htt : t11 = k.ops.length := by omega
          subst htt
          refine CW.walk hX mixed d25 rfl ?_
          simp [e10, e11, htl]
          exact ⟨⟨by simp [e1], by simp [e2], by simp [e3], by simp [e7], by simp [e8], rfl, hle5⟩, by simp [e9], hbt⟩
        obtain ⟨o, hoe⟩ : ∃ o, k.ops[t11] = o := ⟨_, rfl⟩
        have ho : k.ops[t11]? = some o := by rw [List.getElem?_eq_getElem htl, hoe]
        have w1 := (wfO_facts (hwo o (List.mem_of_getElem? ho)) f3).1
        refine CW.walk hX mixed d25 rfl ?_
        simp [e10, e11, htl]
        have hnx : ∀ b, opBadAt u p I k a b t11 = false → (∀ t', t' < t11 → opBadAt u p I k a b t' = false) → ∀ t', t' < t11 + 1 → opBadAt u p I k a b t' = false := fun b h1 h2 t' h => by
          by_cases h3 : t' = t11
          · subst h3; exact h1
          · exact h2 t' (by omega)
        refine CW.cut (apK H2 u p I a b q3 lp (.ref rt 0 u.blocks.length ct) k i9 1 (k.ops.length - (t11 + 1))) ?_ ?_
        · refine CW.block ?_
          have hwr := writes40_c hX o w1 H5
          simp only [opC] at hwr
          refine CW.walk hX mixed d25 rfl ?_
          simp [e10, e11, htl, hoe, opC]
          refine hwr.k ?_
          rintro x H6 ⟨rfl, rfl⟩
          simp
          have skip : ∀ en : Env, opBad (beforeP u p I k (k.ops.drop (t11 + 1))) o a b = false → en 1 = ci a → en 2 = ci b → en 3 = .ptr q3 0 → en 7 = .ptr lp 0 → en 8 = .ref rt 0 u.blocks.length ct → en 9 = .int .i64 i9 → en 10 = .sl 7 (k.ops.map opC) → en 11 = .int .i64 t11 → ∀ H', Le H2 H' → apK H2 u p I a b q3 lp (.ref rt 0 u.blocks.length ct) k i9 1 (k.ops.length - (t11 + 1)) ⟨en, []⟩ H' := fun en h g1 g2 g3 g7 g8 g9 g10 g11 H' hl =>
            ⟨t11 + 1, t11, htl, rfl, ⟨g1, g2, g3, g7, g8, rfl, hl⟩, g9, g10, g11, rfl, hnx b (by rw [opBadAt_of ho]; exact h) hbt⟩
          cases hub : uBit o.kind 0 with
          | false =>
            refine CW.walk hX mixed d25 rfl ?_
            simp [d25, e1, e2]
            exact skip _ (opBad_no hub) (by simp [e1]) (by simp [e2]) (by simp [e3]) (by simp [e7]) (by simp [e8]) (by simp [e9]) (by simp [e10]) (by simp [e11]) _ hle5
          | true =>
          by_cases hno : o.dst ≠ a ∧ o.dst ≠ b
          · refine CW.walk hX mixed d25 rfl ?_
            simp [d25, e1, e2, hno.1, hno.2]
            exact skip _ (opBad_ne hno.1 hno.2) (by simp [e1]) (by simp [e2]) (by simp [e3]) (by simp [e7]) (by simp [e8]) (by simp [e9]) (by simp [e10]) (by simp [e11]) _ hle5
          obtain ⟨y, hy, hyr, hyb⟩ : ∃ y : Int, ((o.dst = a ∧ y = b) ∨ (o.dst = b ∧ y = a)) ∧ (0 ≤ y ∧ y < u.regs) ∧ ∀ S, opBad S o a b = (S y.toNat && !(decide (o.kind = 2) && decide (o.a = y) && decide (o.guard = -1))) := by
            by_cases h : o.dst = a
            · exact ⟨b, .inl ⟨h, rfl⟩, hb, fun S => opBad_l hub h hab⟩
            · have h2 : o.dst = b := Classical.byContradiction fun q => hno ⟨h, q⟩
              exact ⟨a, .inr ⟨h2, rfl⟩, ha, fun S => opBad_r hub h2 hab⟩
          have hyn : y.toNat < u.regs.toNat := by omega
          refine CW.cut (apG H2 a b q3 lp (.ref rt 0 u.blocks.length ct) k i9 t11 12 o.dst H6) ?_ ?_
          · refine CW.walk1 hX mixed d25 rfl ?_
            rcases hy with ⟨hd, _⟩ | ⟨hd, _⟩
            · simp [d25, e1, e2, hd]
              exact ⟨⟨by simp [e1], by simp [e2], by simp [e3], by simp [e7], by simp [e8], rfl, hle5⟩, by simp [e9], by simp [e10], by simp [e11], by simp, rfl⟩
            · have hba : ¬ b = a := fun q => hab q.symm
              simp [d25, e1, e2, hd, hba]
              exact ⟨⟨by simp [e1], by simp [e2], by simp [e3], by simp [e7], by simp [e8], rfl, hle5⟩, by simp [e9], by simp [e10], by simp [e11], by simp, rfl⟩
          clear e1 e2 e3 e7 e8 e9 e10 e11
          rintro ⟨e, ds⟩ H5 ⟨⟨e1, e2, e3, e7, e8, rfl, hle5⟩, e9, e10, e11, e12, rfl⟩
          dsimp only at e1 e2 e3 e7 e8 e9 e10 e11 e12
          refine CW.cut (apG H2 a b q3 lp (.ref rt 0 u.blocks.length ct) k i9 t11 14 y H5) ?_ ?_
          · refine CW.walk1 hX mixed d25 rfl ?_
            simp [e1, e2, e12]
            refine ⟨⟨by simp [e1], by simp [e2], by simp [e3], by simp [e7], by simp [e8], rfl, hle5⟩, by simp [e9], by simp [e10], by simp [e11], ?_, rfl⟩
            have hsum : a + b - o.dst = y := by omega
            have z1 : IntKind.i64.wrap (a + b) = a + b := wrapI (by omega) (by omega)
            have z2 : IntKind.i64.wrap (a + b - o.dst) = y := by rw [hsum]; exact wrapI (by omega) (by omega)
            simp [z1, z2]
          clear e1 e2 e3 e7 e8 e9 e10 e11 e12
          rintro ⟨e, ds⟩ H5 ⟨⟨e1, e2, e3, e7, e8, rfl, hle5⟩, e9, e10, e11, e14, rfl⟩
          dsimp only at e1 e2 e3 e7 e8 e9 e10 e11 e14
          obtain ⟨cp, hcp⟩ : ∃ cp, cp = (decide (o.kind = 2) && decide (o.a = y) && decide (o.guard = -1)) := ⟨_, rfl⟩
          refine CW.cut (apH H2 a b q3 lp (.ref rt 0 u.blocks.length ct) k i9 t11 y cp H5) ?_ ?_
          · refine CW.walk1 hX mixed d25 rfl ?_
            by_cases hk2 : o.kind = 2
            · by_cases hay : o.a = y
              · simp [d25, e10, e11, e14, htl, hoe, opC, hk2, hay]
                exact ⟨⟨by simp [e1], by simp [e2], by simp [e3], by simp [e7], by simp [e8], rfl, hle5⟩, by simp [e9], by simp [e10], by simp [e11], by simp [e14], by simp [hcp, hk2, hay]; rfl, rfl⟩
              · simp [d25, e10, e11, e14, htl, hoe, opC, hk2, hay]
                exact ⟨⟨by simp [e1], by simp [e2], by simp [e3], by simp [e7], by simp [e8], rfl, hle5⟩, by simp [e9], by simp [e10], by simp [e11], by simp [e14], by simp [hcp, hk2, hay, Bool.eq_iff_iff], rfl⟩
            · simp [d25, e10, e11, e14, htl, hoe, opC, hk2]
              exact ⟨⟨by simp [e1], by simp [e2], by simp [e3], by simp [e7], by simp [e8], rfl, hle5⟩, by simp [e9], by simp [e10], by simp [e11], by simp [e14], by simp [hcp, hk2, Bool.eq_iff_iff], rfl⟩
          clear e1 e2 e3 e7 e8 e9 e10 e11 e14
          rintro ⟨e, ds⟩ H5 ⟨⟨e1, e2, e3, e7, e8, rfl, hle5⟩, e9, e10, e11, e14, e15, rfl⟩
          dsimp only at e1 e2 e3 e7 e8 e9 e10 e11 e14 e15
          refine CW.walk1 hX mixed d25 rfl ?_
          have wt : IntKind.i64.wrap ((t11 : Int) + 1) = ((t11 + 1 : Nat) : Int) := by rw [wrapI (by omega) (by omega)]; rfl
          simp [d25, e7, e9, e11, wt]
          refine (before_h hX u hu (hset _ hle5) i9 k hk (t11 + 1) htl).k ?_
          rintro x H6 ⟨r, hr, rfl, rfl⟩
          have xy : (boolC u.regs.toNat (beforeP u p I k (k.ops.drop (t11 + 1))))[y.toNat]? = some (CV.bool (beforeP u p I k (k.ops.drop (t11 + 1)) y.toNat)) := boolC_get hyn
          have hmy : y < max u.regs 0 := by omega
          have hny : max y 0 < u.regs := by omega
          have hle6 : Le H2 (H5.set r (.cells (boolC u.regs.toNat (beforeP u p I k (k.ops.drop (t11 + 1)))))) := hle5.trans (Le.set_new hr)
          cases hS : beforeP u p I k (k.ops.drop (t11 + 1)) y.toNat with
          | false =>
            simp [d25, e14, e15, xy, hS, hyr.1, hmy, hny]
            exact skip _ (by rw [hyb, hS]; rfl) (by simp [e1]) (by simp [e2]) (by simp [e3]) (by simp [e7]) (by simp [e8]) (by simp [e9]) (by simp [e10]) (by simp [e11]) _ hle6
          | true =>
            cases hcb : cp with
            | true =>
              rw [hcb] at e15
              simp [d25, e14, e15, xy, hS, hyr.1, hmy, hny]
              exact skip _ (by rw [hyb, hS, ← hcp, hcb]; rfl) (by simp [e1]) (by simp [e2]) (by simp [e3]) (by simp [e7]) (by simp [e8]) (by simp [e9]) (by simp [e10]) (by simp [e11]) _ hle6
            | false =>
              rw [hcb] at e15
              simp [d25, e14, e15, xy, hS, hyr.1, hmy, hny]
              exact htrue (apart_op hkm ho (by rw [hyb, hS, ← hcp, hcb]; rfl)) _ hle6
        · rintro ⟨e, ds⟩ H6 ⟨t2, t3, ht2, hj2, ⟨g1, g2, g3, g7, g8, rfl, hle6⟩, g9, g10, g11, htt2, hbt2⟩
          dsimp only at g1 g2 g3 g7 g8 g9 g10 g11
          refine CW.walk1 hX mixed d25 rfl ?_
          simp [g11]
          exact ⟨k.ops.length - (t11 + 1), by omega, t2, t2, ht2, hj2, ⟨by simp [g1], by simp [g2], by simp [g3], by simp [g7], by simp [g8], rfl, hle6⟩, by simp [g9], by simp [g10], by simp; rw [wrapI (by omega) (by omega)]; omega, rfl, hbt2⟩
      · clear e1 e2 e3 e7 e8 e9 hle4 m3
        rintro ⟨e, ds⟩ H5 ⟨⟨e1, e2, e3, e7, e8, rfl, hle5⟩, e9, hbt⟩
        dsimp only at e1 e2 e3 e7 e8 e9
        have m3 := hle5 _ _ m23
        have mt := hle5 _ _ hrt
        have hLR := hset _ hle5
        have m7 := hLR.l
        have m7i := hLR.i
        simp only [unitC] at m7
        have xt := hthr i9 k hk
        refine CW.walk hX mixed d25 rfl ?_
        simp [e3, e9, m3, hil, hke, blkC]
        have okk : ∀ en : Env, thrBad u p I k a b = false → en 1 = ci a → en 2 = ci b → en 3 = .ptr q3 0 → en 7 = .ptr lp 0 → en 8 = .ref rt 0 u.blocks.length ct → en 9 = .int .i64 i9 → apI H2 u p I a b q3 lp (.ref rt 0 u.blocks.length ct) 1 (u.blocks.length - (i9 + 1)) ⟨en, []⟩ H5 := fun en h g1 g2 g3 g7 g8 g9 =>
          ⟨i9 + 1, i9, hil, rfl, ⟨g1, g2, g3, g7, g8, rfl, hle5⟩, g9, rfl, fun k' hk' => by
            rw [List.take_add_one, hk] at hk'
            rcases List.mem_append.1 hk' with h1 | h1
            · exact hbad k' h1
            · simp at h1; subst h1; exact blk_ok h hbt⟩
        by_cases hc0 : 0 ≤ k.catch_
        rotate_left
        · refine CW.walk1 hX mixed d25 rfl ?_
          simp [d25, hc0]
          exact okk _ (by simp [thrBad, hc0]) (by simp [e1]) (by simp [e2]) (by simp [e3]) (by simp [e7]) (by simp [e8]) (by simp [e9])
        cases hth : throwsB p k with
        | false =>
          refine CW.walk1 hX mixed d25 rfl ?_
          simp [d25, hc0, e8, e9, mt, xt, hth, hil]
          exact okk _ (by simp [thrBad, hth]) (by simp [e1]) (by simp [e2]) (by simp [e3]) (by simp [e7]) (by simp [e8]) (by simp [e9])
        | true =>
        have hcl : k.catch_.toNat < u.blocks.length := by omega
        have hcm : k.catch_ < (u.blocks.length : Int) := by omega
        have hcg := hget _ hcl
        have hcs := hLR.s _ hcl
        have hma : a < max u.regs 0 := by omega
        have hmb : b < max u.regs 0 := by omega
        have hna : max a 0 < u.regs := by omega
        have hnb : max b 0 < u.regs := by omega
        have xa : (boolC u.regs.toNat (I k.catch_.toNat))[a.toNat]? = some (CV.bool (I k.catch_.toNat a.toNat)) := boolC_get ha'
        have xb : (boolC u.regs.toNat (I k.catch_.toNat))[b.toNat]? = some (CV.bool (I k.catch_.toNat b.toNat)) := boolC_get hb'
        refine CW.walk1 hX mixed d25 rfl ?_
        by_cases hac : a = u.code
        · have hbc : ¬ b = u.code := fun q => hab (hac.trans q.symm)
          subst hac
          cases hib : I k.catch_.toNat b.toNat with
          | false =>
            simp [d25, hc0, e1, e2, e3, e7, e8, e9, mt, xt, hth, hil, m3, m7, m7i, hcg, hcs, hcl, hcm, hma, hmb, hna, hnb, xa, xb, ha.1, hb.1, hbc, hib]
            exact okk _ (by simp [thrBad, hc0, hth, hbc, hib]) (by simp [e1]) (by simp [e2]) (by simp [e3]) (by simp [e7]) (by simp [e8]) (by simp [e9])
          | true =>
            simp [d25, hc0, e1, e2, e3, e7, e8, e9, mt, xt, hth, hil, m3, m7, m7i, hcg, hcs, hcl, hcm, hma, hmb, hna, hnb, xa, xb, ha.1, hb.1, hbc, hib]
            exact htrue (apart_thr hkm (by simp [thrBad, hc0, hth, hbc, hib])) _ hle5
        · by_cases hbc : b = u.code
          · subst hbc
            cases hib : I k.catch_.toNat a.toNat with
            | false =>
              simp [d25, hc0, e1, e2, e3, e7, e8, e9, mt, xt, hth, hil, m3, m7, m7i, hcg, hcs, hcl, hcm, hma, hmb, hna, hnb, xa, xb, ha.1, hb.1, hac, hib]
              exact okk _ (by simp [thrBad, hc0, hth, hac, hib]) (by simp [e1]) (by simp [e2]) (by simp [e3]) (by simp [e7]) (by simp [e8]) (by simp [e9])
            | true =>
              simp [d25, hc0, e1, e2, e3, e7, e8, e9, mt, xt, hth, hil, m3, m7, m7i, hcg, hcs, hcl, hcm, hma, hmb, hna, hnb, xa, xb, ha.1, hb.1, hac, hib]
              exact htrue (apart_thr hkm (by simp [thrBad, hc0, hth, hac, hib])) _ hle5
          · simp [d25, hc0, e1, e2, e3, e7, e8, e9, mt, xt, hth, hil, m3, m7, m7i, hcg, hcs, hcl, hcm, hma, hmb, hna, hnb, xa, xb, ha.1, hb.1, hac, hbc]
            exact okk _ (by simp [thrBad, hc0, hth, hac, hbc]) (by simp [e1]) (by simp [e2]) (by simp [e3]) (by simp [e7]) (by simp [e8]) (by simp [e9])
    · rintro ⟨en, ds⟩ H5 ⟨i', i9', hi', hj', ⟨g1, g2, g3, g7, g8, rfl, hle5⟩, g9, hd', hbad'⟩
      dsimp only at g1 g2 g3 g7 g8 g9
      refine CW.walk1 hX mixed d25 rfl ?_
      simp [g9]
      exact ⟨u.blocks.length - (i9 + 1), by omega, i', i', hi', hj', ⟨by simp [g1], by simp [g2], by simp [g3], by simp [g7], by simp [g8], rfl, hle5⟩, by simp; rw [wrapI (by omega) (by omega)]; omega, rfl, hbad'⟩
  rintro ⟨e, ds⟩ H4 ⟨rfl, hle4, hbad⟩
  refine CW.walk1 hX mixed d25 rfl ?_
  simp
  exact ⟨p, c, I, by rw [apart_ok hent hbad], hH2.trans hle4, hpl, hll⟩
end Go.Cl
