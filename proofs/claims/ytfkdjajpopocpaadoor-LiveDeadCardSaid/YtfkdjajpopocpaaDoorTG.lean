/- DERIVED HERE. LiveEdges. -/
import Derived.Test.YtfkdjajpopocpaaDoorTM
set_option linter.unusedSimpArgs false
set_option linter.unusedVariables false
namespace Go.Cl
open Go.Proofs
variable {W : World} {G : Nat → CV}
set_option maxRecDepth 8000
/-- Whether an edge leaves an end. -/
def edgesOf (e : UEnd) : List Int := (if goes e then [e.to] else []) ++ (if branches e then [e.els] else [])
structure eF (H2 : Hp) (u : UUnit) (p c : Nat → Bool) (I : Nat → Nat → Bool) (q3 : Nat) (v0 v5 va : CV) : Prop where
  wf : wfU u = true
  pl : PLeast (opsOf u) p c
  ll : LLeast u p I
  m : H2 q3 = some (.cells [v0, ci u.params, ci u.regs, ci u.code, ci u.spill, v5])
  f : Fz H2 (.agg [v0, ci u.params, ci u.regs, ci u.code, ci u.spill, v5]) (.agg (unitC u))
  b : ∃ r c cs, v5 = .ref r 0 u.blocks.length c ∧ H2 r = some (.cells cs) ∧ ∀ (j : Nat) k, u.blocks[j]? = some k → ∃ x0, (cs.drop (j * 6)).take 6 = x0 :: blkT k ∧ Fz H2 x0 (.sl 7 (k.ops.map opC))
  a : ∃ r c cs, va = .ref r 0 u.blocks.length c ∧ H2 r = some (.cells cs) ∧ ∀ (j : Nat), j < u.blocks.length → ∃ x, cs[j]? = some x ∧ SlF H2 x (upto (I j) (64 * mOf u))
structure eI (H2 : Hp) (u : UUnit) (q3 : Nat) (va : CV) (d : Nat) (j : Nat) (s' : CA) (H' : Hp) : Prop where
  ex : ∃ i i7 : Nat, i ≤ u.blocks.length ∧ i ≤ 12 ∧ j = 12 - i ∧ s'.env 3 = .ptr q3 0 ∧ s'.env 5 = va ∧ s'.env 7 = .int .i64 i7 ∧ i7 + d = i ∧ s'.ds = [] ∧ Le H2 H'
structure eX (H2 : Hp) (u : UUnit) (q3 : Nat) (va : CV) (s' : CA) (H' : Hp) : Prop where
  ex : ∃ j, eI H2 u q3 va 0 j s' H'
structure eL (H6 : Hp) (u : UUnit) (p : Nat → Bool) (I : Nat → Nat → Bool) (k : UBlk) (i q3 q8 : Nat) (va : CV) (s' : CA) (H' : Hp) : Prop where
  ex : ∃ v9, s'.env 3 = .ptr q3 0 ∧ s'.env 5 = va ∧ s'.env 7 = .int .i64 i ∧ s'.env 8 = .ptr q8 0 ∧ s'.env 9 = v9 ∧ s'.env 10 = ci 0 ∧ s'.ds = [] ∧ Le H6 H' ∧ SlF H' v9 (upto (beforeP u p I k []) (64 * mOf u))
theorem Fz.slInv {H : Hp} {x : CV} {sz : Nat} {xs : List (List CV)} (h : Fz H x (.sl sz xs)) : x = .sl sz xs ∨ (x = .nilsl ∧ xs = []) ∨ ∃ r o c, x = .ref r o xs.length c := by
  cases h with
  | same => exact .inl rfl
  | nil => exact .inr (.inl ⟨rfl, rfl⟩)
  | ref r o n c sz cs xs hr hn => subst hn; exact .inr (.inr ⟨r, o, c, rfl⟩)
structure eT (H6 : Hp) (k : UBlk) (i q3 q8 : Nat) (va v9 : CV) (l : List Int) (s' : CA) (H' : Hp) : Prop where
  ex : ∃ v15, s'.env 3 = .ptr q3 0 ∧ s'.env 5 = va ∧ s'.env 7 = .int .i64 i ∧ s'.env 8 = .ptr q8 0 ∧ s'.env 9 = v9 ∧ s'.env 15 = v15 ∧ s'.ds = [] ∧ Own H6 H' v15 1 (ints l)
structure eJ (H6 : Hp) (i q3 : Nat) (va v9 v15 : CV) (n d m : Nat) (s' : CA) (H' : Hp) : Prop where
  ex : ∃ j j16 : Nat, j ≤ n ∧ m = n - j ∧ s'.env 3 = .ptr q3 0 ∧ s'.env 5 = va ∧ s'.env 7 = .int .i64 i ∧ s'.env 9 = v9 ∧ s'.env 15 = v15 ∧ s'.env 16 = .int .i64 j16 ∧ j16 + d = j ∧ s'.ds = [] ∧ H' = H6
structure eM (H6 : Hp) (i j q3 : Nat) (va v9 v15 : CV) (n m : Nat) (s' : CA) (H' : Hp) : Prop where
  ex : ∃ m1 : Nat, m1 ≤ n ∧ m = n - m1 ∧ s'.env 3 = .ptr q3 0 ∧ s'.env 5 = va ∧ s'.env 7 = .int .i64 i ∧ s'.env 9 = v9 ∧ s'.env 15 = v15 ∧ s'.env 16 = .int .i64 j ∧ s'.env 17 = .int .i64 m1 ∧ s'.ds = [] ∧ H' = H6
theorem liveEdges_c (hX : CxOk (cx W G)) (hG : G 0 = .iptr formsC) (u0 : UUnit) (H : Hp) : CC Tryd.prog W 4 [.agg (unitC u0)] H fun x H' => x = .ret (.bool true) ∧ H' = H := by
  refine CC.shrink ?_
  refine CC.of_cw hX Tryd.func4 rfl rfl (Nat.le_of_ble_eq_true rfl) ?_
  refine CW.walk hX mixed d4 rfl ?_
  simp
  intro q1 hq1
  refine CW.walk hX mixed d4 rfl ?_
  simp [unitC]
  have hc := small_c hX u0 (H.set q1 (.cells (unitC u0)))
  simp only [unitC] at hc
  refine hc.k ?_
  rintro x H1 ⟨cs, rfl, hle1, huv⟩
  obtain ⟨v0, v5, rfl, hb5⟩ := huv.b
  have hfz := huv.f
  have hok := small_ok u0
  clear huv hc
  generalize cutU u0 60 600 = u at hfz hb5 hok ⊢
  have hle1 := (Le.set_new hq1).trans hle1
  simp
  intro q3 hq3
  generalize hH2 : H1.set q3 _ = H2
  have hle2 : Le H1 H2 := by rw [← hH2]; exact Le.set_new hq3
  have m3 : H2 q3 = some (.cells [v0, ci u.params, ci u.regs, ci u.code, ci u.spill, v5]) := by rw [← hH2]; exact set_at
  clear hH2
  have hfz2 := hfz.mono hle2
  have hb52 := hb5.mono hle2
  have hle2 := hle1.trans hle2
  clear hfz hb5 hq3
  by_cases hs : u0.regs ≤ 200
  rotate_left
  · refine CW.walk hX mixed d4 rfl ?_
    simp [hs, m3]
    refine (alive_c hX hG _).k ?_
    rintro x H3 ⟨rfl, rfl⟩
    simp
    exact hle2
  have hr := right_f hX hG hok hfz2
  by_cases hw : wfU u = true
  rotate_left
  · refine CW.walk hX mixed d4 rfl ?_
    simp [hs, m3]
    refine hr.k ?_
    rintro x H3 ⟨rfl, rfl⟩
    simp [hw]
    refine (alive_c hX hG _).k ?_
    rintro x H4 ⟨rfl, rfl⟩
    simp
    exact hle2
  refine CW.walk hX mixed d4 rfl ?_
  simp [hs, m3]
  refine hr.k ?_
  rintro x H3 ⟨rfl, rfl⟩
  simp [hw]
  clear hr hs
  refine CW.walk hX mixed d4 rfl ?_
  simp [m3]
  refine (all17_f hX hG hw hfz2).k ?_
  rintro x H4 ⟨p, c, I, va, hp, hl, hbd, rfl, hle4, hva⟩
  obtain ⟨f1, f2, f3, f4, f5, f6, f7, f8, f9, f10, f11⟩ := wfU_facts hw
  simp
  have m4 := hle4 _ _ m3
  have hF : eF H4 u p c I q3 v0 v5 va := by
    refine ⟨hw, hp, hl, m4, hfz2.mono hle4, ?_, ?_⟩
    · rcases hb52.mono hle4 with ⟨_, h⟩ | h
      · rw [h] at f7; simp at f7
      · exact h
    · rcases hva with ⟨_, h⟩ | ⟨r, c, cs, h1, h2, h3⟩
      · have := congrArg List.length h
        simp at this
        rw [this] at f7; simp at f7
      · refine ⟨r, c, cs, by simpa using h1, h2, fun j hj => h3 j _ ?_⟩
        rw [List.getElem?_map, List.getElem?_range hj]
        rfl
  clear hva hfz2 hb52 m3 m4 hp hl hbd
  have hle4 := hle2.trans hle4
  obtain ⟨rb, cb, csb, rfl, mb, hbb⟩ := hF.b
  obtain ⟨ra, ca, csa, rfl, ma, haa⟩ := hF.a
  refine CW.walk hX mixed d4 rfl ?_
  simp [hF.m]
  refine CW.cut (eX H4 u q3 (.ref ra 0 u.blocks.length ca)) ?_ ?_
  · refine CW.walk hX mixed d4 rfl ?_
    simp
    refine CW.block ?_
    refine CW.loop (eI H4 u q3 (.ref ra 0 u.blocks.length ca) 0) ?_ (m := 12) ⟨0, 0, by omega, by omega, rfl, by simp, by simp, by simp, rfl, rfl, Le.refl _⟩
    rintro j ⟨e, ds⟩ H5 ⟨i, i7, hi, hi12, rfl, e3, e5, e7, hi7, rfl, hle5⟩
    obtain rfl : i = i7 := by omega
    dsimp only at e3 e5 e7
    have m5 := hle5 _ _ hF.m
    refine CW.walk hX mixed d4 rfl ?_
    simp [e3, e5, e7, m5]
    refine ⟨fun hib => ⟨fun hi12' => ?_, fun _ => ?_⟩, fun _ => ?_⟩
    rotate_left
    · exact ⟨12 - i, i, i, hi, hi12, rfl, by simp [e3], by simp [e5], by simp [e7], rfl, rfl, hle5⟩
    · exact ⟨12 - i, i, i, hi, hi12, rfl, by simp [e3], by simp [e5], by simp [e7], rfl, rfl, hle5⟩
    refine CW.cut (eI H4 u q3 (.ref ra 0 u.blocks.length ca) 1 (12 - (i + 1))) ?_ ?_
    · refine CW.block ?_
      obtain ⟨k, hke⟩ : ∃ k, u.blocks[i] = k := ⟨_, rfl⟩
      have hk : u.blocks[i]? = some k := by rw [List.getElem?_eq_getElem hib, hke]
      obtain ⟨x0, hx0, hfx⟩ := hbb i k hk
      have hfx := hfx.mono hle5
      have hF5 := hF.f.mono hle5
      have mb5 := hle5 _ _ mb
      have hlen : i * 6 + 6 ≤ csb.length := by
        have := congrArg List.length hx0
        simp [blkT] at this
        omega
      refine CW.walk hX mixed d4 rfl ?_
      simp [e3, e7, m5, mb5, hib, hx0]
      refine ⟨hlen, fun q8 hq8 => ⟨by omega, ?_⟩⟩
      generalize hH6 : H5.set q8 _ = H6
      have hle6 : Le H5 H6 := by rw [← hH6]; exact Le.set_new hq8
      have m8 : H6 q8 = some (.cells (x0 :: blkT k)) := by rw [← hH6]; exact set_at
      have m6 := hle6 _ _ m5
      have hF6 := hF5.mono hle6
      clear hH6 hq8
      refine CW.cut (eL H6 u p I k i q3 q8 (.ref ra 0 u.blocks.length ca)) ?_ ?_
      · have hx0' := hfx.slInv
        have hc : ∀ n : Int, n = k.ops.length → CC Tryd.prog W 13 [.agg [v0, ci u.params, ci u.regs, ci u.code, ci u.spill, .ref rb 0 u.blocks.length cb], .int .i64 i, .int .i64 n] H6 _ := fun n hn => by rw [hn]; exact at13_f hX hG hw hF6 i k.ops.length k hk (Nat.le_refl _)
        simp only [blkT] at m8
        refine CW.walk1 hX mixed d4 rfl ?_
        rcases hx0' with rfl | ⟨rfl, hnil⟩ | ⟨qx, ox, cx', rfl⟩
        all_goals
          simp [e3, e5, e7, m6, m8]
          refine (hc _ (by first | simp | simp [List.map_eq_nil_iff.1 hnil])).k ?_
          rintro x H7 ⟨p', c', I', v9, hp', hl', _, rfl, hle7, hv9⟩
          obtain ⟨rfl, rfl⟩ := hF.pl.unique hp'
          obtain rfl := hF.ll.unique hl'
          simp
          exact ⟨v9, by simp [e3], by simp [e5], by simp [e7], by simp, by simp, by simp, rfl, hle7, by simpa using hv9⟩
      clear hx0 hfx hF5 mb5 hlen m5 e3 e5 e7
      clear e
      rintro ⟨e, ds⟩ H7 ⟨v9, e3, e5, e7, e8, e9, e10, rfl, hle7, hv9⟩
      dsimp only at e3 e5 e7 e8 e9 e10
      have m7 := hle7 _ _ m6
      have hF7 := hF6.mono hle7
      refine CW.walk hX mixed d4 rfl ?_
      simp [e3, e7, m7]
      refine (at13_f hX hG hw hF7 i 0 k hk (Nat.zero_le _)).k ?_
      rintro x H8 ⟨p', c', I', v11, hp', hl', _, rfl, hle8, hv11⟩
      obtain ⟨rfl, rfl⟩ := hF.pl.unique hp'
      obtain rfl := hF.ll.unique hl'
      have m8' := hle8 _ _ m7
      simp
      refine CW.walk hX mixed d4 rfl ?_
      simp [e3, e7, m8']
      refine (in18_f hX hG hw (hF7.mono hle8) i k hk).k ?_
      rintro x H9 ⟨p', c', I', v13, hp', hl', _, rfl, hle9, hv13⟩
      obtain ⟨rfl, rfl⟩ := hF.pl.unique hp'
      obtain rfl := hF.ll.unique hl'
      have m9 := hle9 _ _ m8'
      have hle79 := hle8.trans hle9
      have hle49 := ((hle5.trans hle6).trans hle7).trans hle79
      have hfp : beforeP u p I k k.ops = I i := by
        have h1 := hF.ll.fix hib
        have h2 : blkAt u i = k := by rw [blkAt, List.getD_eq_getElem?_getD, hk]; rfl
        rw [FP, h2] at h1
        exact h1
      rw [List.drop_zero, hfp] at hv11
      rw [hfp] at hv13
      obtain ⟨xa, hxa, hva⟩ := haa i hib
      have ma9 := hle49 _ _ ma
      simp
      refine CW.walk hX mixed d4 rfl ?_
      simp [e3, e5, e7, e10, ma9, hib, hxa]
      refine (same_f hX (hv11.mono hle9) hv13 (by have := upto_len (I i) (64 * mOf u); omega)).k ?_
      rintro x H10 ⟨rfl, rfl⟩
      simp [e5, e7, ma9, hib, hxa]
      have hva9 := hva.mono hle49
      refine (same_f hX hv13 hva9 (by have := upto_len (I i) (64 * mOf u); omega)).k ?_
      rintro x H11 ⟨rfl, rfl⟩
      simp
      have m8'' := (hle7.trans hle79) _ _ m8
      simp only [blkT] at m8''
      refine CW.walk hX mixed d4 rfl ?_
      simp
      refine CW.cut (eT H11 k i q3 q8 (.ref ra 0 u.blocks.length ca) v9 (if goes k.en then [k.en.to] else [])) ?_ ?_
      · refine CW.walk1 hX mixed d4 rfl ?_
        simp [e8, m8'']
        refine (endTo_c hX _ _).k ?_
        rintro x H12 ⟨rfl, rfl⟩
        by_cases hg : k.en.kind = 1 ∨ k.en.kind = 2
        · have hgo : goes k.en = true := by simpa [goes] using hg
          simp [hg, hgo, e8, m8'', cfill, -vcAppend]
          refine ⟨fun r hr => ?_, fun h1 h2 => absurd hg (by simp [h1, h2])⟩
          refine ((Own.nil (sz := 1) (Le.refl _)).more hr).append2 (ys := [[ci k.en.to]]) (by simp) (by simp) (src_one set_at rfl) fun v' H4 how4 _ => ?_
          simp
          exact ⟨v', by simp [e3], by simp [e5], by simp [e7], by simp [e8], by simp [e9], by simp, rfl, by simpa [ints, hgo] using how4⟩
        · have hgo : goes k.en = false := by simpa [goes] using hg
          simp [hg, hgo]
          intro _ _
          exact ⟨.nilsl, by simp [e3], by simp [e5], by simp [e7], by simp [e8], by simp [e9], by simp, rfl, Own.nil (Le.refl _)⟩
      clear e3 e5 e7 e8 e9 e10
      clear e
      rintro ⟨e, ds⟩ H12 ⟨v15, e3, e5, e7, e8, e9, e15, rfl, how12⟩
      dsimp only at e3 e5 e7 e8 e9 e15
      have m12 := how12.le _ _ m8''
      refine CW.cut (eT H11 k i q3 q8 (.ref ra 0 u.blocks.length ca) v9 (edgesOf k.en)) ?_ ?_
      · refine CW.walk1 hX mixed d4 rfl ?_
        simp [e8, m12]
        refine (endElse_c hX _ _).k ?_
        rintro x H13 ⟨rfl, rfl⟩
        by_cases hg : k.en.kind = 2
        · have hgo : branches k.en = true := by simpa [branches] using hg
          simp [hg, e8, e15, m12, cfill, -vcAppend]
          intro r hr
          refine (how12.more hr).append2 (ys := [[ci k.en.els]]) (by simp) (by cases goes k.en <;> simp [ints]) (src_one set_at rfl) fun v' H4 how4 _ => ?_
          simp
          exact ⟨v', by simp [e3], by simp [e5], by simp [e7], by simp [e8], by simp [e9], by simp, rfl, by simpa [ints, edgesOf, hgo] using how4⟩
        · have hgo : branches k.en = false := by simpa [branches] using hg
          simp [hg]
          exact ⟨v15, by simp [e3], by simp [e5], by simp [e7], by simp [e8], by simp [e9], by simp [e15], rfl, by simpa [edgesOf, hgo] using how12⟩
      clear e3 e5 e7 e8 e9 e15 m12 how12
      clear e v15 H12
      rintro ⟨e, ds⟩ H12 ⟨v15, e3, e5, e7, e8, e9, e15, rfl, how12⟩
      dsimp only at e3 e5 e7 e8 e9 e15
      have hs15 := how12.slF
      have hl12 := hle49.trans how12.le
      have hv9' := (hv9.mono hle79).mono how12.le
      have hed : ∀ t ∈ edgesOf k.en, 0 ≤ t ∧ t < u.blocks.length ∧ ∀ x, x ∈ upto (I t.toNat) (64 * mOf u) → x ∈ upto (beforeP u p I k []) (64 * mOf u) := by
        have hwb := wfE_facts (wfB_facts hw hk).2.2.2
        intro t ht
        simp only [edgesOf, List.mem_append] at ht
        have hup : ∀ {f g : Nat → Bool}, Sub f g → ∀ x, x ∈ upto f (64 * mOf u) → x ∈ upto g (64 * mOf u) := by
          intro f g hfg x hx
          simp only [upto, List.mem_map, List.mem_filter, List.mem_range] at hx ⊢
          obtain ⟨a, ⟨h1, h2⟩, h3⟩ := hx
          exact ⟨a, ⟨h1, hfg a h2⟩, h3⟩
        rcases ht with ht | ht <;> split at ht <;> simp at ht <;> subst ht <;> rename_i hg
        · have hg' : k.en.kind = 1 ∨ k.en.kind = 2 := by simpa [goes] using hg
          refine ⟨(hwb.2.2.2.1 hg').1, (hwb.2.2.2.1 hg').2, hup fun x hx => ?_⟩
          show endP u p I k x = true
          simp only [endP, hg, hx, Bool.true_and, Bool.true_or]
        · have hg' : k.en.kind = 2 := by simpa [branches] using hg
          refine ⟨(hwb.2.2.2.2 hg').1, (hwb.2.2.2.2 hg').2, hup fun x hx => ?_⟩
          show endP u p I k x = true
          simp only [endP, hg, hx, Bool.true_and, Bool.true_or, Bool.or_true]
      have hL2 : (edgesOf k.en).length ≤ 2 := by
        simp only [edgesOf, List.length_append]
        split <;> split <;> simp
      generalize edgesOf k.en = L at hs15 hed hL2
      clear how12
      refine CW.walk hX mixed d4 rfl ?_
      simp
      refine CW.walk1 hX mixed d4 rfl ?_
      simp
      refine CW.loop (eJ H12 i q3 (.ref ra 0 u.blocks.length ca) v9 v15 L.length 0) ?_ (m := L.length) ⟨0, 0, by omega, by omega, by simp [e3], by simp [e5], by simp [e7], by simp [e9], by simp [e15], by simp, rfl, rfl, rfl⟩
      clear e3 e5 e7 e8 e9 e15
      clear e
      rintro m ⟨e, ds⟩ H12 ⟨j, j16, hj, rfl, e3, e5, e7, e9, e15, e16, hj16, rfl, rfl⟩
      dsimp only at e3 e5 e7 e9 e15 e16
      obtain rfl : j = j16 := by omega
      rcases hs15 with ⟨rfl, rfl⟩ | ⟨rl, cl, csl, rfl, ml, hcl⟩
      · refine CW.walk hX mixed d4 rfl ?_
        simp [e15, e16]
        refine ⟨fun h => absurd h (by omega), ?_⟩
        exact ⟨i + 1, i, by omega, by omega, by omega, by simp [e3], by simp [e5], by simp [e7], rfl, rfl, hl12⟩
      refine CW.walk hX mixed d4 rfl ?_
      simp [e15, e16]
      refine ⟨fun hjl => ?_, fun _ => ?_⟩
      rotate_left
      · exact ⟨i + 1, i, by omega, by omega, by omega, by simp [e3], by simp [e5], by simp [e7], rfl, rfl, hl12⟩
      obtain ⟨t, hte⟩ : ∃ t, L[j] = t := ⟨_, rfl⟩
      have ht : L[j]? = some t := by rw [List.getElem?_eq_getElem hjl, hte]
      have hct := hcl j t ht
      obtain ⟨ht0, htb, hsub⟩ := hed t (List.mem_of_getElem? ht)
      obtain ⟨xt, hxt, hvt⟩ := haa t.toNat (by omega)
      have hvt := hvt.mono hl12
      have ma12 := hl12 _ _ ma
      refine CW.cut (eJ H12 i q3 (.ref ra 0 u.blocks.length ca) v9 (.ref rl 0 L.length (L.length + cl)) L.length 1 (L.length - (j + 1))) ?_ ?_
      · refine CW.block ?_
        refine CW.walk hX mixed d4 rfl ?_
        simp
        refine CW.block ?_
        have hLTl := upto_len (I t.toNat) (64 * mOf u)
        generalize hLT : upto (I t.toNat) (64 * mOf u) = LT at hsub hvt hLTl
        refine CW.loop (eM H12 i j q3 (.ref ra 0 u.blocks.length ca) v9 (.ref rl 0 L.length (L.length + cl)) LT.length) ?_ (m := LT.length) ⟨0, by omega, by omega, by simp [e3], by simp [e5], by simp [e7], by simp [e9], by simp [e15], by simp [e16], by simp, rfl, rfl⟩
        clear e3 e5 e7 e9 e15 e16
        clear e
        rintro m ⟨e, ds⟩ H12 ⟨m1, hm, rfl, e3, e5, e7, e9, e15, e16, e17, rfl, rfl⟩
        dsimp only at e3 e5 e7 e9 e15 e16 e17
        rcases hvt with ⟨rfl, rfl⟩ | ⟨rt, ct, cst, rfl, mt, hcst⟩
        · refine CW.walk hX mixed d4 rfl ?_
          simp [e5, e15, e16, e17, ml, ma12, hct, hxt, ht0, htb, hjl]
          refine ⟨fun h => absurd h (by omega), ?_⟩
          exact ⟨j + 1, j, by omega, by omega, by simp [e3], by simp [e5], by simp [e7], by simp [e9], by simp [e15], by simp [e16], rfl, rfl, rfl⟩
        refine CW.walk hX mixed d4 rfl ?_
        simp [e5, e15, e16, e17, ml, ma12, hct, hxt, ht0, htb, hjl]
        refine ⟨fun hm1 => ?_, fun _ => ?_⟩
        rotate_left
        · exact ⟨j + 1, j, by omega, by omega, by simp [e3], by simp [e5], by simp [e7], by simp [e9], by simp [e15], by simp [e16], rfl, rfl, rfl⟩
        obtain ⟨y, hye⟩ : ∃ y, LT[m1] = y := ⟨_, rfl⟩
        have hy : LT[m1]? = some y := by rw [List.getElem?_eq_getElem hm1, hye]
        have hcy := hcst m1 y hy
        have hin := hsub y (List.mem_of_getElem? hy)
        refine CW.walk hX mixed d4 rfl ?_
        simp [e5, e9, e15, e16, e17, ml, ma12, mt, hct, hxt, hcy, ht0, htb, hjl, hm1]
        refine (has14_f hX y hv9' (by have := upto_len (beforeP u p I k []) (64 * mOf u); omega)).k ?_
        rintro x H13 ⟨rfl, rfl⟩
        simp [hin]
        refine CW.walk1 hX mixed d4 rfl ?_
        simp [e17]
        refine ⟨LT.length - (m1 + 1), by omega, m1 + 1, by omega, rfl, by simp [e3], by simp [e5], by simp [e7], by simp [e9], by simp [e15], by simp [e16], by simp; rw [wrapI (by omega) (by omega)], rfl, rfl⟩
      clear e3 e5 e7 e9 e15 e16
      clear e
      rintro ⟨e, ds⟩ H13 ⟨j2, j16, hj2, hjm, e3, e5, e7, e9, e15, e16, hj16, rfl, rfl⟩
      dsimp only at e3 e5 e7 e9 e15 e16
      obtain rfl : j2 = j + 1 := by omega
      obtain rfl : j = j16 := by omega
      refine CW.walk1 hX mixed d4 rfl ?_
      simp [e16]
      refine ⟨L.length - (j + 1), by omega, j + 1, j + 1, by omega, rfl, by simp [e3], by simp [e5], by simp [e7], by simp [e9], by simp [e15], by simp; rw [wrapI (by omega) (by omega)], rfl, rfl, rfl⟩
    clear e3 e5 e7
    clear e m5
    rintro ⟨e, ds⟩ H6 ⟨i2, i7, hi2, hi22, hj2, e3, e5, e7, hi7, rfl, hle6⟩
    dsimp only at e3 e5 e7
    obtain rfl : i2 = i + 1 := by omega
    obtain rfl : i = i7 := by omega
    refine CW.walk1 hX mixed d4 rfl ?_
    simp [e7]
    refine ⟨12 - (i + 1), by omega, i + 1, i + 1, hi2, hi22, rfl, by simp [e3], by simp [e5], by simp; rw [wrapI (by omega) (by omega)], rfl, rfl, hle6⟩
  rintro ⟨e, ds⟩ H6 ⟨j, i2, i7, hi2, hi22, hj2, e3, e5, e7, hi7, rfl, hle6⟩
  dsimp only at e3 e5 e7
  refine CW.walk1 hX mixed d4 rfl ?_
  simp [e7]
  refine (alive_c hX hG _).k ?_
  rintro x H7 ⟨rfl, rfl⟩
  simp
  exact hle4.trans hle6
end Go.Cl
