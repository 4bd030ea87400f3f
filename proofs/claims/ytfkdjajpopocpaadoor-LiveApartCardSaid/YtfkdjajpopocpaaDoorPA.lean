/- DERIVED HERE. The program's apart. -/
import Derived.Test.YtfkdjajpopocpaaDoorMA
set_option linter.unusedSimpArgs false
set_option linter.unusedVariables false
namespace Go.Cl
open Go.Proofs
variable {W : World} {G : Nat → CV}
set_option maxRecDepth 8000
set_option maxHeartbeats 4000000
structure paM (lv bs : CV) (n : Nat) (a b : Int) (qa qb qr : Nat) (B : Hp) (s' : CA) (H' : Hp) : Prop where
  ex : s'.env 0 = lv ∧ s'.env 4 = .ptr qa 0 ∧ s'.env 5 = .ptr qb 0 ∧ s'.env 6 = .ptr qr 0 ∧ s'.env 33 = bs ∧ s'.env 34 = .int .i64 n ∧ MarksOk s'.ds H' B ∧ B qa = some (.cells [ci a]) ∧ B qb = some (.cells [ci b]) ∧ ∃ x, B qr = some (.cells [.bool x])
structure paI (lv bs : CV) (u : UUnit) (p : Nat → Bool) (I : Nat → Nat → Bool) (a b : Int) (qa qb qr : Nat) (d : Nat) (j : Nat) (s' : CA) (H' : Hp) : Prop where
  ex : ∃ (i i35 : Nat) (B : Hp), i ≤ u.blocks.length ∧ j = u.blocks.length - i ∧ paM lv bs u.blocks.length a b qa qb qr B s' H' ∧ s'.env 35 = .int .i64 i35 ∧ i35 + d = i ∧ ∀ k ∈ u.blocks.take i, blkBad u p I a b k = false
structure paE (u : UUnit) (p : Nat → Bool) (I : Nat → Nat → Bool) (a b : Int) (qr : Nat) (s' : CA) (H' : Hp) : Prop where
  ex : ∃ B x, s'.env 6 = .ptr qr 0 ∧ MarksOk s'.ds H' B ∧ B qr = some (.cells [.bool x]) ∧ ∀ k ∈ u.blocks, blkBad u p I a b k = false
theorem hasI (hX : CxOk (cx W G)) {m : Nat} {f : Nat → Bool} {a : Int} (h0 : 0 ≤ a) (hk : a.toNat < 64 * m) (hm : m ≤ 64) (H : Hp) : CC Tryd.prog W 54 [.sl 1 (setS m f), ci a] H fun x H' => x = .ret (.bool (f a.toNat)) ∧ H' = H := by
  have := has_sl hX m f a.toNat hk hm H
  rw [show (a.toNat : Int) = a from Int.toNat_of_nonneg h0] at this
  exact this
theorem lt_toN {x n : Int} (h : 0 ≤ x ∧ x < n) : 0 ≤ x ∧ x < n.toNat := by omega
theorem apart36_c (hX : CxOk (cx W G)) (hG : G 0 = .iptr formsC) (u : UUnit) (hu : wfU u = true) (p : Nat → Bool) (cn : Nat) (c : Nat → Bool) (I : Nat → Nat → Bool) (a b : Int) (ha : 0 ≤ a ∧ a < u.regs) (hb : 0 ≤ b ∧ b < u.regs) (hab2 : a ≠ b) (H : Hp) :
    CC Tryd.prog W 36 [.iptr (liveC u u.regs.toNat p cn c I), ci a, ci b] H fun x H' => x = .ret (.bool (apartP u p I a b)) := by
  obtain ⟨f1, f2, f3, f4, f5, f6, f7, f8, f9, f10, f11⟩ := wfU_facts hu
  have hm : mOf u = (u.regs.toNat + 63) / 64 := rfl
  have ham : a.toNat < 64 * mOf u := by omega
  have hbm : b.toNat < 64 * mOf u := by omega
  have hbl0 : 0 < u.blocks.length := f7
  have hlv : liveC u u.regs.toNat p cn c I = [.sl 1 (u.sizes.map fun n => [ci n]), ci u.params, ci u.regs, ci u.code, ci u.spill, .sl 6 (u.blocks.map blkC), .sl 1 (boolS u.regs.toNat p), .sl 1 (boolS cn c), .sl 1 (liveS u.blocks.length (mOf u) I)] := rfl
  refine CC.of_cw hX Tryd.func36 rfl rfl (Nat.le_of_ble_eq_true rfl) ?_
  refine CW.walk hX mixed d36 rfl ?_
  simp
  intro qa na qb hba hab nb qr hra har hrb hbr nr
  obtain ⟨B0, hB0⟩ : ∃ B0, B0 = ((H.set qa (.cells [ci a])).set qb (.cells [ci b])).set qr (.cells [.bool false]) := ⟨_, rfl⟩
  have ma0 : B0 qa = some (.cells [ci a]) := by rw [hB0]; simp [*]
  have mb0 : B0 qb = some (.cells [ci b]) := by rw [hB0]; simp [*]
  have mr0 : B0 qr = some (.cells [.bool false]) := by rw [hB0]; simp
  have hBe : ((H.set qa (.cells [ci a])).set qb (.cells [ci b])).set qr (.cells [.bool false]) = B0 := hB0.symm
  simp only [ci] at hBe
  rw [hBe]
  clear hBe hB0
  refine CW.cut (fun s' H' => H' = B0 ∧ (I 0 a.toNat && I 0 b.toNat) = false ∧ s'.env 0 = .iptr (liveC u u.regs.toNat p cn c I) ∧ s'.env 4 = .ptr qa 0 ∧ s'.env 5 = .ptr qb 0 ∧ s'.env 6 = .ptr qr 0 ∧ s'.ds = []) ?_ ?_
  · refine CW.walk1 hX mixed d36 rfl ?_
    simp [d36, ma0, hlv, hbl0]
    have h1 := hasI hX (f := I 0) ha.1 ham f10 B0
    have h2 := hasI hX (f := I 0) hb.1 hbm f10 B0
    refine h1.k ?_
    rintro x H2 ⟨rfl, rfl⟩
    cases hia : I 0 a.toNat with
    | false =>
      simp [d36]
      first | rfl | simp [hlv]
    | true =>
      simp [d36, mb0, hbl0]
      refine h2.k ?_
      rintro x H3 ⟨rfl, rfl⟩
      cases hib : I 0 b.toNat with
      | false =>
        simp [d36]
        first | rfl | simp [hlv]
      | true =>
        simp [d36, mr0, apart_entry (u := u) (p := p) (show (I 0 a.toNat && I 0 b.toNat) = true by rw [hia, hib]; rfl)]
  rintro ⟨e, ds⟩ H1 ⟨rfl, hent, e0, e4, e5, e6, rfl⟩
  dsimp only at e0 e4 e5 e6
  rw [hlv] at e0
  refine CW.cut (paE u p I a b qr) ?_ ?_
  · refine CW.walk hX mixed d36 rfl ?_
    simp [e0]
    refine CW.block ?_
    refine CW.loop (paI (.iptr (liveC u u.regs.toNat p cn c I)) (.sl 6 (u.blocks.map blkC)) u p I a b qa qb qr 0) ?_ (m := u.blocks.length) ⟨0, 0, H1, by omega, rfl, ⟨by simp [e0, hlv], by simp [e4], by simp [e5], by simp [e6], by simp, by simp, Le.refl _, ma0, mb0, _, mr0⟩, by simp, rfl, by simp⟩
    clear e0 e4 e5 e6 ma0 mb0 mr0
    clear H1 e
    rintro j ⟨e, ds⟩ H1 ⟨i, i35, B, hi, rfl, ⟨e0, e4, e5, e6, e33, e34, hM, ma, mb, xr, mr⟩, e35, hd, hbad⟩
    obtain rfl : i35 = i := by omega
    dsimp only at e0 e4 e5 e6 e33 e34 e35 hM
    by_cases hil : i35 < u.blocks.length
    rotate_left
    · refine CW.walk hX mixed d36 rfl ?_
      simp [e34, e35, hil]
      refine CW.walk hX mixed d36 rfl ?_
      simp
      have : i35 = u.blocks.length := by omega
      rw [this, List.take_length] at hbad
      exact ⟨B, xr, by simp [e6], hM, mr, hbad⟩
    obtain ⟨k, hke⟩ : ∃ k, u.blocks[i35] = k := ⟨_, rfl⟩
    have hk : u.blocks[i35]? = some k := by rw [List.getElem?_eq_getElem hil, hke]
    have hkm := List.mem_of_getElem? hk
    obtain ⟨hct, hlen, hwo, hwe⟩ := wfB_facts hu hk
    obtain ⟨g1, g2, g3, g4, g5⟩ := wfE_facts hwe
    refine CW.walk hX mixed d36 rfl ?_
    simp [e34, e35, hil]
    refine CW.walk hX mixed d36 rfl ?_
    simp
    refine CW.cut (paI (.iptr (liveC u u.regs.toNat p cn c I)) (.sl 6 (u.blocks.map blkC)) u p I a b qa qb qr 1 (u.blocks.length - (i35 + 1))) ?_ ?_
    rotate_left
    · rintro ⟨e, ds⟩ H2 ⟨i', i35', B', hi', hj', ⟨g0, g4, g5, g6, g33, g34, gM, ga, gb, xr', gr⟩, g35, hd', hbad'⟩
      dsimp only at g0 g4 g5 g6 g33 g34 g35 gM
      refine CW.walk1 hX mixed d36 rfl ?_
      simp [g35]
      exact ⟨u.blocks.length - (i35 + 1), by omega, i', i', B', hi', hj', ⟨by simp [g0], by simp [g4], by simp [g5], by simp [g6], by simp [g33], by simp [g34], gM, ga, gb, xr', gr⟩, by simp; rw [wrapI (by omega) (by omega)]; omega, rfl, hbad'⟩
    refine CW.block ?_
    refine CW.walk hX mixed d36 rfl ?_
    simp [e33, e35, hil, hke, blkC]
    intro q8 n8
    have hMB := hM.set (q := q8) (o := .cells (blkC k)) (.inl n8)
    have nB8 : B q8 = none := hM.le.none n8
    have ma := (Le.set_new (o := .cells (blkC k)) nB8) _ _ ma
    have mb := (Le.set_new (o := .cells (blkC k)) nB8) _ _ mb
    have mr := (Le.set_new (o := .cells (blkC k)) nB8) _ _ mr
    have m8 : (B.set q8 (.cells (blkC k))) q8 = some (.cells (blkC k)) := set_at
    change CW _ _ _ _ _ _ _ (H1.set q8 (.cells (blkC k)))
    generalize H1.set q8 _ = H2 at hMB ⊢
    generalize B.set q8 _ = B2 at hMB ma mb mr m8 ⊢
    clear hM nB8 n8
    simp only [blkC, blkT] at m8
    have ha1 := hMB.get ma
    have hb1 := hMB.get mb
    have hr1 := hMB.get mr
    have h81 := hMB.get m8
    have hretF : ∀ (en : Env) (x : Bool), apartP u p I a b = x → en 6 = .ptr qr 0 → ∀ H', MarksOk ds H' (B2.set qr (.cells [.bool x])) → leaveQ (cx W G) Tryd.f36.ntmps Tryd.f36.results.toList (fun x H' => x = CE.ret (.bool (apartP u p I a b))) ds ⟨en, ds⟩ H' := fun en x hx he H' hm' => by
      refine leave_marks ?_ hm'
      intro H3 hle3
      have := hle3 qr _ set_at
      simp [Tryd.f36, he, this, hx]
    refine CW.cut (fun s' H' => H' = H2 ∧ thrBad u p I k a b = false ∧ s'.env 0 = .iptr (liveC u u.regs.toNat p cn c I) ∧ s'.env 4 = .ptr qa 0 ∧ s'.env 5 = .ptr qb 0 ∧ s'.env 6 = .ptr qr 0 ∧ s'.env 7 = .int .i64 i35 ∧ s'.env 8 = .ptr q8 0 ∧ s'.env 33 = .sl 6 (u.blocks.map blkC) ∧ s'.env 34 = .int .i64 u.blocks.length ∧ s'.env 35 = .int .i64 i35 ∧ s'.ds = ds) ?_ ?_
    · have e0' := e0
      rw [hlv] at e0'
      have hops : ∀ o ∈ k.ops, (o.guard ≠ -1 → 0 ≤ o.guard ∧ o.guard < u.regs.toNat) ∧ (o.kind = 20 ∨ o.kind = 21 ∨ o.kind = 22 → 0 ≤ o.a ∧ o.a < u.regs.toNat) := fun o ho => by
        obtain ⟨w1, w2, w3, w4, w5, w6, w7, w8, w9⟩ := wfO_facts (hwo o ho) f3
        exact ⟨fun q => lt_toN (w5 q), fun q => lt_toN (w8 q)⟩
      have hany := any55_c hX u.regs.toNat (.sl 1 (boolS cn c)) ⟨rfl, rfl⟩ p k hlen hops (fun q => lt_toN (g3 q)) H2
      simp only [blkC, blkT] at hany
      have hcl : 0 ≤ k.catch_ → k.catch_.toNat < u.blocks.length := fun q => by clear hwo; omega
      refine CW.walk1 hX mixed d36 rfl ?_
      by_cases hc0 : 0 ≤ k.catch_
      rotate_left
      · simp [d36, h81, hc0]
        exact ⟨by simp [thrBad, hc0], e0, e4, e5, e6, e33, e34, e35⟩
      have hcl := hcl hc0
      simp [d36, e0', h81, hc0]
      refine hany.k ?_
      rintro x H3 ⟨rfl, rfl⟩
      cases hth : throwsB p k with
      | false =>
        simp [d36]
        exact ⟨by simp [thrBad, hth], e0, e4, e5, e6, e33, e34, e35⟩
      | true =>
        have bad : ∀ en : Env, en 6 = .ptr qr 0 → thrBad u p I k a b = true → leaveQ (cx W G) 125 [ResultVar.cell 6 4] (fun x H' => x = CE.ret (.bool (apartP u p I a b))) ds ⟨en, ds⟩ (H3.set qr (.cells [.bool false])) := fun en h6 hth => by
          refine leave_marks (B := B2.set qr (.cells [.bool false])) ?_ (hMB.set (.inr (by rw [mr]; simp)))
          intro H5 hle5
          have := hle5 qr _ set_at
          simp [h6, this, apart_thr hkm hth]
        by_cases hac : a = u.code
        · have hbc : ¬ b = u.code := fun q => hab2 (hac.trans q.symm)
          subst hac
          simp [d36, e0', e4, e5, ha1, hb1, h81, hc0, hcl]
          refine (hasI hX (f := I k.catch_.toNat) hb.1 hbm f10 H3).k ?_
          rintro x H4 ⟨rfl, rfl⟩
          cases hib : I k.catch_.toNat b.toNat with
          | false =>
            simp [d36, e0', e4, e5, ha1, hb1, h81, hc0, hbc, hcl]
            exact ⟨by simp [thrBad, hbc, hib], hlv.symm, e6, e33, e34, e35⟩
          | true =>
            simp [d36, e0', e4, e5, e6, hr1, ha1, hb1, h81, hc0, hbc, hcl]
            exact bad _ (by simp [e6]) (by simp [thrBad, hc0, hth, hib])
        · by_cases hbc : b = u.code
          · subst hbc
            simp [d36, e0', e4, e5, ha1, hb1, h81, hc0, hac, hcl]
            refine (hasI hX (f := I k.catch_.toNat) ha.1 ham f10 H3).k ?_
            rintro x H4 ⟨rfl, rfl⟩
            cases hia : I k.catch_.toNat a.toNat with
            | false =>
              simp [d36]
              exact ⟨by simp [thrBad, hac, hia], e0, e4, e5, e6, e33, e34, e35⟩
            | true =>
              simp [d36, e6, hr1]
              exact bad _ (by simp [e6]) (by simp [thrBad, hc0, hth, hia])
          · simp [d36, e0', e4, e5, ha1, hb1, h81, hc0, hac, hbc, hcl]
            exact ⟨by simp [thrBad, hac, hbc], hlv.symm, e6, e33, e34, e35⟩
    clear e0 e4 e5 e6 e33 e34 e35
    rintro ⟨e, ds⟩ H3 ⟨rfl, hthr, e0, e4, e5, e6, e7, e8, e33, e34, e35, rfl⟩
    dsimp only at e0 e4 e5 e6 e7 e8 e33 e34 e35
    refine CW.walk hX mixed d36 rfl ?_
    simp [e0, e7]
    refine (points56_c hX _ i35 _).k ?_
    rintro x H4 ⟨q2, q3, h23, n2, n3, rfl, rfl⟩
    simp
    refine CW.block ?_
    have l4 : Le H3 ((H3.set q2 (.cells [.iptr (liveC u u.regs.toNat p cn c I)])).set q3 (.cells [.int .i64 i35])) := (Le.set_new n2).trans (Le.set_new (by rw [hset_none_iff]; exact ⟨Ne.symm h23, n3⟩))
    have m2 : ((H3.set q2 (.cells [.iptr (liveC u u.regs.toNat p cn c I)])).set q3 (.cells [.int .i64 i35])) q2 = some (.cells [.iptr (liveC u u.regs.toNat p cn c I)]) := by rw [hset_ne h23]; exact set_at
    have m3 : ((H3.set q2 (.cells [.iptr (liveC u u.regs.toNat p cn c I)])).set q3 (.cells [.int .i64 i35])) q3 = some (.cells [.int .i64 i35]) := set_at
    generalize (H3.set q2 (.cells [.iptr (liveC u u.regs.toNat p cn c I)])).set q3 (.cells [.int .i64 i35]) = A at l4 m2 m3 ⊢
    have hMA := hMB.mono l4
    have aa := hMA.get ma
    have ab := hMA.get mb
    have ar := hMA.get mr
    have a8 := hMA.get m8
    refine CW.rangeP hX (X := cx W G) (f := 91) (fs := []) (cap := [.ptr q2 0, .ptr q3 0]) (by simp) (points_it hX hG u hu p cn c I i35 k hk q2 q3) (fun H r o h hA => ⟨Le.set_new h _ _ hA.1, Le.set_new h _ _ hA.2⟩) (by simp) (by simp [ptA]) A (fun kk H' => Le A H' ∧ ∀ t, t < k.ops.length → k.ops.length - kk ≤ t → opBadAt u p I k a b t = false) (fun cd H' => cd = .ret ∧ Le (A.set qr (.cells [.bool false])) H' ∧ apartP u p I a b = false) ⟨m2, m3⟩ (fun kk H' h => h.1) (fun kk H' r o h hr => ⟨h.1.put hr, h.2⟩) (fun cd H' r o h hr => ⟨h.1, h.2.1.put (by rw [hset_none_iff]; exact ⟨(fun q => by rw [q, ar] at hr; cases hr), hr⟩), h.2.2⟩) ⟨Le.refl _, fun t h1 h2 => absurd h2 (by omega)⟩ ?_ ?_ ?_
    · rintro l kk r H5 hkk ⟨hl5, hbt⟩ hrA hr5
      have hkl : kk ≤ k.ops.length := by omega
      have qrr : r ≠ qr := fun q => by rw [q, ar] at hrA; cases hrA
      refine CW.walk1 hX mixed d36 rfl ?_
      simp [ptA, setps]
      refine CW.block ?_
      have b4 := hl5 _ _ aa
      have b5 := hl5 _ _ ab
      have b6 := hl5 _ _ ar
      have b8 := hl5 _ _ a8
      obtain ⟨tt, htt⟩ : ∃ tt, tt = k.ops.length - kk := ⟨_, rfl⟩
      have hti : (k.ops.length : Int) - kk = (tt : Int) := by omega
      rw [hti]
      cases tt with
      | zero =>
        refine CW.walk1 hX mixed d36 rfl ?_
        simp [d36]
        exact ⟨⟨hl5, fun t h1 h2 => hbt t h1 (by omega)⟩, hr5⟩
      | succ t =>
      have htl : t < k.ops.length := by omega
      obtain ⟨o, hoe⟩ : ∃ o, k.ops[t] = o := ⟨_, rfl⟩
      have ho : k.ops[t]? = some o := by rw [List.getElem?_eq_getElem htl, hoe]
      obtain ⟨w1, w2, w3, w4, w5, w6, w7, w8, w9⟩ := wfO_facts (hwo o (List.mem_of_getElem? ho)) f3
      have hkd : Kd o.kind := by simp only [Kd]; omega
      have hr5' : H5 r = some (.cells (setC (mOf u) (beforeP u p I k (k.ops.drop (t + 1))))) := by rw [hr5, ptC, ← htt]
      have hc1 := clash57_c hX hG o hkd (fun q => (w4 q).1) (mOf u) r (mOf u) _ a b ha.1 hb.1 hbm f10 H5 hr5'
      have hc2 := clash57_c hX hG o hkd (fun q => (w4 q).1) (mOf u) r (mOf u) _ b a hb.1 ha.1 ham f10 H5 hr5'
      simp only [opC] at hc1 hc2
      have wt : IntKind.i64.wrap (((t + 1 : Nat) : Int) - 1) = (t : Int) := by rw [wrapI (by omega) (by omega)]; omega
      have hob : opBadAt u p I k a b t = (clashB o (beforeP u p I k (k.ops.drop (t + 1))) a b || clashB o (beforeP u p I k (k.ops.drop (t + 1))) b a) := by rw [opBadAt_of ho]; rfl
      have hnext : opBadAt u p I k a b t = false → ∀ t', t' < k.ops.length → k.ops.length - (kk + 1) ≤ t' → opBadAt u p I k a b t' = false := fun h t' h1 h2 => by
        by_cases he : t' = t
        · rw [he]; exact h
        · exact hbt t' h1 (by omega)
      refine CW.walk1 hX mixed d36 rfl ?_
      have wt2 : ((t + 1 : Nat) : Int) = (t : Int) + 1 := by omega
      rw [wt2] at wt ⊢
      have wt0 : IntKind.i64.wrap (t : Int) = (t : Int) := wrapI (by omega) (by omega)
      simp [d36, e4, e5, e6, e8, b4, b5, b6, b8, wt, wt0, htl, hoe, opC]
      refine hc1.k ?_
      rintro x H6 ⟨rfl, rfl⟩
      have hexit : (clashB o (beforeP u p I k (k.ops.drop (t + 1))) a b || clashB o (beforeP u p I k (k.ops.drop (t + 1))) b a) = true → (Le (A.set qr (.cells [.bool false])) (H6.set qr (.cells [.bool false])) ∧ apartP u p I a b = false) ∧ (H6.set qr (.cells [.bool false])) r = some (.cells (ptC u p I k kk)) := fun h => ⟨⟨Le.set hl5, apart_op hkm ho h⟩, by rw [hset_ne qrr]; exact hr5⟩
      cases hx1 : clashB o (beforeP u p I k (k.ops.drop (t + 1))) a b with
      | true =>
        have hx := hexit (by rw [hx1]; rfl)
        simp [d36, e4, e5, e6, e8, b4, b5, b6, b8, wt, wt0, htl, hoe, opC]
        first
          | exact hx
          | simpa [hset_ne qrr] using hx
      | false =>
        simp [d36, e4, e5, e6, e8, b4, b5, b6, b8, wt, wt0, htl, hoe, opC]
        refine hc2.k ?_
        rintro x H7 ⟨rfl, rfl⟩
        cases hx2 : clashB o (beforeP u p I k (k.ops.drop (t + 1))) b a with
        | true =>
          have hx := hexit (by rw [hx2, Bool.or_true])
          simp [d36, e4, e5, e6, e8, b4, b5, b6, b8, wt, wt0, htl, hoe, opC]
          first
            | exact hx
            | simpa [hset_ne qrr] using hx
        | false =>
          simp [d36, e4, e5, e6, e8, b4, b5, b6, b8, wt, wt0, htl, hoe, opC]
          exact ⟨⟨hl5, fun t' h1 h2 => hnext (by rw [hob, hx1, hx2]; rfl) t' h1 (by omega)⟩, hr5⟩
    · rintro d H5 ⟨hl5, hbt⟩ hd5
      simp
      refine ⟨i35 + 1, i35, B2, hil, rfl, ⟨by simp [e0], by simp [e4], by simp [e5], by simp [e6], by simp [e33], by simp [e34], (hMA.mono hl5).push hd5, ma, mb, xr, mr⟩, by simp [e35], rfl, fun k' hk' => ?_⟩
      rw [List.take_add_one, hk] at hk'
      rcases List.mem_append.1 hk' with h1 | h1
      · exact hbad k' h1
      · simp at h1; subst h1; exact blk_ok hthr fun t ht => hbt t ht (by omega)
    · rintro cd d H5 ⟨rfl, hl5, hap⟩ hd5
      refine CW.walk1 hX mixed d36 rfl ?_
      simp
      have hM5 := (hMA.set (q := qr) (o := .cells [.bool false]) (.inr (by rw [mr]; simp))).mono hl5
      have hun : (fun i => if i = d then none else (H5.set d .dfr) i) = H5 := by
        funext i
        by_cases e : i = d
        · subst e; simp [hd5]
        · simp [e, Hp.set]
      rw [hun]
      refine leave_marks ?_ hM5
      intro H6 hle6
      have := hle6 qr _ set_at
      simp [e6, this, hap]
  rintro ⟨e, ds⟩ H1 ⟨B, x, e6, hM, mr, hbad⟩
  dsimp only at e6 hM
  have hr1 := hM.get mr
  refine CW.walk1 hX mixed d36 rfl ?_
  simp [e6, hr1]
  refine leave_marks (B := B.set qr (.cells [.bool true])) ?_ (hM.set (.inr (by rw [mr]; simp)))
  intro H3 hle3
  have := hle3 qr _ set_at
  simp [e6, this, apart_ok hent hbad]
end Go.Cl
