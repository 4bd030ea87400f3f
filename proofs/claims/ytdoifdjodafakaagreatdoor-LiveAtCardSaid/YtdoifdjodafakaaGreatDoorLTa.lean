/- DERIVED HERE. LiveAt. -/
import Derived.Test.YtdoifdjodafakaaGreatDoorTM
import Derived.Test.YtdoifdjodafakaaGreatDoorCP
import Derived.Test.YtdoifdjodafakaaGreatDoorLRl
set_option linter.unusedSimpArgs false
set_option linter.unusedVariables false
namespace Go.Cl
open Go.Proofs
variable {W : World} {G : Nat → CV}
set_option maxRecDepth 8000
section
variable {u : UUnit} {L : (Nat → Bool) → (Nat → Nat → Bool) → List Int}
theorem RfR.free {x : CE} {H' : Hp} (h : RfR u L x H') : FreeEnd x := by
  obtain ⟨p, c, I, v, _, _, _, rfl, h5⟩ := h.ex
  exact h5.free
theorem RfR.wkm {x : CE} {H' H2 : Hp} (h : RfR u L x H') (hl : Le (wkH H') H2) : RfR u L x H2 := by
  obtain ⟨p, c, I, v, h1, h2, h3, rfl, h5⟩ := h.ex
  exact ⟨p, c, I, v, h1, h2, h3, rfl, h5.wk.mono hl⟩
end
theorem refIn_f (hX : CxOk (cx W G)) {u : UUnit} (hu : wfU u = true) {H : Hp} {cs : List CV} (hf : Fz H (.agg cs) (.agg (unitC u))) (b : Nat) (k : UBlk) (hk : u.blocks[b]? = some k) : CC Tryz.prog W 12 [.agg cs, .int .i64 b] H fun x H' => RfR u (fun p I => upto (I b) u.regs.toNat) x H' ∧ Le H H' := by
  refine (CC.freeze3 (args' := [.agg (unitC u), .int .i64 b]) (R := RfR u (fun p I => upto (I b) u.regs.toNat)) (by rfl) (fz2' hf _) (fun x H' h => h.free) fun w hw => ?_).mono ?_
  · exact (refIn_c (W := w) (CxOk.later hX hw) u hu b k hk _).mono fun x H' h => h.1
  · rintro x H2 ⟨H', h1, h2, h3, _⟩
    exact ⟨h1.wkm h3, h2⟩
theorem refAt_f (hX : CxOk (cx W G)) {u : UUnit} (hu : wfU u = true) {H : Hp} {cs : List CV} (hf : Fz H (.agg cs) (.agg (unitC u))) (b i : Nat) (k : UBlk) (hk : u.blocks[b]? = some k) (hi : i ≤ k.ops.length) : CC Tryz.prog W 13 [.agg cs, .int .i64 b, .int .i64 i] H fun x H' => RfR u (fun p I => upto (beforeP u p I k (k.ops.drop i)) u.regs.toNat) x H' ∧ Le H H' := by
  refine (CC.freeze3 (args' := [.agg (unitC u), .int .i64 b, .int .i64 i]) (R := RfR u (fun p I => upto (beforeP u p I k (k.ops.drop i)) u.regs.toNat)) (by rfl) (fz3' hf _ _) (fun x H' h => h.free) fun w hw => ?_).mono ?_
  · exact (refAt_c (W := w) (CxOk.later hX hw) u hu b i k hk hi _).mono fun x H' h => h.1
  · rintro x H2 ⟨H', h1, h2, h3, _⟩
    exact ⟨h1.wkm h3, h2⟩
theorem refLast_f (hX : CxOk (cx W G)) {u : UUnit} (hu : wfU u = true) {H : Hp} {cs : List CV} (hf : Fz H (.agg cs) (.agg (unitC u))) (b i : Nat) (k : UBlk) (hk : u.blocks[b]? = some k) (hi : i ≤ k.ops.length) : CC Tryz.prog W 14 [.agg cs, .int .i64 b, .int .i64 i] H fun x H' => RfR u (fun p I => upto (fun r => (rdsOf k i).any (fun y => r == y.toNat) && !afterP u p I k i r) u.regs.toNat) x H' ∧ Le H H' := by
  refine (CC.freeze3 (args' := [.agg (unitC u), .int .i64 b, .int .i64 i]) (R := RfR u (fun p I => upto (fun r => (rdsOf k i).any (fun y => r == y.toNat) && !afterP u p I k i r) u.regs.toNat)) (by rfl) (fz3' hf _ _) (fun x H' h => h.free) fun w hw => ?_).mono ?_
  · exact (refLast_c (W := w) (CxOk.later hX hw) u hu b i k hk hi _).mono fun x H' h => h.1
  · rintro x H2 ⟨H', h1, h2, h3, _⟩
    exact ⟨h1.wkm h3, h2⟩
theorem live_in {u : UUnit} (hu : wfU u = true) {p : Nat → Bool} {I : Nat → Nat → Bool} (hl : LLeast u p I) (hb : BndN u I) {b : Nat} {k : UBlk} (hk : u.blocks[b]? = some k) : liveL u p I k 0 = upto (I b) u.regs.toNat := by
  have hbl := (List.getElem?_eq_some_iff.1 hk).1
  have h1 := hl.fix hbl
  have h2 : blkAt u b = k := by rw [blkAt, List.getD_eq_getElem?_getD, hk]; rfl
  rw [FP, h2] at h1
  simp only [liveL, List.drop_zero]
  rw [h1]
  exact upto_bnd (fun x hx => hb b x hx) (by have : mOf u = (u.regs.toNat + 63) / 64 := rfl; omega)
theorem live_at {u : UUnit} (hu : wfU u = true) {p : Nat → Bool} {I : Nat → Nat → Bool} (hb : BndN u I) {b : Nat} {k : UBlk} (hk : u.blocks[b]? = some k) (n : Nat) : liveL u p I k n = upto (beforeP u p I k (k.ops.drop n)) u.regs.toNat :=
  upto_bnd (fun x hx => before_bndN hu hb hk _ (fun o ho => List.mem_of_mem_drop ho) x hx) (by have : mOf u = (u.regs.toNat + 63) / 64 := rfl; omega)
theorem last_at {u : UUnit} (hu : wfU u = true) {p : Nat → Bool} {I : Nat → Nat → Bool} {b : Nat} {k : UBlk} (hk : u.blocks[b]? = some k) (n : Nat) : lastL u p I k n = upto (fun r => (rdsOf k n).any (fun y => r == y.toNat) && !afterP u p I k n r) u.regs.toNat :=
  upto_bnd (fun x hx => by
    simp only [Bool.and_eq_true, List.any_eq_true, beq_iff_eq] at hx
    obtain ⟨⟨y, h1, rfl⟩, _⟩ := hx
    have := (rds_facts hu hk n).1 y h1
    omega) (by have : mOf u = (u.regs.toNat + 63) / 64 := rfl; omega)
theorem Own.cases7 {B H : Hp} {v : CV} {l : List UOp} (h : Own B H v 7 (l.map opC)) : (v = .nilsl ∧ l.length = 0) ∨ ∃ r c, v = .ref r 0 l.length c := by
  obtain ⟨_, _, ⟨rfl, hx⟩ | ⟨r, c, ex, rfl, h1, h2, _, h4⟩⟩ := h
  · exact .inl ⟨rfl, by simpa using congrArg List.length hx⟩
  · exact .inr ⟨r, c, by simp⟩
set_option maxHeartbeats 2000000 in
theorem liveAt_c (hX : CxOk (cx W G)) (hG : G 0 = .iptr formsC) (u0 : UUnit) (b i : Int) (H : Hp) : CC Tryz.prog W 3 [.agg (unitC u0), ci b, ci i] H fun x H' => x = .ret (.bool true) ∧ H' = H := by
  refine CC.shrink ?_
  refine CC.of_cw hX Tryz.func3 rfl rfl (Nat.le_of_ble_eq_true rfl) ?_
  refine CW.walk hX mixed d3 rfl ?_
  simp
  intro q3 hq3
  refine CW.walk hX mixed d3 rfl ?_
  simp [unitC]
  have hc := small_c hX u0 (H.set q3 (.cells (unitC u0)))
  simp only [unitC] at hc
  refine hc.k ?_
  rintro x H1 ⟨cs, rfl, hle1, huv⟩
  obtain ⟨v0, v5, rfl, hb5⟩ := huv.b
  have hfz := huv.f
  have hok := small_ok u0
  clear huv hc
  have m3 : H1 q3 = some (.cells (unitC u0)) := hle1 _ _ set_at
  have hle1 := (Le.set_new hq3).trans hle1
  generalize cutU u0 60 600 = u at hfz hok hb5 ⊢
  simp
  intro q7 hq7
  have k37 : q3 ≠ q7 := fun e => by rw [← e, m3] at hq7; cases hq7
  generalize hH2 : H1.set q7 _ = H2
  have hle2 : Le H1 H2 := by rw [← hH2]; exact Le.set_new hq7
  have m7 : H2 q7 = some (.cells [v0, ci u.params, ci u.regs, ci u.code, ci u.spill, v5]) := by rw [← hH2]; exact set_at
  have m32 := hle2 _ _ m3
  clear hH2
  have hfz2 := hfz.mono hle2
  have hb2 := hb5.mono hle2
  have hle2 := hle1.trans hle2
  clear hfz hq7 m3 hq3 hb5
  simp only [unitC] at m32
  by_cases hsm : ¬ u0.regs ≤ 200 ∧ u0.regs ≤ 4096
  · obtain ⟨h1, h2⟩ := hsm
    refine CW.walk hX mixed d3 rfl ?_
    simp [h1, h2, m32]
    refine (alive_c hX hG _).k ?_
    rintro x H3 ⟨rfl, rfl⟩
    simp
    exact hle2
  refine CW.cut (fun s' H' => s'.env 1 = ci b ∧ s'.env 2 = ci i ∧ s'.env 7 = .ptr q7 0 ∧ s'.ds = [] ∧ H' = H2) ?_ ?_
  · refine CW.walk1 hX mixed d3 rfl ?_
    by_cases h1 : u0.regs ≤ 200
    · simp [h1]
    · have h2 : ¬ u0.regs ≤ 4096 := fun h => hsm ⟨h1, h⟩
      simp [h1, h2, m32]
  rintro ⟨e, ds⟩ H2' ⟨e1, e2, e7, rfl, rfl⟩
  dsimp only at e1 e2 e7
  clear hsm m32
  have huk := cutOk_uok hok
  have hw0 : IntKind.i64.wrap 0 = 0 := wrapI (by omega) (by omega)
  -- In
  refine CW.walk hX mixed d3 rfl ?_
  simp [e1, e2, e7, m7]
  refine (copy_f hX hok hfz2).k ?_
  rintro x H3 ⟨cs', rfl, hle3, huv3⟩
  have hl6 := huv3.l
  simp [e1, e2, e7]
  refine (in18_gf hX hG huk huv3.f b).k ?_
  rintro x H4 ⟨hI, hle4⟩
  have m74 := hle4 _ _ (hle3 _ _ m7)
  have hfz4 := (hfz2.mono hle3).mono hle4
  have hb4 := (hb2.mono hle3).mono hle4
  have hle4 := (hle2.trans hle3).trans hle4
  clear huv3 hfz2 m7 hl6 hle2 hle3
  by_cases he : errU u = 0
  rotate_left
  · obtain rfl := hI.er he
    simp
    refine CW.walk hX mixed d3 rfl ?_
    simp [e1, e2, e7, m74]
    refine (copy_f hX hok hfz4).k ?_
    rintro x H5 ⟨cs', rfl, hle5, huv5⟩
    have hl6 := huv5.l
    simp [e1, e2, e7]
    refine (at13_gf hX hG huk huv5.f b i).k ?_
    rintro x H6 ⟨hA, hle6⟩
    have m76 := hle6 _ _ (hle5 _ _ m74)
    have hfz6 := (hfz4.mono hle5).mono hle6
    have hle6 := (hle4.trans hle5).trans hle6
    obtain rfl := hA.er he
    simp
    refine CW.walk hX mixed d3 rfl ?_
    simp [e1, e2, e7, m76]
    refine (copy_f hX hok hfz6).k ?_
    rintro x H7 ⟨cs', rfl, hle7, huv7⟩
    have hl6 := huv7.l
    simp [e1, e2, e7]
    refine (last_f hX hG huk huv7.f b i).k ?_
    rintro x H8 ⟨hA, hle8⟩
    have m78 := hle8 _ _ (hle7 _ _ m76)
    have hfz8 := (hfz6.mono hle7).mono hle8
    have hle8 := (hle6.trans hle7).trans hle8
    obtain rfl := hA.er he
    simp
    refine CW.walk hX mixed d3 rfl ?_
    simp [e7, m78]
    refine (check24_f hX huk hfz8).k ?_
    rintro x H9 ⟨rfl, rfl⟩
    simp [he, hw0]
    refine (alive_c hX hG _).k ?_
    rintro x H10 ⟨rfl, rfl⟩
    simp
    exact hle8
  have hwf : wfU u = true := errU_wf.1 he
  obtain ⟨f1, f2, f3, f4, f5, f6, f7, f8, f9, f10, f11⟩ := wfU_facts hwf
  obtain ⟨rb, cb, csb, rfl, hrb, hblk⟩ : ∃ r c cs, v5 = .ref r 0 u.blocks.length c ∧ H4 r = some (.cells cs) ∧ ∀ (j : Nat) k, u.blocks[j]? = some k → ∃ x0, (cs.drop (j * 6)).take 6 = x0 :: blkT k ∧ Own E0 H4 x0 7 (k.ops.map opC) := by
    rcases hb4 with ⟨_, h0⟩ | h
    · rw [h0] at f7; simp at f7
    · exact h
  by_cases hbb : b < 0 ∨ (u.blocks.length : Int) ≤ b
  · have hb0 : noPl u b 0 := by rcases hbb with h | h; exact .inl h; exact .inr (.inl h)
    have hbi : noPl u b i := by rcases hbb with h | h; exact .inl h; exact .inr (.inl h)
    obtain rfl := hI.no he hb0
    simp
    refine CW.walk hX mixed d3 rfl ?_
    simp [e1, e2, e7, m74]
    refine (copy_f hX hok hfz4).k ?_
    rintro x H5 ⟨cs', rfl, hle5, huv5⟩
    have hl6 := huv5.l
    simp [e1, e2, e7]
    refine (at13_gf hX hG huk huv5.f b i).k ?_
    rintro x H6 ⟨hA, hle6⟩
    have m76 := hle6 _ _ (hle5 _ _ m74)
    have hfz6 := (hfz4.mono hle5).mono hle6
    have hle46 := hle5.trans hle6
    have hle6 := hle4.trans hle46
    obtain rfl := hA.no he hbi
    simp
    refine CW.walk hX mixed d3 rfl ?_
    simp [e1, e2, e7, m76]
    refine (copy_f hX hok hfz6).k ?_
    rintro x H7 ⟨cs', rfl, hle7, huv7⟩
    have hl6 := huv7.l
    simp [e1, e2, e7]
    refine (last_f hX hG huk huv7.f b i).k ?_
    rintro x H8 ⟨hA, hle8⟩
    have m78 := hle8 _ _ (hle7 _ _ m76)
    have hfz8 := (hfz6.mono hle7).mono hle8
    have hle68 := hle7.trans hle8
    have hle8 := hle6.trans hle68
    obtain rfl := hA.no he hbi
    simp
    refine CW.walk hX mixed d3 rfl ?_
    simp [e7, m78]
    refine (check24_f hX huk hfz8).k ?_
    rintro x H9 ⟨rfl, rfl⟩
    simp [he]
    refine CW.cut (fun s' H' => False) ?_ (fun _ _ h => h.elim)
    refine CW.walk1 hX mixed d3 rfl ?_
    by_cases h1 : b < 0
    · simp [d3, h1, e1, hw0]
      refine (alive_c hX hG _).k ?_
      rintro x H10 ⟨rfl, rfl⟩
      simp
      exact hle8
    · have h2 : (u.blocks.length : Int) ≤ b := hbb.resolve_left h1
      simp [d3, h1, h2, e1, e7, hw0, m78]
      refine (alive_c hX hG _).k ?_
      rintro x H10 ⟨rfl, rfl⟩
      simp
      exact hle8
  obtain ⟨bn, hbn⟩ := Int.eq_ofNat_of_zero_le (show 0 ≤ b by omega)
  subst hbn
  have hbl : bn < u.blocks.length := by omega
  obtain ⟨k, hke⟩ : ∃ k, u.blocks[bn] = k := ⟨_, rfl⟩
  have hk : u.blocks[bn]? = some k := by rw [List.getElem?_eq_getElem hbl, hke]
  obtain ⟨g1, g2, g3, g4⟩ := wfB_facts hwf hk
  obtain ⟨x0, hx0, hox⟩ := hblk bn k hk
  obtain ⟨p, c, I, vI, hp, hl, hbd, rfl, hvI⟩ := hI.ok he bn 0 k rfl rfl hk (Nat.zero_le _)
  simp
  have hlen : bn * 6 + 6 ≤ csb.length := by
    have := congrArg List.length hx0
    simp [blkT] at this
    omega
  have hcell : csb[bn * 6]? = some x0 := by
    have := congrArg (fun l : List CV => l[0]?) hx0
    simpa [List.getElem?_take, List.getElem?_drop] using this
  by_cases hii : i < 0 ∨ (k.ops.length : Int) < i
  · have hbi : noPl u bn i := by
      rcases hii with h | h
      · exact .inr (.inr (.inl h))
      · exact .inr (.inr (.inr ⟨k, by simpa using hk, h⟩))
    refine CW.walk hX mixed d3 rfl ?_
    simp [e1, e2, e7, m74]
    refine (copy_f hX hok hfz4).k ?_
    rintro x H5 ⟨cs', rfl, hle5, huv5⟩
    have hl6 := huv5.l
    simp [e1, e2, e7]
    refine (at13_gf hX hG huk huv5.f bn i).k ?_
    rintro x H6 ⟨hA, hle6⟩
    have m76 := hle6 _ _ (hle5 _ _ m74)
    have hfz6 := (hfz4.mono hle5).mono hle6
    have hle46 := hle5.trans hle6
    have hle6 := hle4.trans hle46
    obtain rfl := hA.no he hbi
    simp
    refine CW.walk hX mixed d3 rfl ?_
    simp [e1, e2, e7, m76]
    refine (copy_f hX hok hfz6).k ?_
    rintro x H7 ⟨cs', rfl, hle7, huv7⟩
    have hl6 := huv7.l
    simp [e1, e2, e7]
    refine (last_f hX hG huk huv7.f bn i).k ?_
    rintro x H8 ⟨hA, hle8⟩
    have m78 := hle8 _ _ (hle7 _ _ m76)
    have hfz8 := (hfz6.mono hle7).mono hle8
    have hle68 := hle7.trans hle8
    have hle8 := hle6.trans hle68
    obtain rfl := hA.no he hbi
    simp
    refine CW.walk hX mixed d3 rfl ?_
    simp [e7, m78]
    refine (check24_f hX huk hfz8).k ?_
    rintro x H9 ⟨rfl, rfl⟩
    simp [he]
    refine CW.walk hX mixed d3 rfl ?_
    simp [d3, e1, e7, m78, show ¬ u.blocks.length ≤ bn by omega, show ¬ (bn : Int) < 0 by omega]
    refine CW.walk hX mixed d3 rfl ?_
    simp [e1, e7, m78]
    refine (refIn_f hX hwf hfz8 bn k hk).k ?_
    rintro x H10 ⟨hR, hle10⟩
    obtain ⟨p', c', I', vR, hp', hl', hbn', rfl, hvR⟩ := hR.ex
    obtain ⟨rfl, rfl⟩ := hp.unique hp'
    obtain rfl := hl.unique hl'
    simp
    refine (same_f hX (((hvI.mono hle46).mono hle68).mono hle10) hvR (by have := upto_len (beforeP u p I k (k.ops.drop 0)) (64 * mOf u); simp only [liveL]; omega)).k ?_
    rintro x H11 ⟨rfl, rfl⟩
    have heq : liveL u p I k 0 = upto (I bn) u.regs.toNat := live_in hwf hl hbn' hk
    simp [heq]
    have hle410 := (hle46.trans hle68).trans hle10
    have m710 := hle10 _ _ m78
    have mb10 := hle410 _ _ hrb
    have hfz10 := hfz8.mono hle10
    refine CW.cut (fun s' H' => False) ?_ (fun _ _ h => h.elim)
    refine CW.walk1 hX mixed d3 rfl ?_
    by_cases h1 : i < 0
    · simp [d3, h1, e2, hw0]
      refine (alive_c hX hG _).k ?_
      rintro x H12 ⟨rfl, rfl⟩
      simp
      exact hle8.trans hle10
    · have h2 : (k.ops.length : Int) < i := hii.resolve_left h1
      rcases hox.cases7 with ⟨rfl, h0⟩ | ⟨r0, c0, rfl⟩
      · simp [d3, h1, e1, e2, e7, hw0, m710, mb10, hbl, hcell, show (0 : Int) < i by omega]
        refine (alive_c hX hG _).k ?_
        rintro x H12 ⟨rfl, rfl⟩
        simp
        exact hle8.trans hle10
      · simp [d3, h1, h2, e1, e2, e7, hw0, m710, mb10, hbl, hcell]
        refine (alive_c hX hG _).k ?_
        rintro x H12 ⟨rfl, rfl⟩
        simp
        exact hle8.trans hle10
  obtain ⟨n, hn⟩ := Int.eq_ofNat_of_zero_le (show 0 ≤ i by omega)
  subst hn
  have hnk : n ≤ k.ops.length := by omega
  refine CW.walk hX mixed d3 rfl ?_
  simp [e1, e2, e7, m74]
  refine (copy_f hX hok hfz4).k ?_
  rintro x H5 ⟨cs', rfl, hle5, huv5⟩
  have hl6 := huv5.l
  simp [e1, e2, e7]
  refine (at13_gf hX hG huk huv5.f bn n).k ?_
  rintro x H6 ⟨hA, hle6⟩
  have m76 := hle6 _ _ (hle5 _ _ m74)
  have hfz6 := (hfz4.mono hle5).mono hle6
  have hle46 := hle5.trans hle6
  have hle6 := hle4.trans hle46
  obtain ⟨p', c', I', vA, hp', hl', hbd', rfl, hvA⟩ := hA.ok he bn n k rfl rfl hk hnk
  obtain ⟨rfl, rfl⟩ := hp.unique hp'
  obtain rfl := hl.unique hl'
  simp
  refine CW.walk hX mixed d3 rfl ?_
  simp [e1, e2, e7, m76]
  refine (copy_f hX hok hfz6).k ?_
  rintro x H7 ⟨cs', rfl, hle7, huv7⟩
  have hl6 := huv7.l
  simp [e1, e2, e7]
  refine (last_f hX hG huk huv7.f bn n).k ?_
  rintro x H8 ⟨hA, hle8⟩
  have m78 := hle8 _ _ (hle7 _ _ m76)
  have hfz8 := (hfz6.mono hle7).mono hle8
  have hle68 := hle7.trans hle8
  have hle8 := hle6.trans hle68
  obtain ⟨p', c', I', vL, hp', hl', hbd', rfl, hvL⟩ := hA.ok he bn n k rfl rfl hk hnk
  obtain ⟨rfl, rfl⟩ := hp.unique hp'
  obtain rfl := hl.unique hl'
  simp
  refine CW.walk hX mixed d3 rfl ?_
  simp [e7, m78]
  refine (check24_f hX huk hfz8).k ?_
  rintro x H9 ⟨rfl, rfl⟩
  simp [he]
  refine CW.walk hX mixed d3 rfl ?_
  simp [d3, e1, e7, m78, show ¬ u.blocks.length ≤ bn by omega, show ¬ (bn : Int) < 0 by omega]
  refine CW.walk hX mixed d3 rfl ?_
  simp [e1, e7, m78]
  refine (refIn_f hX hwf hfz8 bn k hk).k ?_
  rintro x H10 ⟨hR, hle10⟩
  obtain ⟨p', c', I', vR, hp', hl', hbn', rfl, hvR⟩ := hR.ex
  obtain ⟨rfl, rfl⟩ := hp.unique hp'
  obtain rfl := hl.unique hl'
  simp
  refine (same_f hX (((hvI.mono hle46).mono hle68).mono hle10) hvR (by have := upto_len (beforeP u p I k (k.ops.drop 0)) (64 * mOf u); simp only [liveL]; omega)).k ?_
  rintro x H11 ⟨rfl, rfl⟩
  have heq : liveL u p I k 0 = upto (I bn) u.regs.toNat := live_in hwf hl hbn' hk
  simp [heq]
  have hle410 := (hle46.trans hle68).trans hle10
  have m710 := hle10 _ _ m78
  have mb10 := hle410 _ _ hrb
  have hfz10 := hfz8.mono hle10
  refine CW.cut (fun s' H' => s'.env 1 = .int .i64 bn ∧ s'.env 2 = .int .i64 n ∧ s'.env 7 = .ptr q7 0 ∧ s'.env 11 = vA ∧ s'.env 12 = ci 0 ∧ s'.env 13 = vL ∧ s'.env 14 = ci 0 ∧ s'.ds = [] ∧ H' = H11) ?_ ?_
  · refine CW.walk1 hX mixed d3 rfl ?_
    rcases hox.cases7 with ⟨rfl, h0⟩ | ⟨r0, c0, rfl⟩
    · simp [d3, e1, e2, e7, m710, mb10, hbl, hcell, show ¬ (n : Int) < 0 by omega, show ¬ (0 : Int) < n by omega, show n = 0 by omega]
    · simp [d3, e1, e2, e7, m710, mb10, hbl, hcell, show ¬ (n : Int) < 0 by omega, show ¬ k.ops.length < n by omega]
  rintro ⟨e', ds⟩ H12 ⟨e1, e2, e7, e11, e12, e13, e14, rfl, rfl⟩
  dsimp only at e1 e2 e7 e11 e12 e13 e14
  refine CW.walk1 hX mixed d3 rfl ?_
  simp [e1, e2, e7, e11, e12, e13, e14, m710]
  refine (refAt_f hX hwf hfz10 bn n k hk hnk).k ?_
  rintro x H13 ⟨hR, hle13⟩
  obtain ⟨p', c', I', vR2, hp', hl', _, rfl, hvR2⟩ := hR.ex
  obtain ⟨rfl, rfl⟩ := hp.unique hp'
  obtain rfl := hl.unique hl'
  simp
  have hl610 := hle68.trans hle10
  refine (same_f hX ((hvA.mono hl610).mono hle13) hvR2 (by have := upto_len (beforeP u p I k (k.ops.drop n)) (64 * mOf u); simp only [liveL]; omega)).k ?_
  rintro x H14 ⟨rfl, rfl⟩
  have heq2 : liveL u p I k n = upto (beforeP u p I k (k.ops.drop n)) u.regs.toNat := live_at hwf hbn' hk n
  simp [heq2, e7, e1, e2, hle13 _ _ m710]
  refine (refLast_f hX hwf (hfz10.mono hle13) bn n k hk hnk).k ?_
  rintro x H15 ⟨hR, hle15⟩
  obtain ⟨p', c', I', vR3, hp', hl', _, rfl, hvR3⟩ := hR.ex
  obtain ⟨rfl, rfl⟩ := hp.unique hp'
  obtain rfl := hl.unique hl'
  simp [e13]
  have hl815 := (hle10.trans hle13).trans hle15
  refine (same_f hX (hvL.mono hl815) hvR3 (by have := upto_len (fun r => (rdsOf k n).any (fun y => r == y.toNat) && !afterP u p I k n r) (64 * mOf u); simp only [lastL]; omega)).k ?_
  rintro x H16 ⟨rfl, rfl⟩
  have heq3 : lastL u p I k n = upto (fun r => (rdsOf k n).any (fun y => r == y.toNat) && !afterP u p I k n r) u.regs.toNat := last_at hwf hk n
  simp [heq3]
  refine (alive_c hX hG _).k ?_
  rintro x H17 ⟨rfl, rfl⟩
  simp
  exact hle8.trans hl815
end Go.Cl
