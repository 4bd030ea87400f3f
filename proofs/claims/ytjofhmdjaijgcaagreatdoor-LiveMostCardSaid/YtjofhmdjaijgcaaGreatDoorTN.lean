/- DERIVED HERE. LiveMost. -/
import Derived.Test.YtjofhmdjaijgcaaGreatDoorOD
import Derived.Test.YtjofhmdjaijgcaaGreatDoorTQ
set_option linter.unusedSimpArgs false
set_option linter.unusedVariables false
namespace Go.Cl.Gd
open Go.Proofs
variable {W : World} {G : Nat → CV}
set_option maxRecDepth 8000
theorem lleast_bndN {u : UUnit} (hu : wfU u = true) {p : Nat → Bool} {I : Nat → Nat → Bool} (h : LLeast u p I) : BndN u I := by
  have hJ : BndN u (fun b x => I b x && decide (x < u.regs.toNat)) := fun b x hx => by
    simp only [Bool.and_eq_true, decide_eq_true_eq] at hx
    exact hx.2
  have hc : LCl u p (fun b x => I b x && decide (x < u.regs.toNat)) := fun b hb x hx => by
    have h1 := FP_bndN hu hJ hb hx
    have h2 := h.1 b hb x (FP_mono (fun b x hx => by simp only [Bool.and_eq_true] at hx; exact hx.1) b x hx)
    simp only [h1, h2, decide_true, Bool.and_self]
  exact fun b x hx => hJ b x (h.2 _ hc b x hx)
theorem live_le_most {u : UUnit} {p : Nat → Bool} {I : Nat → Nat → Bool} {l : List Nat} {b n : Nat} {k : UBlk} (hb : b ∈ l) (hk : u.blocks[b]? = some k) (hn : n ≤ k.ops.length) : (liveL u p I k n).length ≤ maxL (mostL u p I l) := by
  refine le_maxL ?_
  simp only [mostL, List.mem_flatMap]
  refine ⟨b, hb, ?_⟩
  rw [hk]
  simp only [mostB, List.mem_map, List.mem_range]
  exact ⟨k.ops.length - n, by omega, by rw [show k.ops.length - (k.ops.length - n) = n by omega]; rfl⟩
theorem most_le {u : UUnit} (hu : wfU u = true) {p : Nat → Bool} {I : Nat → Nat → Bool} (hl : LLeast u p I) (l : List Nat) : maxL (mostL u p I l) ≤ u.regs.toNat := by
  have hm : mOf u = (u.regs.toNat + 63) / 64 := rfl
  refine maxL_le fun x hx => ?_
  simp only [mostL, List.mem_flatMap] at hx
  obtain ⟨b, _, hx⟩ := hx
  cases hk : u.blocks[b]? with
  | none => rw [hk] at hx; simp at hx
  | some k =>
    rw [hk] at hx
    simp only [mostB, List.mem_map, List.mem_range] at hx
    obtain ⟨kk, _, rfl⟩ := hx
    rw [upto_bnd (before_bndN hu (lleast_bndN hu hl) hk _ fun o ho => List.mem_of_mem_drop ho) (by omega)]
    exact upto_len _ _
theorem last_in {u : UUnit} {p : Nat → Bool} {I : Nat → Nat → Bool} {k : UBlk} {n : Nat} (hn : n ≤ k.ops.length) {x : Int} (hx : x ∈ lastL u p I k n) : x ∈ liveL u p I k n := by
  simp only [lastL, liveL, mem_upto] at hx ⊢
  obtain ⟨r, h1, h2, rfl⟩ := hx
  refine ⟨r, h1, ?_, rfl⟩
  simp only [Bool.and_eq_true] at h2
  have h2 := h2.1
  cases ho : k.ops[n]? with
  | some o =>
    simp only [rdsOf, ho] at h2
    have hl := (List.getElem?_eq_some_iff.1 ho).1
    have hd : k.ops.drop n = o :: k.ops.drop (n + 1) := by
      rw [List.drop_eq_getElem_cons hl, (List.getElem?_eq_some_iff.1 ho).2]
    rw [hd]
    show stepP u p I k o (beforeP u p I k (k.ops.drop (n + 1))) r = true
    simp only [stepP, h2, Bool.or_true]
  | none =>
    simp only [rdsOf, ho] at h2
    rw [List.drop_eq_nil_of_le (by have := List.getElem?_eq_none_iff.1 ho; omega)]
    show endP u p I k r = true
    by_cases h1 : k.en.kind = 1
    · simp [endRd, h1] at h2
    · simp [endRd, h1] at h2
      simp [endP, h1, h2]
theorem last_out {u : UUnit} {p : Nat → Bool} {I : Nat → Nat → Bool} {k : UBlk} {n : Nat} (hn : n < k.ops.length) {x : Int} (hx : x ∈ lastL u p I k n) : x ∉ liveL u p I k (n + 1) := by
  intro hy
  simp only [lastL, liveL, mem_upto] at hx hy
  obtain ⟨r, h1, h2, rfl⟩ := hx
  obtain ⟨r', h3, h4, h5⟩ := hy
  obtain rfl : r = r' := by omega
  simp only [Bool.and_eq_true] at h2
  have h2 := h2.2
  simp only [afterP, List.getElem?_eq_getElem hn, h4, Bool.true_or] at h2
  simp at h2
structure lmI (u : UUnit) (vl vt : CV) (bn kn : Nat) (H9 : Hp) (n d m : Nat) (s' : CA) (H' : Hp) : Prop where
  ex : ∃ i i19 : Nat, m = n - i ∧ i ≤ n ∧ s'.env 7 = .iptr (unitC u) ∧ s'.env 13 = .int .i64 bn ∧ s'.env 14 = .int .i64 kn ∧ s'.env 15 = vl ∧ s'.env 17 = vt ∧ s'.env 19 = .int .i64 i19 ∧ i19 + d = i ∧ s'.ds = [] ∧ Le H9 H'
theorem liveMost_c (hX : CxOk (cx W G)) (hG : G 0 = .iptr formsC) (u0 : UUnit) (xb xa : Nat) (hxb : xb ≤ 65535) (hxa : xa ≤ 65535) (H : Hp) : CC Tryz.prog W 5 [.agg (unitC u0), .int .u16 xb, .int .u16 xa] H fun x H' => x = .ret (.bool true) ∧ H' = H := by
  refine CC.shrink ?_
  refine CC.of_cw hX Tryz.func5 rfl rfl (Nat.le_of_ble_eq_true rfl) ?_
  refine CW.walk hX mixed d5 rfl ?_
  simp
  intro q1 hq1
  refine CW.walk hX mixed d5 rfl ?_
  simp [unitC]
  have hc := small_c hX u0 (H.set q1 (.cells (unitC u0)))
  simp only [unitC] at hc
  refine hc.k ?_
  rintro x H1 ⟨cs, rfl, hle1, huv⟩
  obtain ⟨v0, v5, rfl, hb5⟩ := huv.b
  have hfz := huv.f
  have hok := small_ok u0
  clear huv hc hb5
  generalize cutU u0 60 600 = u at hfz hok ⊢
  have hle1 := (Le.set_new hq1).trans hle1
  simp
  intro q3 hq3
  generalize hH2 : H1.set q3 _ = H2
  have hle2 : Le H1 H2 := by rw [← hH2]; exact Le.set_new hq3
  have m3 : H2 q3 = some (.cells [v0, ci u.params, ci u.regs, ci u.code, ci u.spill, v5]) := by rw [← hH2]; exact set_at
  clear hH2
  have hfz2 := hfz.mono hle2
  have hle2 := hle1.trans hle2
  clear hfz hq3 hle1
  by_cases hs : u0.regs ≤ 200
  rotate_left
  · refine CW.walk hX mixed d5 rfl ?_
    simp [hs, m3]
    refine (alive_c hX hG _).k ?_
    rintro x H3 ⟨rfl, rfl⟩
    simp
    exact hle2
  have hr := right_f hX hG hok hfz2
  by_cases hw : wfU u = true
  rotate_left
  · refine CW.walk hX mixed d5 rfl ?_
    simp [hs, m3]
    refine hr.k ?_
    rintro x H3 ⟨rfl, rfl⟩
    simp [hw]
    refine (alive_c hX hG _).k ?_
    rintro x H4 ⟨rfl, rfl⟩
    simp
    exact hle2
  refine CW.cut (fun s' H' => H' = H2 ∧ s'.env 7 = .ptr q3 0 ∧ s'.env 1 = .int .u16 xb ∧ s'.env 2 = .int .u16 xa ∧ s'.ds = []) ?_ ?_
  · refine CW.walk1 hX mixed d5 rfl ?_
    simp [hs, m3]
    refine hr.k ?_
    rintro x H3 ⟨rfl, rfl⟩
    simp [hw]
  clear hr hs
  rintro ⟨e, ds⟩ H3 ⟨rfl, e7, e1, e2, rfl⟩
  dsimp only at e7 e1 e2
  refine CW.freeze (e' := e.set 7 (.iptr (unitC u))) (R := fun e2 => e2 6 = .bool true) ?_ rfl (fun w hw' => ?_) ?_
  · intro t
    by_cases h7 : t = 7
    · subst h7
      show Fz H3 (e 7) _
      rw [e7]
      rw [show (e.set 7 (.iptr (unitC u))) 7 = .iptr (unitC u) by simp]
      cases hfz2 with
      | same => exact .ptr q3 0 _ _ m3 (fun j => ((unitC u)[j]?).getD .any) (fun j hj => by rw [Nat.zero_add]; show (unitC u)[j]? = _; rw [List.getElem?_eq_getElem hj]; rfl) (fun j x hx => by rw [hx]; exact .same _)
      | agg _ _ _ y hy hf => exact .ptr q3 0 _ _ m3 y (fun j hj => by rw [Nat.zero_add]; exact hy j hj) hf
    · simp [h7]
      exact .same _
  · have hXw : CxOk (cx w G) := CxOk.later hX hw'
    have hok := cutOk_uok hok
    clear hX hle2 m3 hfz2
    have he : errU u = 0 := errU_wf.2 hw
    obtain ⟨f1, f2, f3, f4, f5, f6, f7, f8, f9, f10, f11⟩ := wfU_facts hw
    have hun : (CV.iptr (unitC u)) = .iptr [.sl 1 (u.sizes.map fun n => [ci n]), ci u.params, ci u.regs, ci u.code, ci u.spill, .sl 6 (u.blocks.map blkC)] := rfl
    refine CW.walk hXw mixed d5 rfl ?_
    simp [hun]
    have hm := most_c hXw hG u hok (fun _ => none)
    simp only [unitC] at hm
    refine hm.k ?_
    rintro x Ha ⟨v, rfl, hv⟩
    obtain ⟨p, c, I, hp, hl, rfl⟩ := hv.2 he
    clear hm hv
    obtain ⟨M, hM⟩ : ∃ M, maxL (mostL u p I (ordL (nextN u p) u.blocks.length)) = M := ⟨_, rfl⟩
    have hM1 : M ≤ u.regs.toNat := by rw [← hM]; exact most_le hw hl _
    simp [hM]
    have ho := order_c hXw hG u hok Ha
    simp only [unitC] at ho
    refine CW.walk hXw mixed d5 rfl ?_
    simp [hun]
    refine ho.k ?_
    rintro x Hb hO
    obtain ⟨p2, c2, vo, hp2, rfl, hso⟩ := hO.ok he
    obtain ⟨rfl, rfl⟩ := hp.unique hp2
    clear ho hO hp2
    have hNb : ∀ b, b < u.blocks.length → ∀ k ∈ nextN u p b, k < u.blocks.length := nextN_lt
    have hOR := ord_of (by omega : 0 < u.blocks.length) hNb (f := u.blocks.length) (Nat.le_refl _)
    have hlt := hOR.lt
    have hnl := nodup_le _ _ hOR.nd hlt
    have hz := hOR.ok.h
    change ∀ b ∈ ordL (nextN u p) u.blocks.length, b < u.blocks.length at hlt
    change (ordL (nextN u p) u.blocks.length).length ≤ _ at hnl
    change (ordL (nextN u p) u.blocks.length)[0]? = some 0 at hz
    have hM2 := fun b n k hb hk hn => live_le_most (u := u) (p := p) (I := I) (l := ordL (nextN u p) u.blocks.length) (b := b) (n := n) (k := k) hb hk hn
    rw [hM] at hM2
    clear hOR hM
    generalize ordL (nextN u p) u.blocks.length = ord at hso hlt hnl hz hM2
    have h0 : 0 < ord.length := (List.getElem?_eq_some_iff.1 hz).1
    rcases hso with ⟨_, h⟩ | ⟨ro, co, cso, rfl, mo, hco⟩
    · simp [natL] at h; rw [h] at h0; simp at h0
    rw [natL_len]
    simp
    refine CW.walk hXw mixed d5 rfl ?_
    simp [hun, show ¬ u.regs < (M : Int) by omega]
    have hj : xb % ord.length < ord.length := Nat.mod_lt _ h0
    have ht1 : ((xb : Int)).tmod (ord.length : Int) = ((xb % ord.length : Nat) : Int) := by rw [tmodI (by omega)]; rfl
    have hne : ¬ ord = [] := fun e => by rw [e] at h0; simp at h0
    generalize xb % ord.length = jn at hj ht1
    obtain ⟨bn, hbn⟩ : ∃ b, ord[jn]? = some b := ⟨_, List.getElem?_eq_getElem hj⟩
    have hbl := hlt bn (List.mem_of_getElem? hbn)
    have hcb := hco jn (bn : Int) (by rw [natL, List.getElem?_map, hbn]; rfl)
    have hw1 : IntKind.i64.wrap (xb : Int) = xb := wrapI (by omega) (by omega)
    refine CW.walk hXw mixed d5 rfl ?_
    simp [e1, hw1, ht1, mo, hj, hcb, hne]
    have hkb : ∃ k, u.blocks[bn]? = some k := ⟨_, List.getElem?_eq_getElem hbl⟩
    obtain ⟨k, hk⟩ := hkb
    obtain ⟨g1, g2, g3, g4⟩ := wfB_facts hw hk
    have hke : u.blocks[bn] = k := (List.getElem?_eq_some_iff.1 hk).2
    have hj2 : xa % (k.ops.length + 1) < k.ops.length + 1 := Nat.mod_lt _ (by omega)
    have hw2 : IntKind.i64.wrap (xa : Int) = xa := wrapI (by omega) (by omega)
    have hw3 : IntKind.i64.wrap ((k.ops.length : Int) + 1) = k.ops.length + 1 := wrapI (by omega) (by omega)
    have ht2 : ((xa : Int)).tmod ((k.ops.length : Int) + 1) = ((xa % (k.ops.length + 1) : Nat) : Int) := by rw [tmodI (by omega)]; rfl
    generalize xa % (k.ops.length + 1) = kn at hj2 ht2
    refine CW.walk hXw mixed d5 rfl ?_
    simp [hun, e2, hbl, hke, blkC, hw2, hw3, ht2, show ¬ (k.ops.length : Int) + 1 = 0 by omega]
    have hkn : kn ≤ k.ops.length := by omega
    have hM3 := hM2 bn kn k (List.mem_of_getElem? hbn) hk hkn
    have hat := fun (n : Nat) H => at13_g hXw hG u hok bn n H
    have hla := fun (n : Nat) H => last_g hXw hG u hok bn n H
    simp only [unitC] at hat hla
    refine CW.walk hXw mixed d5 rfl ?_
    simp [hun]
    refine (hat kn Hb).k ?_
    rintro x Hc ⟨hA, hleC⟩
    obtain ⟨p', c', I', vl, hp', hl', hbd, rfl, hvl⟩ := hA.ok he bn kn k rfl rfl hk hkn
    obtain ⟨rfl, rfl⟩ := hp.unique hp'
    obtain rfl := hl.unique hl'
    simp
    clear hA hp' hl'
    refine CW.walk hXw mixed d5 rfl ?_
    simp [hun]
    refine (hla kn Hc).k ?_
    rintro x Hd ⟨hA, hleD⟩
    obtain ⟨p', c', I', vt, hp', hl', _, rfl, hvt⟩ := hA.ok he bn kn k rfl rfl hk hkn
    obtain ⟨rfl, rfl⟩ := hp.unique hp'
    obtain rfl := hl.unique hl'
    simp
    clear hA hp' hl'
    have hvl := hvl.mono hleD
    have hin := fun x => last_in (u := u) (p := p) (I := I) (x := x) hkn
    have hout := fun (h : kn < k.ops.length) x => last_out (u := u) (p := p) (I := I) (x := x) h
    have hll := upto_len (beforeP u p I k (k.ops.drop kn)) (64 * mOf u)
    change (liveL u p I k kn).length ≤ _ at hll
    have htl : (lastL u p I k kn).length ≤ 64 * mOf u := upto_len _ _
    generalize liveL u p I k kn = L at hvl hin hM3 hll
    generalize lastL u p I k kn = T at hvt hin hout htl
    refine CW.cut (fun s' H' => H' = Hd ∧ s'.env 7 = .iptr (unitC u) ∧ s'.env 13 = .int .i64 bn ∧ s'.env 14 = .int .i64 kn ∧ s'.env 15 = vl ∧ s'.env 17 = vt ∧ s'.ds = []) ?_ ?_
    · refine CW.walk1 hXw mixed d5 rfl ?_
      rcases hvl with ⟨rfl, hL⟩ | ⟨r, cc, cs, rfl, _⟩
      · simp [show ¬ (M : Int) < 0 by omega]
        rfl
      · simp [show ¬ M < L.length by omega]
        rfl
    clear e7 e1 e2
    clear e
    rintro ⟨e, ds⟩ H4 ⟨rfl, e7, e13, e14, e15, e17, rfl⟩
    dsimp only at e7 e13 e14 e15 e17
    refine CW.cut (fun s' H' => s'.ds = []) ?_ ?_
    · refine CW.walk hXw mixed d5 rfl ?_
      simp
      refine CW.block ?_
      refine CW.loop (lmI u vl vt bn kn H4 T.length 0) ?_ (m := T.length) ⟨0, 0, rfl, by omega, by simp [e7], by simp [e13], by simp [e14], by simp [e15], by simp [e17], by simp, rfl, rfl, Le.refl _⟩
      clear e7 e13 e14 e15 e17
      clear e
      rintro m ⟨e, ds⟩ H5 ⟨i, i19, rfl, hi, e7, e13, e14, e15, e17, e19, hi19, rfl, hle5⟩
      obtain rfl : i = i19 := by omega
      dsimp only at e7 e13 e14 e15 e17 e19
      by_cases hit : i < T.length
      rotate_left
      · refine CW.walk hXw mixed d5 rfl ?_
        rcases hvt with ⟨rfl, rfl⟩ | ⟨r, cc, cs, rfl, _⟩
        · simp [e17, e19]
          omega
        · simp [e17, e19, hit]
      obtain ⟨rt, cct, cst, rfl, mt, hct⟩ : ∃ r c cs, vt = .ref r 0 T.length (T.length + c) ∧ H4 r = some (.cells cs) ∧ ∀ (k : Nat) x, T[k]? = some x → cs[k]? = some (ci x) := by
        rcases hvt with ⟨_, rfl⟩ | h
        · simp at hit
        · exact h
      obtain ⟨y, hy⟩ : ∃ y, T[i]? = some y := ⟨_, List.getElem?_eq_getElem hit⟩
      have hcy := hct i y hy
      have hyT := List.mem_of_getElem? hy
      have mt5 := hle5 _ _ mt
      refine CW.walk hXw mixed d5 rfl ?_
      simp [e17, e19, hit]
      refine CW.cut (lmI u vl (.ref rt 0 T.length (T.length + cct)) bn kn H4 T.length 1 (T.length - (i + 1))) ?_ ?_
      rotate_left
      · clear e7 e13 e14 e15 e17 e19
        clear e hle5 mt5 H5
        rintro ⟨e, ds⟩ H5 ⟨i2, i19, hm, hi2, e7, e13, e14, e15, e17, e19, hi19, rfl, hle5⟩
        dsimp only at e7 e13 e14 e15 e17 e19
        obtain rfl : i2 = i + 1 := by omega
        obtain rfl : i = i19 := by omega
        refine CW.walk1 hXw mixed d5 rfl ?_
        simp [e19]
        exact ⟨T.length - (i + 1), by omega, i + 1, i + 1, rfl, hi2, by simp [e7], by simp [e13], by simp [e14], by simp [e15], by simp [e17], by simp; rw [wrapI (by omega) (by omega)], rfl, rfl, hle5⟩
      refine CW.block ?_
      refine CW.walk hXw mixed d5 rfl ?_
      simp [d5, e15, e17, e19, hit, mt5, hcy]
      refine (has14_f hXw y (hvl.mono hle5) (by omega)).k ?_
      rintro x H6 ⟨rfl, rfl⟩
      simp [d5, hin y hyT]
      by_cases hkk : kn = k.ops.length
      · refine CW.walk hXw mixed d5 rfl ?_
        simp [d5, e7, e13, e14, hun, hbl, hke, blkC, hkk]
        exact ⟨i + 1, i, rfl, by omega, by simp [e7], by simp [e13], by simp [e14, hkk], by simp [e15], by simp [e17], by simp [e19], rfl, rfl, hle5⟩
      have hkl : kn < k.ops.length := by omega
      have hkk : ¬ (kn : Int) = k.ops.length := by omega
      refine CW.walk hXw mixed d5 rfl ?_
      simp [d5, e7, e13, e14, hun, hbl, hke, blkC, hkk]
      have hw4 : IntKind.i64.wrap ((kn : Int) + 1) = ((kn + 1 : Nat) : Int) := by rw [wrapI (by omega) (by omega)]; rfl
      refine CW.walk hXw mixed d5 rfl ?_
      simp [d5, e7, e13, e14, hun, hw4]
      refine (hat (kn + 1) _).k ?_
      rintro x H6 ⟨hA, hle6⟩
      obtain ⟨p', c', I', va, hp', hl', _, rfl, hva⟩ := hA.ok he bn (kn + 1) k rfl rfl hk (by omega)
      obtain ⟨rfl, rfl⟩ := hp.unique hp'
      obtain rfl := hl.unique hl'
      simp [d5]
      refine CW.walk1 hXw mixed d5 rfl ?_
      simp [d5, e17, e19, hit, hle6 _ _ mt5, hcy]
      have hal : (liveL u p I k (kn + 1)).length ≤ 64 * mOf u := upto_len _ _
      refine (has14_f hXw y hva (by omega)).k ?_
      rintro x H7 ⟨rfl, rfl⟩
      simp [d5, hout hkl y hyT]
      exact ⟨i + 1, i, rfl, by omega, by simp [e7], by simp [e13], by simp [e14], by simp [e15], by simp [e17], by simp [e19], rfl, rfl, hle5.trans hle6⟩
    rintro ⟨e', ds⟩ H5 rfl
    refine CW.walk1 hXw mixed d5 rfl ?_
    simp
    refine (alive_c hXw hG _).k ?_
    rintro x H6 ⟨rfl, rfl⟩
    simp
    exact fun _ _ h => by cases h
  · rintro x e2 ds H' hx h6 hmk
    have hfin : leaveQ (cx W G) Tryz.f5.ntmps Tryz.f5.results.toList (fun x H' => ∃ H2, Le H2 H' ∧ x = .ret (.bool true) ∧ H2 = H) ds ⟨plE e2, ds⟩ H' := by
      refine leave_marks ?_ hmk
      intro H5 hle5
      simp [Tryz.f5, plE, h6, plainV]
      exact hle2.trans hle5
    rcases hx with rfl | rfl
    · exact hfin
    · exact hfin
end Go.Cl.Gd
