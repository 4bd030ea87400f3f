/- DERIVED HERE. live.Last. -/
import Derived.Test.YtjofhmdjaijgcaaGreatDoorLLs
set_option linter.unusedSimpArgs false
set_option linter.unusedVariables false
namespace Go.Cl
open Go.Proofs
variable {W : World} {G : Nat → CV}
set_option maxRecDepth 8000
/-- What an operation, or the End, reads. -/
def rdsOf (k : UBlk) (i : Nat) : List Int := match k.ops[i]? with
  | some o => allReads o
  | none => endRd k.en
/-- What is read last there. -/
def lastL (u : UUnit) (p : Nat → Bool) (I : Nat → Nat → Bool) (k : UBlk) (i : Nat) : List Int := upto (fun r => (rdsOf k i).any (fun y => r == y.toNat) && !afterP u p I k i r) (64 * mOf u)
theorem rds_facts {u : UUnit} (hu : wfU u = true) {b : Nat} {k : UBlk} (hb : u.blocks[b]? = some k) (i : Nat) : (∀ x ∈ rdsOf k i, 0 ≤ x ∧ x < u.regs) ∧ (rdsOf k i).length ≤ 4 := by
  obtain ⟨g1, g2, g3, g4⟩ := wfB_facts hu hb
  have f3 := (wfU_facts hu).2.2.1
  simp only [rdsOf]
  cases ho : k.ops[i]? with
  | none =>
    obtain ⟨w1, w2, w3, w4, w5⟩ := wfE_facts g4
    refine ⟨fun x hx => ?_, ?_⟩
    · simp only [endRd] at hx
      split at hx
      · simp at hx
      · rename_i h; simp at hx; subst hx; exact w3 h
    · simp only [endRd]; split <;> simp
  | some o =>
    have h3 := (wfO_facts (g3 o (List.mem_of_getElem? ho)) f3).2.2.1
    refine ⟨h3, ?_⟩
    simp only [allReads, reads]
    split <;> simp <;> (repeat' split) <;> simp
theorem last_plain {u : UUnit} (hu : wfU u = true) {b : Nat} {k : UBlk} (hb : u.blocks[b]? = some k) (i : Nat) {A : Nat → Bool} {L : List Int} (hp : List.Perm L ((rdsOf k i).filter fun x => !A x.toNat)) (hs : SortTo L L.length) :
    compL L = upto (fun r => (rdsOf k i).any (fun y => r == y.toNat) && !A r) (64 * mOf u) := by
  obtain ⟨h1, h2⟩ := compL_rise (sortTo_pw hs)
  obtain ⟨hr, _⟩ := rds_facts hu hb i
  have hm : mOf u = (u.regs.toNat + 63) / 64 := rfl
  refine rise_ext h1 (upto_rise _ _) fun x => ?_
  rw [h2 x, hp.mem_iff, mem_upto, List.mem_filter]
  constructor
  · rintro ⟨h3, h4⟩
    have := hr x h3
    refine ⟨x.toNat, by omega, ?_, by omega⟩
    simp only [Bool.and_eq_true]
    exact ⟨List.any_eq_true.2 ⟨x, h3, by simp⟩, h4⟩
  · rintro ⟨r, h3, h4, rfl⟩
    simp only [Bool.and_eq_true] at h4
    obtain ⟨y, h5, h6⟩ := List.any_eq_true.1 h4.1
    have := hr y h5
    have : y = (r : Int) := by simp at h6; omega
    subst this
    exact ⟨h5, by simpa using h4.2⟩
theorem last_e (hX : CxOk (cx W G)) (hG : G 0 = .iptr formsC) (u : UUnit) (hu : UOk u) (he : errU u ≠ 0) (b i : Int) (H : Hp) : CC Tryz.prog W 22 [.agg (unitC u), ci b, ci i] H fun x H' => x = .ret (.tuple [.nilsl, ci (errU u)]) ∧ H' = H := by
  refine CC.shrink ?_
  refine CC.of_cw hX Tryz.func22 rfl rfl (Nat.le_of_ble_eq_true rfl) ?_
  refine CW.walk hX mixed d22 rfl ?_
  simp
  intro q3 hq3
  refine CW.walk hX mixed d22 rfl ?_
  simp [unitC]
  have hc := liveErr_c hX hG u hu he (H.set q3 (.cells (unitC u)))
  simp only [unitC] at hc
  refine hc.k ?_
  rintro x H2 ⟨rfl, rfl⟩
  simp
  refine CW.walk hX mixed d22 rfl ?_
  simp [he]
  refine CW.walk hX mixed d22 rfl ?_
  simp [he]
  exact Le.set_new hq3
theorem last_b (hX : CxOk (cx W G)) (hG : G 0 = .iptr formsC) (u : UUnit) (hu : wfU u = true) (b i : Int) (hb : noPl u b i) (H : Hp) : CC Tryz.prog W 22 [.agg (unitC u), ci b, ci i] H fun x H' => x = .ret (.tuple [.nilsl, ci 2]) ∧ H' = H := by
  refine CC.shrink ?_
  refine CC.of_cw hX Tryz.func22 rfl rfl (Nat.le_of_ble_eq_true rfl) ?_
  refine CW.walk hX mixed d22 rfl ?_
  simp
  intro q3 hq3
  refine CW.walk hX mixed d22 rfl ?_
  simp [unitC]
  have hc := liveOf_c hX hG u hu (H.set q3 (.cells (unitC u)))
  simp only [unitC] at hc
  refine hc.k ?_
  rintro x H2 ⟨lp, rr, rc, ri, ci', σ, ex, p, c, I, rfl, hle, hp, hl, hbd, hL⟩
  have m3 := hle q3 _ set_at
  simp
  refine CW.walk hX mixed d22 rfl ?_
  simp [m3]
  have hpl := placeBad_c hX u b i hb H2
  simp only [unitC] at hpl
  refine hpl.k ?_
  rintro x H3 ⟨rfl, rfl⟩
  simp
  refine CW.walk hX mixed d22 rfl ?_
  simp
  exact (Le.set_new hq3).trans hle
structure ltM (B : Hp) (lp q10 b i : Nat) (l : List Int) (s' : CA) (H' : Hp) : Prop where
  ex : ∃ v, s'.env 1 = .int .i64 b ∧ s'.env 2 = .int .i64 i ∧ s'.env 8 = .ptr lp 0 ∧ s'.env 10 = .ptr q10 0 ∧ s'.env 11 = v ∧ s'.ds = [] ∧ Own B H' v 1 (ints l)
structure ltA (B : Hp) (u : UUnit) (p : Nat → Bool) (I : Nat → Nat → Bool) (k : UBlk) (i : Nat) (l : List Int) (s' : CA) (H' : Hp) : Prop where
  ex : ∃ v ra, s'.env 11 = v ∧ s'.env 12 = .ref ra 0 (mOf u) (mOf u) ∧ s'.ds = [] ∧ Own B H' v 1 (ints l) ∧ H' ra = some (.cells (setC (mOf u) (afterP u p I k i)))
structure ltD (B : Hp) (l : List Int) (s' : CA) (H' : Hp) : Prop where
  ex : ∃ v, s'.env 11 = v ∧ s'.ds = [] ∧ Le B H' ∧ ((v = .nilsl ∧ l = []) ∨ ∃ r c ex, v = .ref r 0 l.length c ∧ l.length ≤ c ∧ B r = none ∧ H' r = some (.cells (nums l ex)))
theorem ltD.to {B : Hp} {l : List Int} {e : Env} {v : CV} {H' : Hp} (h1 : e 11 = v) (h2 : Le B H') (h3 : (v = .nilsl ∧ l = []) ∨ ∃ r c ex, v = .ref r 0 l.length c ∧ l.length ≤ c ∧ B r = none ∧ H' r = some (.cells (nums l ex))) : ltD B l ⟨e, []⟩ H' := ⟨v, h1, rfl, h2, h3⟩
theorem nums_slF {H : Hp} {r c : Nat} {l : List Int} {ex : List CV} (hc : l.length ≤ c) (h : H r = some (.cells (nums l ex))) : SlF H (.ref r 0 l.length c) l :=
  .inr ⟨r, c - l.length, _, by rw [show l.length + (c - l.length) = c by omega], h, fun k x hk => by
    have := (List.getElem?_eq_some_iff.1 hk).1
    rw [nums, List.getElem?_append_left (by simpa using this), List.getElem?_map, hk]
    rfl⟩
theorem Own.cases {B H : Hp} {v : CV} {l : List Int} (h : Own B H v 1 (ints l)) : (v = .nilsl ∧ l = []) ∨ ∃ r c ex, v = .ref r 0 l.length c ∧ l.length ≤ c ∧ B r = none ∧ H r = some (.cells (nums l ex)) := by
  obtain ⟨_, _, ⟨rfl, hx⟩ | ⟨r, c, ex, rfl, h1, h2, _, h4⟩⟩ := h
  · exact .inl ⟨rfl, by simpa [ints] using hx⟩
  · refine .inr ⟨r, c, ex, by simp [ints], by simpa [ints] using h4, h1, ?_⟩
    rw [ints_flat] at h2
    exact h2
theorem last_c (hX : CxOk (cx W G)) (hG : G 0 = .iptr formsC) (u : UUnit) (hu : wfU u = true) (b i : Nat) (k : UBlk) (hk : u.blocks[b]? = some k) (hi : i ≤ k.ops.length) (H : Hp) :
    CC Tryz.prog W 22 [.agg (unitC u), .int .i64 b, .int .i64 i] H fun x H' => ∃ p c I v, PLeast (opsOf u) p c ∧ LLeast u p I ∧ Bnd u I ∧ x = .ret (.tuple [v, ci 0]) ∧ Le H H' ∧ SlF H' v (lastL u p I k i) := by
  obtain ⟨f1, f2, f3, f4, f5, f6, f7, f8, f9, f10, f11⟩ := wfU_facts hu
  obtain ⟨g1, g2, g3, g4⟩ := wfB_facts hu hk
  obtain ⟨hrd, hrl⟩ := rds_facts hu hk i
  obtain ⟨hbl, hke⟩ := List.getElem?_eq_some_iff.1 hk
  refine CC.of_cw hX Tryz.func22 rfl rfl (Nat.le_of_ble_eq_true rfl) ?_
  refine CW.walk hX mixed d22 rfl ?_
  simp
  intro q3 hq3
  refine CW.walk hX mixed d22 rfl ?_
  simp [unitC]
  have hc := liveOf_c hX hG u hu (H.set q3 (.cells (unitC u)))
  simp only [unitC] at hc
  refine hc.k ?_
  rintro x H2 ⟨lp, rr, rc, ri, ci', σ, ex, p, c, I, rfl, hle, hp, hl, hbd, hL⟩
  have m3 := hle q3 _ set_at
  have hle := (Le.set_new hq3).trans hle
  simp
  refine CW.walk hX mixed d22 rfl ?_
  simp [m3]
  have hpl := place_c hX u b i k hk hi H2
  simp only [unitC] at hpl
  refine hpl.k ?_
  rintro x H3 ⟨rfl, rfl⟩
  simp
  refine CW.walk hX mixed d22 rfl ?_
  simp
  refine CW.walk hX mixed d22 rfl ?_
  simp [m3, hbl, hke, blkC]
  intro q10 hq10
  generalize hH4 : H3.set q10 _ = H4
  have m10 : H4 q10 = some (.cells (.sl 7 (k.ops.map opC) :: blkT k)) := by rw [← hH4]; simp [blkT]
  have hle4 : Le H3 H4 := by rw [← hH4]; exact Le.set_new hq10
  have hL4 := hL.mono hle4
  have hle4 := hle.trans hle4
  clear hH4 m3 hL hle hq10 hpl hc hq3
  have m10' := m10
  simp only [blkT] at m10'
  refine CW.cut (ltM H4 lp q10 b i (endRd k.en)) ?_ ?_
  · have hh := endReads_o hX k.en H4
    simp only [endC] at hh
    refine CW.walk1 hX mixed d22 rfl ?_
    simp [m10']
    refine hh.k ?_
    rintro x H5 ⟨v, rfl, hown⟩
    simp
    exact ⟨v, by simp, by simp, by simp, by simp, by simp, rfl, hown⟩
  rintro ⟨e, ds⟩ H5 ⟨v, e1, e2, e8, e10, e11, rfl, hown⟩
  dsimp only at e1 e2 e8 e10 e11
  refine CW.cut (ltM H4 lp q10 b i (rdsOf k i)) ?_ ?_
  · have m105 := hown.le _ _ m10'
    refine CW.walk1 hX mixed d22 rfl ?_
    by_cases hil : i < k.ops.length
    · obtain ⟨o, hoe⟩ : ∃ o, k.ops[i] = o := ⟨_, rfl⟩
      have ho : k.ops[i]? = some o := by rw [List.getElem?_eq_getElem hil, hoe]
      obtain ⟨o1, o2, _⟩ := wfO_facts (g3 o (List.mem_of_getElem? ho)) f3
      have hrs : rdsOf k i = allReads o := by simp only [rdsOf, ho]
      have hh := reads_c hX hG o (by simp only [Kd]; omega) o1 H5
      simp only [opC] at hh
      simp [e2, e10, m105, hil, hoe, opC]
      refine hh.k ?_
      rintro x H6 ⟨v', rfl, hown'⟩
      simp
      exact ⟨v', by simp [e1], by simp [e2], by simp [e8], by simp [e10], by simp, rfl, by rw [hrs]; exact hown'.base hown.le⟩
    · have hrs : rdsOf k i = endRd k.en := by simp only [rdsOf]; rw [List.getElem?_eq_none (by omega)]
      simp [e2, e10, m105, hil]
      exact ⟨v, by simp [e1], by simp [e2], by simp [e8], by simp [e10], by simp [e11], rfl, by rw [hrs]; exact hown⟩
  clear e1 e2 e8 e10 e11 hown
  clear e v H5
  rintro ⟨e, ds⟩ H5 ⟨v, e1, e2, e8, e10, e11, rfl, hown⟩
  dsimp only at e1 e2 e8 e10 e11
  refine CW.cut (ltA H4 u p I k i (rdsOf k i)) ?_ ?_
  · refine CW.walk1 hX mixed d22 rfl ?_
    simp [e1, e2, e8]
    refine (after_h hX hG u hu (hL4.mono hown.le) b k hk i hi).k ?_
    rintro x H6 ⟨ra, hra, rfl, rfl⟩
    simp
    exact ⟨v, ra, by simp [e11], by simp, rfl, hown.more hra, set_at⟩
  clear e1 e2 e8 e10 e11 hown
  clear e v H5
  rintro ⟨e, ds⟩ H5 ⟨v, ra, e11, e12, rfl, hown, hra⟩
  dsimp only at e11 e12
  obtain ⟨l, hle⟩ : ∃ l, rdsOf k i = l := ⟨_, rfl⟩
  obtain ⟨A, hA⟩ : ∃ A, afterP u p I k i = A := ⟨_, rfl⟩
  have hpl := fun L => last_plain (L := L) hu hk i (A := A)
  have hres : lastL u p I k i = upto (fun r => (rdsOf k i).any (fun y => r == y.toNat) && !A r) (64 * mOf u) := by rw [← hA]; rfl
  rw [← hres, hle] at hpl
  rw [hle] at hown hrd hrl
  rw [hA] at hra
  have hB5 := hown.le
  refine CW.cut (ltD H5 (l.filter fun x => !A x.toNat)) ?_ ?_
  · have hnil : ∀ (e : Env) H6, e 11 = .nilsl → l = [] → Le H5 H6 → ltD H5 (l.filter fun x => !A x.toNat) ⟨e, []⟩ H6 := fun e H6 h1 h2 h3 => ltD.to h1 h3 (.inl ⟨rfl, by rw [h2]; rfl⟩)
    refine CW.walk1 hX mixed d22 rfl ?_
    rcases hown.cases with ⟨rfl, hl0⟩ | ⟨r1, c1, ex1, rfl, hc1, hr1, hc2⟩
    · simp [e11, e12]
      refine (cloneI_nil hX H5).k ?_
      rintro x H6 ⟨rfl, rfl⟩
      simp [e12]
      refine (delFunc_nil hX _ _ H6).k ?_
      rintro x H7 ⟨rfl, rfl⟩
      simp
      exact hnil _ _ (by simp) hl0 (Le.refl _)
    · simp [e11, e12]
      refine (cloneI_c hX l r1 c1 ex1 (by omega) H5 hc2).k ?_
      rintro x H6 ⟨v2, rfl, how2⟩
      simp [e12]
      have hra6 := how2.le _ _ hra
      rcases how2.cases with ⟨rfl, hl0⟩ | ⟨r2, c2, ex2, rfl, hc3, hr2, hc4⟩
      · refine (delFunc_nil hX _ _ H6).k ?_
        rintro x H7 ⟨rfl, rfl⟩
        simp
        exact hnil _ _ (by simp) hl0 how2.le
      · have hne : ra ≠ r2 := fun e => by rw [← e, hra] at hr2; cases hr2
        refine (delFunc_c hX l r2 c2 ex2 _ _ (fun x => A x.toNat) (by omega) hc3 H6 hc4 fun x hx ob => ?_).k ?_
        · have hx2 := hrd x hx
          have hm : mOf u = (u.regs.toNat + 63) / 64 := rfl
          have := has_c hX ra (mOf u) (mOf u) A x.toNat (by omega) f10 (H6.set r2 ob) (by simp [Hp.set, hne, hra6])
          rw [show (x.toNat : Int) = x by omega] at this
          exact this
        · rintro x H7 ⟨ex3, rfl, rfl⟩
          simp
          exact ltD.to (by simp) (how2.le.put hr2) (.inr ⟨r2, c2, ex3, rfl, Nat.le_trans (List.length_filter_le _ _) hc3, hr2, by simp⟩)
  clear e11 e12 hown hra
  clear e v
  rintro ⟨e, ds⟩ H6 ⟨v, e11, rfl, hle6, hv⟩
  dsimp only at e11
  have hleH := (hle4.trans hB5).trans hle6
  have hfl := List.length_filter_le (fun x : Int => !A x.toNat) l
  generalize (l.filter fun x => !A x.toNat) = F at hpl hv hfl
  rcases hv with ⟨rfl, rfl⟩ | ⟨r, cc, ex2, rfl, hcc, hr0, hr6⟩
  · refine CW.walk hX mixed d22 rfl ?_
    simp [e11]
    refine (sort_nil hX H6).k ?_
    rintro x H7 ⟨rfl, rfl⟩
    simp
    refine CW.walk1 hX mixed d22 rfl ?_
    simp [e11]
    refine (compact_nil hX H7).k ?_
    rintro x H8 ⟨rfl, rfl⟩
    simp
    have h0 := hpl [] (.refl _) (fun p q h1 h2 => by simp at h2)
    exact ⟨p, ⟨c, hp⟩, I, hl, hbd, hleH, .inl ⟨rfl, h0.symm⟩⟩
  · refine CW.walk hX mixed d22 rfl ?_
    simp [e11]
    refine (sort_c hX F r cc ex2 (by omega) H6 hr6).k ?_
    rintro x H7 ⟨rfl, L, hL1, hL2, rfl⟩
    simp
    have hLl := hL1.length_eq
    refine CW.walk1 hX mixed d22 rfl ?_
    have hcm := compact_c hX L r cc ex2 (by omega) (by omega) (H6.set r (.cells (nums L ex2))) set_at
    rw [hLl] at hcm
    simp [e11]
    refine hcm.k ?_
    rintro x H8 ⟨ex3, rfl, rfl⟩
    have h0 := hpl L hL1 hL2
    rw [h0]
    simp
    have hcl : (lastL u p I k i).length ≤ cc := by
      rw [← h0]
      have : (compL L).length ≤ L.length := by
        cases L with
        | nil => simp [compL]
        | cons x t => have := dd_len t x; simp [compL]; omega
      omega
    exact ⟨p, ⟨c, hp⟩, I, hl, hbd, hleH.put ((hle4.trans hB5).none hr0), nums_slF (ex := ex3) hcl (by simp)⟩
theorem last_g (hX : CxOk (cx W G)) (hG : G 0 = .iptr formsC) (u : UUnit) (hu : UOk u) (b i : Int) (H : Hp) : CC Tryz.prog W 22 [.agg (unitC u), ci b, ci i] H fun x H' => AtR u b i (lastL u) x H' ∧ Le H H' := by
  by_cases he : errU u = 0
  · have hw : wfU u = true := errU_wf.1 he
    by_cases hb : noPl u b i
    · exact (last_b hX hG u hw b i hb H).mono fun x H' ⟨h1, h2⟩ => ⟨atR_b he hb h1, by rw [h2]; exact Le.refl _⟩
    · obtain ⟨bn, n, k, rfl, rfl, hk, hn⟩ := notBad hb
      exact (last_c hX hG u hw bn n k hk hn H).mono fun x H' ⟨p, c, I, v, h1, h2, h3, h4, h5, h6⟩ => ⟨atR_ok he hk hn h1 h2 h3 h4 h6, h5⟩
  · exact (last_e hX hG u hu he b i H).mono fun x H' ⟨h1, h2⟩ => ⟨atR_e he h1, by rw [h2]; exact Le.refl _⟩
theorem fz3' {H : Hp} {x y : CV} (h : Fz H x y) (a b : CV) : ∀ (i : Nat) p q, [x, a, b][i]? = some p → [y, a, b][i]? = some q → Fz H p q := by
  intro i p q hp hq
  rcases i with _|_|_|i
  · simp at hp hq; subst hp; subst hq; exact h
  · simp at hp hq; subst hp; subst hq; exact .same _
  · simp at hp hq; subst hp; subst hq; exact .same _
  · simp at hp
theorem fz2' {H : Hp} {x y : CV} (h : Fz H x y) (a : CV) : ∀ (i : Nat) p q, [x, a][i]? = some p → [y, a][i]? = some q → Fz H p q := by
  intro i p q hp hq
  rcases i with _|_|i
  · simp at hp hq; subst hp; subst hq; exact h
  · simp at hp hq; subst hp; subst hq; exact .same _
  · simp at hp
theorem last_f (hX : CxOk (cx W G)) (hG : G 0 = .iptr formsC) {u : UUnit} (hu : UOk u) {H : Hp} {cs : List CV} (hf : Fz H (.agg cs) (.agg (unitC u))) (b i : Int) : CC Tryz.prog W 22 [.agg cs, ci b, ci i] H fun x H' => AtR u b i (lastL u) x H' ∧ Le H H' := by
  refine (CC.freeze3 (args' := [.agg (unitC u), ci b, ci i]) (R := AtR u b i (lastL u)) (by rfl) (fz3' hf _ _) (fun x H' h => h.free) fun w hw => ?_).mono ?_
  · exact (last_g (W := w) (CxOk.later hX hw) hG u hu b i _).mono fun x H' h => h.1
  · rintro x H2 ⟨H', h1, h2, h3, _⟩
    exact ⟨h1.wkm h3, h2⟩
theorem at13_gf (hX : CxOk (cx W G)) (hG : G 0 = .iptr formsC) {u : UUnit} (hu : UOk u) {H : Hp} {cs : List CV} (hf : Fz H (.agg cs) (.agg (unitC u))) (b i : Int) : CC Tryz.prog W 21 [.agg cs, ci b, ci i] H fun x H' => AtR u b i (liveL u) x H' ∧ Le H H' := by
  refine (CC.freeze3 (args' := [.agg (unitC u), ci b, ci i]) (R := AtR u b i (liveL u)) (by rfl) (fz3' hf _ _) (fun x H' h => h.free) fun w hw => ?_).mono ?_
  · exact (at13_g (W := w) (CxOk.later hX hw) hG u hu b i _).mono fun x H' h => h.1
  · rintro x H2 ⟨H', h1, h2, h3, _⟩
    exact ⟨h1.wkm h3, h2⟩
theorem in18_gf (hX : CxOk (cx W G)) (hG : G 0 = .iptr formsC) {u : UUnit} (hu : UOk u) {H : Hp} {cs : List CV} (hf : Fz H (.agg cs) (.agg (unitC u))) (b : Int) : CC Tryz.prog W 25 [.agg cs, ci b] H fun x H' => AtR u b 0 (liveL u) x H' ∧ Le H H' := by
  refine (CC.freeze3 (args' := [.agg (unitC u), ci b]) (R := AtR u b 0 (liveL u)) (by rfl) (fz2' hf _) (fun x H' h => h.free) fun w hw => ?_).mono ?_
  · exact (in18_g (W := w) (CxOk.later hX hw) hG u hu b _).mono fun x H' h => h.1
  · rintro x H2 ⟨H', h1, h2, h3, _⟩
    exact ⟨h1.wkm h3, h2⟩
end Go.Cl
