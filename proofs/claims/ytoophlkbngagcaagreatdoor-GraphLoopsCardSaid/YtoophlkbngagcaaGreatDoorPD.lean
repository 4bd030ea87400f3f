/- DERIVED HERE. What may be poison. -/
import Derived.Test.YtoophlkbngagcaaGreatDoorUMq
import Derived.Test.YtoophlkbngagcaaGreatDoorRec
set_option linter.unusedSimpArgs false
set_option linter.unusedVariables false
namespace Go.Cl
open Go.Proofs
variable {W : World} {G : Nat → CV}
set_option maxRecDepth 8000
def gapP (n s : Nat) (p c : Nat → Bool) : Nat := gap (List.range n) p + gap (List.range s) c
theorem spread_gap {u : UUnit} (hu : wfU u = true) {o : UOp} (ho : wfOp u o = true) {p c : Nat → Bool} (h : spreadN o p c = true) : gapP u.regs.toNat u.spill.toNat (spreadR o p c) (spreadC o p c) < gapP u.regs.toNat u.spill.toNat p c := by
  obtain ⟨f1, f2, f3, f4, f5, f6, f7, f8, f9, f10, f11⟩ := wfU_facts hu
  obtain ⟨o1, o2, o3, o4, o5, o6, o7, o8, o9⟩ := wfO_facts ho f3
  simp only [spreadN, Bool.and_eq_true, Bool.not_eq_true'] at h
  have h1 : ∀ i, p i = true → spreadR o p c i = true := fun i hi => by simp [spreadR, hi]
  have h2 : ∀ i, c i = true → spreadC o p c i = true := fun i hi => by simp [spreadC, hi]
  have g1 := gap_le (l := List.range u.regs.toNat) h1
  have g2 := gap_le (l := List.range u.spill.toNat) h2
  simp only [gapP]
  by_cases hk : o.kind = 19
  · have := o7 (.inr hk)
    have g3 := gap_lt (l := List.range u.spill.toNat) h2 (x := o.n.toNat) (List.mem_range.2 (by omega)) (by simpa [hk] using h.2) (by simp [spreadC, h.1, hk])
    omega
  · have hb : uBit o.kind 0 = true := by
      refine uBit_dst ?_
      have := h.1
      simp only [badP] at this
      split at this
      · omega
      split at this
      · omega
      split at this
      · omega
      · cases this
    have := o4 hb
    have g3 := gap_lt (l := List.range u.regs.toNat) h1 (x := o.dst.toNat) (List.mem_range.2 (by omega)) (by simpa [hk] using h.2) (by simp [spreadR, h.1, hk])
    omega
/-- What Poisoned holds: the unit, the sets, and whether something was new. -/
def PE (H : Hp) (u : UUnit) (q1 q2 q3 rr rc q4 : Nat) (p c : Nat → Bool) (a : Bool) : Hp := fun i =>
  if i = q4 then some (.cells [.bool a]) else if i = rc then some (.cells (boolC u.spill.toNat c)) else if i = rr then some (.cells (boolC u.regs.toNat p))
  else if i = q3 then some (.cells [.ref rr 0 u.regs.toNat u.regs.toNat, .ref rc 0 u.spill.toNat u.spill.toNat]) else if i = q2 then some (.cells [.nilsl, .nilsl]) else if i = q1 then some (.cells (unitC u)) else H i
structure PDist (q1 q2 q3 rr rc q4 : Nat) : Prop where
  a : q4 ≠ q1
  b : q4 ≠ q2
  c : q4 ≠ q3
  d : q4 ≠ rr
  e : q4 ≠ rc
def PI (H : Hp) (u : UUnit) (q1 q2 q3 rr rc : Nat) (j : Nat) (s' : CA) (H' : Hp) : Prop := ∃ p c a q4, j = 2 * gapP u.regs.toNat u.spill.toNat p c + (if a = true then 1 else 0) ∧ s'.env 1 = .ptr q1 0 ∧ s'.env 2 = .ptr q2 0 ∧ s'.env 3 = .ptr q3 0 ∧ s'.env 4 = .ptr q4 0 ∧ PDist q1 q2 q3 rr rc q4 ∧ H q4 = none ∧ PLow (opsOf u) p c ∧ (a = false → PCl (opsOf u) p c) ∧ MarksOk s'.ds H' (PE H u q1 q2 q3 rr rc q4 p c a)
theorem PE_set4 {H : Hp} {u : UUnit} {q1 q2 q3 rr rc q4 : Nat} {p c : Nat → Bool} {a b : Bool} : (PE H u q1 q2 q3 rr rc q4 p c a).set q4 (.cells [.bool b]) = PE H u q1 q2 q3 rr rc q4 p c b := by
  funext i; simp only [PE, Hp.set]; split <;> rfl
theorem PE_spread {H : Hp} {u : UUnit} {q1 q2 q3 rr rc q4 : Nat} {p c p' c' : Nat → Bool} {a b : Bool} (hd : PDist q1 q2 q3 rr rc q4) (hrc : ¬ rr = rc) : (((PE H u q1 q2 q3 rr rc q4 p c a).set rr (.cells (boolC u.regs.toNat p'))).set rc (.cells (boolC u.spill.toNat c'))).set q4 (.cells [.bool b]) = PE H u q1 q2 q3 rr rc q4 p' c' b := by
  funext i
  simp only [PE, Hp.set]
  by_cases i4 : i = q4
  · simp [i4]
  by_cases ic : i = rc
  · subst ic; simp [i4]
  by_cases ir : i = rr
  · subst ir; simp [i4, ic]
  simp [i4, ic, ir]
theorem PE_base {H : Hp} {u : UUnit} {q1 q2 q3 rr rc q4 qo : Nat} {p c : Nat → Bool} {a : Bool} {o : Ob} (h : PE H u q1 q2 q3 rr rc q4 p c a qo = none) : (PE H u q1 q2 q3 rr rc q4 p c a).set qo o = PE (H.set qo o) u q1 q2 q3 rr rc q4 p c a := by
  funext i
  simp only [PE, Hp.set]
  by_cases io : i = qo
  · subst io
    simp only [PE] at h
    split at h; · cases h
    split at h; · cases h
    split at h; · cases h
    split at h; · cases h
    split at h; · cases h
    split at h; · cases h
    simp [*]
  · simp [io]
theorem PE_le {H H' : Hp} {u : UUnit} {q1 q2 q3 rr rc q4 : Nat} {p c : Nat → Bool} {a : Bool} (h : Le H H') : Le (PE H u q1 q2 q3 rr rc q4 p c a) (PE H' u q1 q2 q3 rr rc q4 p c a) := by
  intro i o hi
  simp only [PE] at hi ⊢
  by_cases i4 : i = q4
  · simpa [i4] using hi
  by_cases ic : i = rc
  · subst ic; simpa [i4] using hi
  by_cases ir : i = rr
  · subst ir; simpa [i4, ic] using hi
  by_cases i3 : i = q3
  · subst i3; simpa [i4, ic, ir] using hi
  by_cases i2 : i = q2
  · subst i2; simpa [i4, ic, ir, i3] using hi
  by_cases i1 : i = q1
  · subst i1; simpa [i4, ic, ir, i3, i2] using hi
  · simp only [i4, ic, ir, i3, i2, i1, if_false] at hi ⊢; exact h i o hi
theorem PE_none {H : Hp} {u : UUnit} {q1 q2 q3 rr rc q4 qo : Nat} {p c : Nat → Bool} {a : Bool} (h : PE H u q1 q2 q3 rr rc q4 p c a qo = none) : H qo = none := by
  simp only [PE] at h
  split at h; · cases h
  split at h; · cases h
  split at h; · cases h
  split at h; · cases h
  split at h; · cases h
  split at h; · cases h
  exact h
theorem wf_ops {u : UUnit} (hu : wfU u = true) {o : UOp} (h : o ∈ opsOf u) : wfOp u o = true := by
  simp only [opsOf, List.mem_flatMap] at h
  obtain ⟨k, hk, ho⟩ := h
  obtain ⟨i, hi, hke⟩ := List.mem_iff_getElem.1 hk
  exact (wfB_facts hu (b := i) (k := k) (by rw [List.getElem?_eq_getElem hi, hke])).2.2.1 o ho
def PJ (H : Hp) (u : UUnit) (q1 q2 q3 rr rc q4 : Nat) (ds : List CD) (p c : Nat → Bool) (k : Nat) (H1 : Hp) : Prop := ∃ p' c' a', PLow (opsOf u) p' c' ∧ (a' = true → gapP u.regs.toNat u.spill.toNat p' c' < gapP u.regs.toNat u.spill.toNat p c) ∧ (a' = false → p' = p ∧ c' = c ∧ ∀ j o, j < k → (opsOf u)[j]? = some o → spreadN o p c = false) ∧ MarksOk ds H1 (PE H u q1 q2 q3 rr rc q4 p' c' a')
def PM (H : Hp) (u : UUnit) (q1 q2 q3 rr rc q4 : Nat) (p c : Nat → Bool) (s' : CA) (H' : Hp) : Prop := s'.env 1 = .ptr q1 0 ∧ s'.env 2 = .ptr q2 0 ∧ s'.env 3 = .ptr q3 0 ∧ s'.env 4 = .ptr q4 0 ∧ PJ H u q1 q2 q3 rr rc q4 s'.ds p c (opsOf u).length H'
theorem poisoned_c (hX : CxOk (cx W G)) (hG : G 0 = .iptr formsC) (u : UUnit) (hu : wfU u = true) (H : Hp) :
    CC Tryz.prog W 56 [.agg (unitC u)] H fun x H' => ∃ p c rr rc, x = .ret (.agg [.ref rr 0 u.regs.toNat u.regs.toNat, .ref rc 0 u.spill.toNat u.spill.toNat]) ∧ rr ≠ rc ∧ H' rr = some (.cells (boolC u.regs.toNat p)) ∧ H' rc = some (.cells (boolC u.spill.toNat c)) ∧ Le H H' ∧ PLeast (opsOf u) p c := by
  obtain ⟨f1, f2, f3, f4, f5, f6, f7, f8, f9, f10, f11⟩ := wfU_facts hu
  refine CC.of_cw hX Tryz.func56 rfl rfl (Nat.le_of_ble_eq_true rfl) ?_
  refine CW.walk hX mixed d56 rfl ?_
  simp (config := {contextual := true})
  intro q1 hq1 q2 h21 h12 hq2
  refine CW.walk hX mixed d56 rfl ?_
  simp (config := {contextual := true}) [h21, h12, d56, unitC, cfill]
  refine ⟨by omega, by omega, by omega, fun rr hr2 h2r hr1 h1r hrr => ⟨f3, by omega, by omega, fun rc hcr hrc hc2 h2c hc1 h1c hrc0 q3 h3c hc3 h3r hr3 h32 h23 h31 h13 hq3 => ?_⟩⟩
  refine CW.walk hX mixed d56 rfl ?_
  simp (config := {contextual := true})
  intro q4 h43 h34 h4c hc4 h4r hr4 h42 h24 h41 h14 hq4
  refine CW.loop (PI H u q1 q2 q3 rr rc) ?_ (m := 2 * gapP u.regs.toNat u.spill.toNat (fun _ => false) (fun _ => false) + 1) ⟨fun _ => false, fun _ => false, true, q4, rfl, by simp, by simp, by simp, by simp, ⟨h41, h42, h43, h4r, h4c⟩, hq4, PLow.empty _, (by simp), ?_⟩
  rotate_left
  · refine Eq.le_hp ?_
    have z1 : ∀ n : Nat, (List.range n).map (fun i => [CV.bool false][i % 1]?.getD CV.any) = boolC n (fun _ => false) := fun n => by simp [boolC, Nat.mod_one]
    funext i
    simp only [PE, Hp.set]
    by_cases i4 : i = q4
    · simp [i4]
    by_cases i3 : i = q3
    · subst i3; simp [*]
    by_cases ic : i = rc
    · subst ic; simp [*]
    by_cases ir : i = rr
    · subst ir; simp [*]
    simp [i4, i3, ic, ir, unitC]
  clear hq4 h14 h41 h24 h42 hr4 h4r hc4 h4c h34 h43
  clear q4
  rintro j ⟨e, ds⟩ H' ⟨p, c, a, q4, rfl, e1, e2, e3, e4, hd, hq4, hlow, hcl, hM⟩
  dsimp only at e1 e2 e3 e4 hM
  have hne4 := hd.a
  have hM4 : H' q4 = some (.cells [.bool a]) := hM.get (by simp [PE])
  refine CW.walk hX mixed d56 rfl ?_
  simp [e1, e2, e3, e4, hM4]
  refine ⟨fun ha => ?_, fun ha => ?_⟩
  · subst ha
    refine CW.cut (PM H u q1 q2 q3 rr rc q4 p c) ?_ ?_
    · refine CW.walk1 hX mixed d56 rfl ?_
      have hM1 : H' q1 = some (.cells (unitC u)) := hM.get (by simp [PE, Ne.symm hd.a, h1c, h1r, h13, h12])
      simp [e1, e2, e3, e4, hM4, Ne.symm hd.a, hM1, unitC]
      refine (ops_c hX u _).k ?_
      rintro x H2 ⟨qo, hqo, rfl, rfl⟩
      simp
      have nq : ∀ q o, PE H u q1 q2 q3 rr rc q4 p c true q = some o → q ≠ qo := fun q o hq e => by
        subst e
        have := hM.get hq
        by_cases h4 : q = q4
        · subst h4; simp at hqo
        · simp [h4, this] at hqo
      have n1 := nq q1 (.cells (unitC u)) (by simp [PE, Ne.symm hd.a, h1c, h1r, h13, h12])
      have n2 := nq q2 (.cells [.nilsl, .nilsl]) (by simp [PE, Ne.symm hd.b, h2c, h2r, h23])
      have n3 := nq q3 _ (by simp [PE, Ne.symm hd.c, h3c, h3r]; rfl)
      have nr := nq rr _ (by simp [PE, Ne.symm hd.d, hrc]; rfl)
      have nc := nq rc _ (by simp [PE, Ne.symm hd.e]; rfl)
      have n4 := nq q4 _ (by simp [PE]; rfl)
      have hPo : PE H u q1 q2 q3 rr rc q4 p c false qo = none := by
        cases hx : PE H u q1 q2 q3 rr rc q4 p c false qo with
        | none => rfl
        | some o =>
          rw [← PE_set4 (a := true)] at hx
          have := (hM.set (q := q4) (o := .cells [.bool false]) (.inr (by simp [PE]))).get hx
          rw [hqo] at this
          cases this
      refine CW.range hX (X := cx W G) (f := 100) (fs := []) (cap := [.ptr qo 0]) (ys := opYs u) (by simp) (ops_it hX u hu qo) boxed_up (by simp) (by simp [opYs]) (PJ (H.set qo (.cells (unitC u))) u q1 q2 q3 rr rc q4 ds p c) (fun _ _ => False) ?_ ?_ ?_ ?_ (fun _ _ _ h => h.elim)
      · rintro k H1 ⟨p', c', a', _, _, _, hM'⟩
        exact hM'.get (by simp [PE, Ne.symm n4, Ne.symm nc, Ne.symm nr, Ne.symm n3, Ne.symm n2, Ne.symm n1])
      · refine ⟨p, c, false, hlow, by simp, fun _ => ⟨rfl, rfl, fun j o h => absurd h (by omega)⟩, ?_⟩
        have h1 := hM.set (q := q4) (o := .cells [.bool false]) (.inr (by simp [PE]))
        rw [PE_set4] at h1
        have h2 := h1.set (q := qo) (o := .cells (unitC u)) (.inl hqo)
        rwa [PE_base hPo] at h2
      · rintro l k args H1 hk ⟨p', c', a', hlow', hgt, hcl', hM'⟩
        simp only [opYs, List.getElem?_map] at hk
        cases ho : (opsOf u)[k]? with
        | none => rw [ho] at hk; simp at hk
        | some o =>
        rw [ho] at hk
        injection hk with hk
        subst hk
        have hwo := wf_ops hu (List.mem_of_getElem? ho)
        have m4 : H1 q4 = some (.cells [.bool a']) := hM'.get (by simp [PE])
        have m3 : H1 q3 = some (.cells [.ref rr 0 u.regs.toNat u.regs.toNat, .ref rc 0 u.spill.toNat u.spill.toNat]) := hM'.get (by simp [PE, Ne.symm hd.c, h3c, h3r])
        have mr : H1 rr = some (.cells (boolC u.regs.toNat p')) := hM'.get (by simp [PE, Ne.symm hd.d, hrc])
        have mc : H1 rc = some (.cells (boolC u.spill.toNat c')) := hM'.get (by simp [PE, Ne.symm hd.e])
        refine CW.walk1 hX mixed d56 rfl ?_
        simp [opC]
        intro q5 hq5
        have k5 : ∀ q o, H1 q = some o → q ≠ q5 := fun q o h e => by rw [e, hq5] at h; cases h
        refine CW.walk1 hX mixed d56 rfl ?_
        simp [e3, e4, m3, k5 q3 _ m3]
        refine (spread_c hX hG u hu o hwo rr rc _ _ p' c' _ hrc (by simp [k5 rr _ mr, mr]) (by simp [k5 rc _ mc, mc])).k ?_
        rintro x H3 ⟨rfl, rfl⟩
        have m4' : ((((H1.set q5 (.cells [ci o.kind, ci o.dst, ci o.a, ci o.b, ci o.c, ci o.n, ci o.guard])).set rr (.cells (boolC u.regs.toNat (spreadR o p' c')))).set rc (.cells (boolC u.spill.toNat (spreadC o p' c')))) q4) = some (.cells [.bool a']) := by simp [hd.e, hd.d, k5 q4 _ m4, m4]
        simp [e3, e4, hd.e, hd.d, k5 q4 _ m4, m4]
        have hge : gapP u.regs.toNat u.spill.toNat p' c' ≤ gapP u.regs.toNat u.spill.toNat p c := by
          cases a' with
          | true => exact Nat.le_of_lt (hgt rfl)
          | false => obtain ⟨rfl, rfl, _⟩ := hcl' rfl; exact Nat.le_refl _
        have hall : ∀ b, MarksOk ds ((((H1.set q5 (.cells [ci o.kind, ci o.dst, ci o.a, ci o.b, ci o.c, ci o.n, ci o.guard])).set rr (.cells (boolC u.regs.toNat (spreadR o p' c')))).set rc (.cells (boolC u.spill.toNat (spreadC o p' c')))).set q4 (.cells [.bool b])) (PE (H.set qo (.cells (unitC u))) u q1 q2 q3 rr rc q4 (spreadR o p' c') (spreadC o p' c') b) := fun b => by
          rw [← PE_spread (p := p') (c := c') (a := a') hd hrc]
          refine MarksOk.set (MarksOk.set (MarksOk.set (hM'.mono (Le.set_new hq5)) (.inr ?_)) (.inr ?_)) (.inr ?_)
          · simp [PE, Ne.symm hd.d, hrc]
          · simp [PE, Ne.symm hd.e, hcr]
          · simp [PE, hd.d, hd.e]
        refine ⟨fun h => ⟨_, _, true, hlow'.spread (List.mem_of_getElem? ho), fun _ => ?_, by simp, hall true⟩, fun h => ⟨p', c', a', hlow', hgt, fun ha => ?_, ?_⟩⟩
        · have := spread_gap hu hwo h
          omega
        · obtain ⟨rfl, rfl, hn⟩ := hcl' ha
          refine ⟨rfl, rfl, fun j o' hj ho' => ?_⟩
          rcases Nat.lt_or_ge j k with hjk | hjk
          · exact hn j o' hjk ho'
          · have : j = k := by omega
            subst this
            rw [ho] at ho'
            injection ho' with ho'
            rwa [← ho']
        · have := hall a'
          rw [spreadR_same h, spreadC_same h] at this
          rw [spreadR_same h, spreadC_same h]
          exact this
      · rintro d H1 ⟨p', c', a', hlow', hgt, hcl', hM'⟩ hdn
        simp [opYs] at hcl'
        simp
        exact ⟨by simp [e1], by simp [e2], by simp [e3], by simp [e4], p', c', a', hlow', hgt, by simpa using hcl', (hM'.push hdn).less (PE_le (Le.set_new (PE_none hPo)))⟩
    rintro ⟨e, ds⟩ H1 ⟨e1, e2, e3, e4, p', c', a', hlow', hgt, hcl', hM'⟩
    dsimp only at e1 e2 e3 e4 hM'
    refine CW.walk1 hX mixed d56 rfl ?_
    have hM4' : H1 q4 = some (.cells [.bool a']) := hM'.get (by simp [PE])
    simp [e1, e2, e3, e4, hM4']
    intro q5 hq5
    have k5 : ∀ q o, PE H u q1 q2 q3 rr rc q4 p' c' a' q = some o → q5 ≠ q := fun q o h e => by
      have := hM'.get h
      rw [← e, hq5] at this
      cases this
    refine ⟨_, ?_, p', c', a', q5, rfl, by simp [e1], by simp [e2], by simp [e3], by simp, ⟨k5 q1 (.cells (unitC u)) (by simp [PE, Ne.symm hd.a, h1c, h1r, h13, h12]), k5 q2 (.cells [.nilsl, .nilsl]) (by simp [PE, Ne.symm hd.b, h2c, h2r, h23]), k5 q3 _ (by simp [PE, Ne.symm hd.c, h3c, h3r]; rfl), k5 rr _ (by simp [PE, Ne.symm hd.d, hrc]; rfl), k5 rc _ (by simp [PE, Ne.symm hd.e]; rfl)⟩, ?_, hlow', ?_, ?_⟩
    · cases a' with
      | true => have := hgt rfl; simp; omega
      | false => obtain ⟨rfl, rfl, _⟩ := hcl' rfl; simp
    · cases hx : H q5 with
      | none => rfl
      | some o =>
        have hf : ∀ q, H q = none → q5 ≠ q := fun q hq e => by rw [← e, hx] at hq; cases hq
        have := k5 q5 o (by simp [PE, hf q4 hq4, hf rc hrc0, hf rr hrr, hf q3 hq3, hf q2 hq2, hf q1 hq1, hx])
        exact absurd rfl this
    · intro ha
      obtain ⟨rfl, rfl, h⟩ := hcl' ha
      intro o ho
      obtain ⟨j, hj, hoj⟩ := List.mem_iff_getElem.1 ho
      exact h j o hj (by rw [List.getElem?_eq_getElem hj, hoj])
    · have h1 : Le (cutH (PE H u q1 q2 q3 rr rc q4 p' c' a') q4) (PE H u q1 q2 q3 rr rc q4 p' c' a') := fun i o hi => by
        simp only [cutH] at hi
        split at hi
        · cases hi
        · exact hi
      refine ((hM'.less h1).set (o := .cells [.bool a']) (.inl hq5)).less ?_
      intro i o hi
      by_cases i5 : i = q5
      · subst i5; simpa [PE] using hi
      · have i4 : i ≠ q4 := fun e => by subst e; simp [PE, i5, hd.e, hd.d, hd.c, hd.b, hd.a, hq4] at hi
        simp only [Hp.set, cutH, if_neg i5, if_neg i4]
        simpa only [PE, if_neg i5, if_neg i4] using hi
  · subst ha
    have hM3 : H' q3 = some (.cells [.ref rr 0 u.regs.toNat u.regs.toNat, .ref rc 0 u.spill.toNat u.spill.toNat]) := hM.get (by simp [PE, Ne.symm hd.c, h3c, h3r])
    have hM2 : H' q2 = some (.cells [.nilsl, .nilsl]) := hM.get (by simp [PE, Ne.symm hd.b, h2c, h2r, h23])
    refine CW.walk1 hX mixed d56 rfl ?_
    simp [e1, e2, e3, e4, hM3, hM2]
    refine leave_marks (B := (PE H u q1 q2 q3 rr rc q4 p c false).set q2 (.cells [.ref rr 0 u.regs.toNat u.regs.toNat, .ref rc 0 u.spill.toNat u.spill.toNat])) ?_ (hM.set (.inr ?_))
    · intro H2 hle
      have h2 : H2 q2 = some (.cells [.ref rr 0 u.regs.toNat u.regs.toNat, .ref rc 0 u.spill.toNat u.spill.toNat]) := hle q2 _ (by simp)
      simp [e2, h2]
      refine ⟨p, c, rr, rc, by simp, hrc, hle rr _ ?_, hle rc _ ?_, ?_, hcl rfl, hlow⟩
      · simp [PE, Ne.symm hd.d, hrc, hr2]
      · simp [PE, Ne.symm hd.e, hc2]
      · intro i o hi
        refine hle i o ?_
        have : ∀ q, H q = none → i ≠ q := fun q hq e => by rw [e, hq] at hi; cases hi
        simp [PE, this q1 hq1, this q2 hq2, this q3 hq3, this rr hrr, this rc hrc0, this q4 hq4, hi]
    · simp [PE, Ne.symm hd.b, h2c, h2r, h23]
end Go.Cl
