/- DERIVED HERE. The reference's Engine: New. -/
import Derived.Test.YtfkdjajpopocpaaDoorEG
set_option linter.unusedSimpArgs false
set_option linter.unusedVariables false
namespace Go.Cl
open Go.Proofs Dd
variable {W : World} {G : Nat → CV}
set_option maxRecDepth 8000
set_option maxHeartbeats 4000000
theorem zero2 (n : Nat) : (List.range (n * 2)).map (fun i => ([CV.int IntKind.i64 0, CV.int IntKind.i64 0][i % 2]?).getD CV.any) = valsC n fun _ => v0 := by
  apply List.ext_getElem?
  intro j
  rw [List.getElem?_map]
  rcases Nat.lt_or_ge j (n * 2) with h | h
  · rw [List.getElem?_range h]
    obtain ⟨h1, h2⟩ := valsC_at (n := n) (i := j / 2) (fun _ => v0) (by omega)
    have hj : j = j / 2 * 2 ∨ j = j / 2 * 2 + 1 := by omega
    rcases hj with hj | hj
    · rw [hj, h1]
      simp only [Option.map_some, show j / 2 * 2 % 2 = 0 by omega]; rfl
    · rw [hj, h2]
      simp only [Option.map_some, show (j / 2 * 2 + 1) % 2 = 1 by omega]; rfl
  · rw [List.getElem?_eq_none (by simpa using h), List.getElem?_eq_none (by rw [valsC_len]; exact h)]; rfl
theorem zero1 (n : Nat) : (List.range n).map (fun i => ([CV.int IntKind.i64 0][i % 1]?).getD CV.any) = (List.replicate n (0 : Int)).map fun m => ci m := by
  skip
  apply List.ext_getElem?
  intro j
  rw [List.getElem?_map, List.getElem?_map]
  rcases Nat.lt_or_ge j n with h | h
  · rw [List.getElem?_range h, List.getElem?_replicate, if_pos h]
    simp [Nat.mod_one]
  · rw [List.getElem?_eq_none (by simpa using h), List.getElem?_eq_none (by simpa using h)]; rfl
theorem zero3 (n : Nat) : ∀ c ∈ (List.range (n * 3)).map (fun i => ([CV.int IntKind.i64 0, CV.int IntKind.i64 0, CV.int IntKind.i64 0][i % 3]?).getD CV.any), ∃ m, c = ci m := by
  intro c hc
  obtain ⟨i, _, rfl⟩ := List.mem_map.1 hc
  have : i % 3 = 0 ∨ i % 3 = 1 ∨ i % 3 = 2 := by omega
  rcases this with h | h | h <;> rw [h] <;> exact ⟨0, rfl⟩
theorem valsC_set1 {n i : Nat} (f : Nat → Val) (x : Int) (h : i < n) : (valsC n f).take (i * 2) ++ ci x :: (valsC n f).drop (i * 2 + 1) = valsC n (fset f i ⟨x, (f i).bad⟩) := by
  have h1 := valsC_set f ⟨x, (f i).bad⟩ h
  simp only [valC, List.cons_append, List.nil_append] at h1
  rw [← h1]
  congr 2
  obtain ⟨_, h2⟩ := valsC_at f h
  obtain ⟨hl, he⟩ := List.getElem?_eq_some_iff.1 h2
  rw [List.drop_eq_getElem_cons hl, he]
def nE (u : UUnit) (f : Nat → Val) (k : Int) : Eng := { regs := f, cells := fun i => List.replicate (u.sizes.getD i 0).toNat 0, kept := fun _ => v0, block := 0, pc := 0, steps := 0, out := ⟨[], k, 0⟩, done := false }
def regsI (L : List Int) (i : Nat) : Nat → Val := fun j => if j < i then ⟨L.getD j 0, 0⟩ else v0
def newE (u : UUnit) (L : List Int) : Eng := nE u (regsI L L.length) 3
structure nwI (B : Hp) (lab κ : Nat → Nat) (a : EV) (u u0 : UUnit) (L : List Int) (ra r2 d : Nat) (j : Nat) (s' : CA) (H' : Hp) : Prop where
  ex : ∃ i i6 : Nat, i ≤ L.length ∧ j = L.length - i ∧ s'.env 1 = .ref ra 0 L.length L.length ∧ s'.env 2 = .ptr r2 0 ∧ s'.env 5 = .ptr a.q 0 ∧ s'.env 6 = .int .i64 i6 ∧ i6 + d = i ∧ s'.ds = [] ∧ EH B H' lab κ a u0 (nE u (regsI L i) 0)
structure nwJ (B : Hp) (a : EV) (u : UUnit) (f : Nat → Val) (r2 d : Nat) (j : Nat) (s' : CA) (H' : Hp) : Prop where
  ex : ∃ (i i7 : Nat) (lab κ : Nat → Nat) (vC : CV), i ≤ u.sizes.length ∧ j = u.sizes.length - i ∧ s'.env 2 = .ptr r2 0 ∧ s'.env 5 = .ptr a.q 0 ∧ s'.env 7 = .int .i64 i7 ∧ i7 + d = i ∧ s'.ds = [] ∧ EH B H' lab κ { a with vC := vC } { u with sizes := u.sizes.take i } (nE u f 0)
/-- A new block, which may have a label. -/
theorem EH.fresh {B H : Hp} {lab κ : Nat → Nat} {a : EV} {u : UUnit} {e : Eng} (h : EH B H lab κ a u e) {r : Nat} {o : Ob} (n : Nat) (hr : H r = none) : EH B (H.set r o) (fset lab r n) κ a u e := by
  have hne : ∀ {x y}, H x = some y → x ≠ r := fun hx k => by rw [k, hr] at hx; cases hx
  have get : ∀ {x y}, H x = some y → (H.set r o) x = some y := fun hx => Le.set_new hr _ _ hx
  have lab0 : ∀ {x m y}, H x = some y → lab x = m → fset lab r n x = m := fun hx hl => by simp only [fset]; rw [if_neg (hne hx)]; exact hl
  have own : ∀ {v sz xs m}, Own B H v sz xs → Lab lab v m → Own B (H.set r o) v sz xs ∧ Lab (fset lab r n) v m := fun {v sz xs m} ho hl => by
    obtain ⟨h1, h2, h3⟩ := ho
    rcases h3 with h3 | ⟨q, c, ex, rfl, h4, h5, h6⟩
    · exact ⟨⟨h1.trans (Le.set_new hr), h2, .inl h3⟩, fun r o l c k => by rw [h3.1] at k; cases k⟩
    · exact ⟨⟨h1.trans (Le.set_new hr), h2, .inr ⟨q, c, ex, rfl, h4, get h5, h6⟩⟩, fun r' o l c' k => by injection k with e1; subst e1; exact lab0 h5 (hl _ _ _ _ rfl)⟩
  obtain ⟨cs, c1, c2, c3⟩ := h.hc
  obtain ⟨L, w1, w2⟩ := h.hw
  obtain ⟨p1, p2⟩ := own h.hp h.lP
  obtain ⟨q1, q2⟩ := own w1 h.lW
  obtain ⟨s1, s2⟩ := own h.hC h.lC
  refine { le := h.le.trans (Le.set_new hr), nb := fun x hx => ?_, hq := get h.hq, hr := get h.hr, hk := get h.hk, hc := ⟨cs, get c1, c2, c3⟩, hp := p1, hw := ⟨L, q1, w2⟩, hC := s1, hκ := fun i hi => get (h.hκ i hi), lq := lab0 h.hq h.lq, lr := lab0 h.hr h.lr, lk := lab0 h.hk h.lk, lc := lab0 c1 h.lc, lP := p2, lW := q2, lC := s2, lκ := fun i hi => lab0 (h.hκ i hi) (h.lκ i hi) }
  have : x ≠ r := fun k => hx (by rw [k]; exact h.le.none hr)
  simp only [fset]
  rw [if_neg this]
  exact h.nb x hx
/-- One array more, and the Engine's own block tells it. -/
theorem EH.setC {B H H4 : Hp} {lab κ : Nat → Nat} {a : EV} {u : UUnit} {e : Eng} (h : EH B H lab κ a u e) {v' : CV} {rk : Nat} {s' : List Int} (hs : s'.length = u.sizes.length + 1) (hlab : lab rk = 8 + u.sizes.length) (hrk : H rk = some (.cells ((e.cells u.sizes.length).map fun n => ci n)))
    (how : Own B H4 v' 1 ((List.range (u.sizes.length + 1)).map fun i => [.ref (fset κ u.sizes.length rk i) 0 (e.cells i).length (e.cells i).length]))
    (kp : ∀ r o, H r = some o → (∀ n c, a.vC ≠ .ref r 0 n c) → H4 r = some o ∧ ∀ n c, v' ≠ .ref r 0 n c) : EH B (H4.set a.q (.cells (engC { a with vC := v' } { u with sizes := s' } e))) (labS lab v' 7) (fset κ u.sizes.length rk) { a with vC := v' } { u with sizes := s' } e := by
  have hP : ∀ {x n}, lab x = n → n ≠ 7 → ∀ m c, a.vC ≠ .ref x 0 m c := fun hx hn m c k => hn (by rw [← hx, h.lC _ _ _ _ k])
  have keep : ∀ {x n o}, lab x = n → n ≠ 7 → H x = some o → H4 x = some o ∧ labS lab v' 7 x = n := fun hx hn ho => by
    obtain ⟨k1, k2⟩ := kp _ _ ho (hP hx hn)
    refine ⟨k1, ?_⟩
    rw [labS_ne (fun r o l c k e => by
      have h0 := (how.at0 k).1
      subst h0
      exact k2 l c (by rw [k, e])), hx]
  have own : ∀ {v sz xs n}, Own B H v sz xs → Lab lab v n → n ≠ 7 → n ≠ 0 → Own B H4 v sz xs ∧ Lab (labS lab v' 7) v n := fun {v sz xs n} ho hl hn hn0 => by
    obtain ⟨h1, h2, h3⟩ := ho
    rcases h3 with h3 | ⟨r, c, ex, rfl, h4, h5, h6⟩
    · exact ⟨⟨how.le, h2, .inl h3⟩, fun r o l c k => by rw [h3.1] at k; cases k⟩
    · obtain ⟨k1, k2⟩ := keep (hl _ _ _ _ rfl) hn h5
      exact ⟨⟨how.le, h2, .inr ⟨r, c, ex, rfl, h4, k1, h6⟩⟩, fun r' o l c' k => by injection k with e1; subst e1; exact k2⟩
  have hB : B a.q = none := h.bnone (by rw [h.lq]; decide)
  obtain ⟨q1, q2⟩ := keep h.lq (by decide) h.hq
  obtain ⟨r1, r2⟩ := keep h.lr (by decide) h.hr
  obtain ⟨k1, k2⟩ := keep h.lk (by decide) h.hk
  obtain ⟨cs, c1, c2, c3⟩ := h.hc
  obtain ⟨d1, d2⟩ := keep h.lc (by decide) c1
  obtain ⟨L, w1, w2⟩ := h.hw
  obtain ⟨p1, p2⟩ := own w1 h.lW (by decide) (by decide)
  obtain ⟨e1, e2⟩ := own h.hp h.lP (by decide) (by decide)
  have hl5 : Lab (labS lab v' 7) v' 7 := labS_at
  have hne : ∀ {x n}, labS lab v' 7 x = n → n ≠ 1 → x ≠ a.q := fun hx hn k => hn (by rw [← hx, k, q2])
  have get : ∀ {x n o o'}, labS lab v' 7 x = n → n ≠ 1 → H4 x = some o → (H4.set a.q o') x = some o := fun hx hn ho => by simp only [Hp.set]; rw [if_neg (hne hx hn)]; exact ho
  have arr : ∀ i, i < u.sizes.length + 1 → H4 (fset κ u.sizes.length rk i) = some (.cells ((e.cells i).map fun n => ci n)) ∧ labS lab v' 7 (fset κ u.sizes.length rk i) = 8 + i := fun i hi => by
    simp only [fset]
    by_cases hj : i = u.sizes.length
    · subst hj; rw [if_pos rfl]; exact keep hlab (by omega) hrk
    · rw [if_neg hj]; exact keep (h.lκ i (by omega)) (by omega) (h.hκ i (by omega))
  refine { le := how.le.put hB, nb := fun x hx => ?_, hq := set_at, hr := get r2 (by decide) r1, hk := get k2 (by decide) k1, hc := ⟨cs, get d2 (by decide) d1, c2, c3⟩, hp := ?_, hw := ⟨L, ?_, w2⟩, hC := ?_, hκ := fun i hi => ?_, lq := q2, lr := r2, lk := k2, lc := d2, lP := e2, lW := p2, lC := hl5, lκ := fun i hi => (arr i (by simp only [hs] at hi; exact hi)).2 }
  · rw [labS_ne fun r o l c k ek => by
      have := (how.at0 k).2.2
      rw [← ek] at this
      exact hx this]
    exact h.nb x hx
  · exact e1.keep hB fun r o l c k => hne (e2 r o l c k) (by decide)
  · exact p1.keep hB fun r o l c k => hne (p2 r o l c k) (by decide)
  · simp only [hs]; exact how.keep hB fun r o l c k => hne (hl5 r o l c k) (by decide)
  · obtain ⟨g1, g2⟩ := arr i (by simp only [hs] at hi; exact hi)
    exact get g2 (by omega) g1
theorem new11_c (hX : CxOk (cx W G)) {H : Hp} {u : UUnit} (hw : wfU u = true) {x0 : CV} {rb cb : Nat} (hfz : Fz H x0 (.sl 1 (u.sizes.map fun n => [ci n]))) {ra : Nat} {L : List Int} (ma : H ra = some (.cells (L.map fun n => ci n))) (hL : L.length ≤ u.regs.toNat) :
    CC Tryd.prog W 11 [.agg [x0, ci u.params, ci u.regs, ci u.code, ci u.spill, .ref rb 0 u.blocks.length cb], .ref ra 0 L.length L.length] H fun x H' => ∃ lab κ a, x = .ret (.ptr a.q 0) ∧ EH H H' lab κ a u (newE u L) ∧ a.v0 = x0 ∧ a.v5 = .ref rb 0 u.blocks.length cb := by
  obtain ⟨f1, f2, f3, f4, f5, f6, f7, f8, f9, f10, f11⟩ := wfU_facts hw
  refine CC.of_cw hX Tryd.func11 rfl rfl (Nat.le_of_ble_eq_true rfl) ?_
  refine CW.walk hX mixed d11 rfl ?_
  simp
  intro r2 n2
  refine CW.walk hX mixed d11 rfl ?_
  simp [d11]
  refine ⟨by omega, by omega, by omega, fun r q1 q2 n3 => ⟨f3, by omega, by omega, fun r1 q3 q4 q5 q6 n4 => ⟨by omega, by omega, fun r3 q7 q8 q9 q10 q11 q12 n5 => ?_⟩⟩⟩
  refine ⟨_, rfl, fun q q13 q14 q15 q16 q17 q18 q19 q20 n6 => ?_⟩
  rw [zero2, zero2]
  obtain ⟨B, hB⟩ : ∃ B, B = H.set r2 (.cells [x0, ci u.params, ci u.regs, ci u.code, ci u.spill, .ref rb 0 u.blocks.length cb]) := ⟨_, rfl⟩
  have hle0 : Le H B := by rw [hB]; exact Le.set_new n2
  have b2 : B r2 = some (.cells [x0, ci u.params, ci u.regs, ci u.code, ci u.spill, .ref rb 0 u.blocks.length cb]) := by rw [hB]; exact set_at
  rw [← hB]
  have nB : ∀ {x}, H x = none → x ≠ r2 → B x = none := fun hx hn => by rw [hB]; simp [Hp.set, hn, hx]
  have n3 := nB n3 q1
  have n4 := nB n4 q5
  have n5 := nB n5 q11
  have n6 := nB n6 q19
  clear hB
  let a : EV := { q := q, rr := r, rk := r1, rc := r3, v0 := x0, v5 := .ref rb 0 u.blocks.length cb, vC := .nilsl, vP := .nilsl, vW := .nilsl }
  let u0 : UUnit := { u with sizes := u.sizes.take 0 }
  let lab : Nat → Nat := fset (fset (fset (fset (fun _ => 0) r 2) r1 3) r3 4) q 1
  generalize hcs : List.map (fun i => ([CV.int IntKind.i64 0, CV.int IntKind.i64 0, CV.int IntKind.i64 0][i % 3]?).getD CV.any) (List.range (u.blocks.length * 3)) = cs
  have hcl : cs.length = u.blocks.length * 3 := by rw [← hcs]; simp
  have hci : ∀ c ∈ cs, ∃ m, c = ci m := by rw [← hcs]; exact zero3 _
  clear hcs
  generalize hH1 : Hp.set _ q _ = H1
  have mq : H1 q = some (.cells (engC a u0 (nE u (regsI L 0) 0))) := by rw [← hH1]; exact set_at
  have mr : H1 r = some (.cells (valsC u.regs.toNat fun _ => v0)) := by rw [← hH1]; simp [Hp.set, *]
  have mr1 : H1 r1 = some (.cells (valsC u.spill.toNat fun _ => v0)) := by rw [← hH1]; simp [Hp.set, *]
  have mr3 : H1 r3 = some (.cells cs) := by rw [← hH1]; simp [Hp.set, *]
  have l1 : Le B H1 := by rw [← hH1]; exact ((((Le.refl B).put n3).put n4).put n5).put n6
  have hE : EH B H1 lab (fun _ => 0) a u0 (nE u (regsI L 0) 0) := by
    have nl : ∀ v n, v = CV.nilsl → Lab lab v n := fun v n hv r o l c k => by rw [hv] at k; cases k
    have hz : regsI L 0 = fun _ => v0 := by funext j; simp [regsI]
    refine { le := l1, nb := fun x hx => ?_, hq := mq, hr := by rw [show (nE u (regsI L 0) 0).regs = fun _ => v0 from hz]; exact mr, hk := mr1, hc := ⟨cs, mr3, hcl, hci⟩, hp := Own.nil l1, hw := ⟨[], Own.nil l1, by simp⟩, hC := Own.nil l1, hκ := fun i hi => by simp [u0] at hi, lq := by simp [lab, fset, a], lr := by simp [lab, fset, a, *], lk := by simp [lab, fset, a, *], lc := by simp [lab, fset, a, *], lP := nl _ _ rfl, lW := nl _ _ rfl, lC := nl _ _ rfl, lκ := fun i hi => by simp [u0] at hi }
    have h1 : x ≠ r := fun k => hx (by rw [k]; exact n3)
    have h2 : x ≠ r1 := fun k => hx (by rw [k]; exact n4)
    have h3 : x ≠ r3 := fun k => hx (by rw [k]; exact n5)
    have h4 : x ≠ q := fun k => hx (by rw [k]; exact n6)
    simp [lab, fset, h1, h2, h3, h4]
  have hmo : ∀ {x}, H x ≠ none → B x = H x := fun {x} hx => by
    cases hh : H x with
    | none => exact absurd hh hx
    | some o => exact hle0 _ _ hh
  have ba : B ra = some (.cells (L.map fun n => ci n)) := hle0 _ _ ma
  have hq5 : a.q = q := rfl
  have hv0 : a.v0 = x0 := rfl
  have hv5 : a.v5 = .ref rb 0 u.blocks.length cb := rfl
  have hvC : a.vC = .nilsl := rfl
  have hrr : a.rr = r := rfl
  clear_value a lab
  rw [← hq5]
  clear hH1 mq mr mr1 mr3 l1 q1 q2 q3 q4 q5 q6 q7 q8 q9 q10 q11 q12 q13 q14 q15 q16 q17 q18 q19 q20 nB hq5 hrr hci hcl n3 n4 n5 n6
  refine CW.cut (nwI B lab (fun _ => 0) a u u0 L ra r2 0 0) ?_ ?_
  · refine CW.walk hX mixed d11 rfl ?_
    simp
    refine CW.block ?_
    refine CW.loop (nwI B lab (fun _ => 0) a u u0 L ra r2 0) ?_ (m := L.length) ⟨0, 0, by omega, rfl, by simp, by simp, by simp, by simp, rfl, rfl, hE⟩
    rintro j ⟨en, ds⟩ H2 ⟨i, i6, hi, rfl, e1, e2, e5, e6, hi6, rfl, h2⟩
    obtain rfl : i = i6 := by omega
    dsimp only at e1 e2 e5 e6
    by_cases hlt : i < L.length
    · have hq := h2.hq
      have hr := h2.hr
      have ma2 := h2.le _ _ ba
      simp only [engC] at hq
      have hvl := valsC_len u0.regs.toNat (nE u (regsI L i) 0).regs
      have hu0 : u0.regs = u.regs := rfl
      have hset := valsC_set1 (n := u0.regs.toNat) (i := i) (nE u (regsI L i) 0).regs L[i] (by rw [hu0]; omega)
      have hnx : fset (nE u (regsI L i) 0).regs i ⟨L[i], ((nE u (regsI L i) 0).regs i).bad⟩ = regsI L (i + 1) := by
        funext j
        simp only [fset, nE, regsI]
        by_cases hj : j = i
        · subst hj
          rw [if_pos rfl, if_neg (by omega), if_pos (by omega), List.getD_eq_getElem?_getD, List.getElem?_eq_getElem hlt]
          rfl
        · rw [if_neg hj]
          by_cases h1 : j < i
          · rw [if_pos h1, if_pos (by omega)]
          · rw [if_neg h1, if_neg (by omega)]
      rw [hnx] at hset
      refine CW.walk hX mixed d11 rfl ?_
      simp [e1, e6, hlt]
      refine CW.cut (nwI B lab (fun _ => 0) a u u0 L ra r2 1 (L.length - (i + 1))) ?_ ?_
      · refine CW.block ?_
        refine CW.walk1 hX mixed d11 rfl ?_
        simp [d11, e1, e5, e6, hq, hr, ma2, hlt]
        refine ⟨by rw [hu0]; omega, by rw [hvl, hu0]; omega, i + 1, i, hlt, rfl, by simp [e1], by simp [e2], by simp [e5], by simp [e6], rfl, rfl, ?_⟩
        rw [hset]
        exact h2.setr (regsI L (i + 1))
      · rintro ⟨en, ds⟩ H3 ⟨i', i6, hi', hj', e1, e2, e5, e6, hi6, rfl, h3⟩
        dsimp only at e1 e2 e5 e6
        refine CW.walk1 hX mixed d11 rfl ?_
        simp [e6]
        exact ⟨L.length - (i + 1), by omega, i', i', hi', hj', by simp [e1], by simp [e2], by simp [e5], by simp; rw [wrapI (by omega) (by omega)]; omega, rfl, rfl, h3⟩
    · refine CW.walk hX mixed d11 rfl ?_
      simp [e1, e6, hlt]
      exact ⟨i, i, hi, by omega, by simp [e1], by simp [e2], by simp [e5], by simp [e6], rfl, rfl, h2⟩
  clear hE
  rintro ⟨en, ds⟩ H2 ⟨i, _, hi, hj, _, e2, e5, _, _, rfl, h2⟩
  obtain rfl : i = L.length := by omega
  dsimp only at e2 e5
  have hsz : ∀ (j : Nat) (n : Int), u.sizes[j]? = some n → 1 ≤ n ∧ n ≤ 65536 := fun j n hn => by
    simp only [wfU, wfSizes, Bool.and_eq_true, List.all_eq_true] at hw
    have := hw.1.1.1.2 n (List.mem_of_getElem? hn)
    simp at this
    omega
  have hsl : u.sizes.length ≤ 16 := by
    simp only [wfU, wfHead, Bool.and_eq_true, decide_eq_true_eq] at hw
    omega
  refine CW.cut (nwJ B a u (regsI L L.length) r2 0 0) ?_ ?_
  · refine CW.walk hX mixed d11 rfl ?_
    simp
    refine CW.block ?_
    refine CW.loop (nwJ B a u (regsI L L.length) r2 0) ?_ (m := u.sizes.length) ⟨0, 0, lab, _, a.vC, by omega, rfl, by simp [e2], by simp [e5], by simp, rfl, rfl, h2⟩
    clear h2 e2 e5 lab
    rintro j ⟨en, ds⟩ H2 ⟨i, i7, lab, κ, vC, hi, rfl, e2, e5, e7, hi7, rfl, h2⟩
    obtain rfl : i = i7 := by omega
    dsimp only at e2 e5 e7
    have m2 := h2.le _ _ b2
    by_cases hlt : i < u.sizes.length
    · have hfz2 := (hfz.mono hle0).mono h2.le
      obtain ⟨n, hn⟩ : ∃ n, u.sizes[i] = n := ⟨_, rfl⟩
      have hn' : u.sizes[i]? = some n := by rw [List.getElem?_eq_getElem hlt, hn]
      have hnb := hsz i n hn'
      have hq := h2.hq
      simp only [engC] at hq
      refine CW.walk hX mixed d11 rfl ?_
      rcases hfz2.elem (i := i) (e := [ci n]) (by rw [List.getElem?_map, hn']; rfl) (by simp) (by omega) with rfl | ⟨ro, oo, co, cso, rfl, mo, _, hto, hlo⟩
      · simp [d11, e2, e7, m2, hlt]
        refine ⟨?_, fun k => absurd k (by omega)⟩
        refine CW.cut (nwJ B a u (regsI L L.length) r2 1 (u.sizes.length - (i + 1))) ?_ ?_
        · refine CW.block ?_
          refine CW.walk1 hX mixed d11 rfl ?_
          simp [d11, e2, e5, e7, m2, hq, hn, hlt, cfill, -vcAppend]
          refine ⟨by omega, by omega, by omega, fun r n3 r1 q1 q2 n4 => ?_⟩
          simp only [zero1]
          have h3 := h2.fresh (r := r) (o := .cells ((List.replicate n.toNat (0 : Int)).map fun m => ci m)) (8 + i) n3
          have n4' : (H2.set r (.cells ((List.replicate n.toNat (0 : Int)).map fun m => ci m))) r1 = none := by rw [hset_ne q1]; exact n4
          have h4 := h3.fresh (r := r1) (o := .cells [.ref r 0 n.toNat n.toNat]) 0 n4'
          have hl4 : fset (fset lab r (8 + i)) r1 0 r = 8 + i := by simp [fset, q2]
          have mr : ((H2.set r (.cells ((List.replicate n.toNat (0 : Int)).map fun m => ci m))).set r1 (.cells [.ref r 0 n.toNat n.toNat])) r = some (.cells ((List.replicate n.toNat (0 : Int)).map fun m => ci m)) := by rw [hset_ne q2]; exact set_at
          generalize fset (fset lab r (8 + i)) r1 0 = lab4 at h4 hl4
          have src : ((H2.set r (.cells ((List.replicate n.toNat (0 : Int)).map fun m => ci m))).set r1 (.cells [.ref r 0 n.toNat n.toNat])) r1 = some (.cells [.ref r 0 n.toNat n.toNat]) := set_at
          generalize (H2.set r (.cells ((List.replicate n.toNat (0 : Int)).map fun m => ci m))).set r1 (.cells [.ref r 0 n.toNat n.toNat]) = H4 at h4 mr src ⊢
          have htl : (u.sizes.take i).length = i := by rw [List.length_take]; omega
          refine (h4.hC).append2 (ys := [[.ref r 0 n.toNat n.toNat]]) (by simp) (by simp; omega) (src_one src rfl) fun v' H5 how5 kp => ?_
          have hcl : (nE u (regsI L L.length) 0).cells i = List.replicate n.toNat 0 := by simp only [nE, List.getD_eq_getElem?_getD, hn', Option.getD_some]
          have h5 := h4.setC (s' := u.sizes.take (i + 1)) (rk := r) (v' := v') (by rw [htl, List.length_take]; omega) (by rw [hl4, htl]) (by rw [htl, hcl]; exact mr) (by
            rw [htl, List.range_succ, List.map_append]
            rw [htl] at how5
            have e1 : (List.range i).map (fun j => [CV.ref (fset κ i r j) 0 ((nE u (regsI L L.length) 0).cells j).length ((nE u (regsI L L.length) 0).cells j).length]) = (List.range i).map (fun j => [CV.ref (κ j) 0 ((nE u (regsI L L.length) 0).cells j).length ((nE u (regsI L L.length) 0).cells j).length]) := by
              apply List.map_congr_left
              intro j hj
              have : j ≠ i := by have := List.mem_range.1 hj; omega
              simp only [fset, if_neg this]
            rw [e1]
            simpa [fset, hcl] using how5) kp
          have mq := (kp _ _ h4.hq fun n c k => by have := h4.lC _ _ _ _ k; rw [h4.lq] at this; cases this).1
          have hvs : v'.stor = true ∧ v'.cells = [v'] := by
            obtain ⟨_, _, ⟨rfl, _⟩ | ⟨q, c, ex, rfl, _⟩⟩ := how5 <;> exact ⟨rfl, rfl⟩
          simp only [CV.stor, CV.cells] at hvs
          simp only [engC] at mq
          simp [mq, hvs, e5]
          exact ⟨i + 1, i, _, _, v', hlt, rfl, by simp [e2], by simp [e5], by simp [e7], rfl, rfl, h5⟩
        · rintro ⟨en, ds⟩ H3 ⟨i', i7, lab3, κ3, vC3, hi', hj', e2, e5, e7, hi7, rfl, h3⟩
          dsimp only at e2 e5 e7
          refine CW.walk1 hX mixed d11 rfl ?_
          simp [e7]
          exact ⟨u.sizes.length - (i + 1), by omega, i', i', lab3, κ3, vC3, hi', hj', by simp [e2], by simp [e5], by simp; rw [wrapI (by omega) (by omega)]; omega, rfl, rfl, h3⟩
      · have hco : cso[oo + i]? = some (ci n) := by
          have := congrArg (fun l => l[0]?) hto
          simpa [List.getElem?_take, List.getElem?_drop] using this
        simp [d11, e2, e7, m2, hlt]
        refine ⟨?_, fun k => absurd k (by omega)⟩
        refine CW.cut (nwJ B a u (regsI L L.length) r2 1 (u.sizes.length - (i + 1))) ?_ ?_
        · refine CW.block ?_
          refine CW.walk1 hX mixed d11 rfl ?_
          simp [d11, e2, e5, e7, m2, hq, mo, hco, hlt, cfill, -vcAppend]
          refine ⟨by omega, by omega, by omega, fun r n3 r1 q1 q2 n4 => ?_⟩
          simp only [zero1]
          have h3 := h2.fresh (r := r) (o := .cells ((List.replicate n.toNat (0 : Int)).map fun m => ci m)) (8 + i) n3
          have n4' : (H2.set r (.cells ((List.replicate n.toNat (0 : Int)).map fun m => ci m))) r1 = none := by rw [hset_ne q1]; exact n4
          have h4 := h3.fresh (r := r1) (o := .cells [.ref r 0 n.toNat n.toNat]) 0 n4'
          have hl4 : fset (fset lab r (8 + i)) r1 0 r = 8 + i := by simp [fset, q2]
          have mr : ((H2.set r (.cells ((List.replicate n.toNat (0 : Int)).map fun m => ci m))).set r1 (.cells [.ref r 0 n.toNat n.toNat])) r = some (.cells ((List.replicate n.toNat (0 : Int)).map fun m => ci m)) := by rw [hset_ne q2]; exact set_at
          generalize fset (fset lab r (8 + i)) r1 0 = lab4 at h4 hl4
          have src : ((H2.set r (.cells ((List.replicate n.toNat (0 : Int)).map fun m => ci m))).set r1 (.cells [.ref r 0 n.toNat n.toNat])) r1 = some (.cells [.ref r 0 n.toNat n.toNat]) := set_at
          generalize (H2.set r (.cells ((List.replicate n.toNat (0 : Int)).map fun m => ci m))).set r1 (.cells [.ref r 0 n.toNat n.toNat]) = H4 at h4 mr src ⊢
          have htl : (u.sizes.take i).length = i := by rw [List.length_take]; omega
          refine (h4.hC).append2 (ys := [[.ref r 0 n.toNat n.toNat]]) (by simp) (by simp; omega) (src_one src rfl) fun v' H5 how5 kp => ?_
          have hcl : (nE u (regsI L L.length) 0).cells i = List.replicate n.toNat 0 := by simp only [nE, List.getD_eq_getElem?_getD, hn', Option.getD_some]
          have h5 := h4.setC (s' := u.sizes.take (i + 1)) (rk := r) (v' := v') (by rw [htl, List.length_take]; omega) (by rw [hl4, htl]) (by rw [htl, hcl]; exact mr) (by
            rw [htl, List.range_succ, List.map_append]
            rw [htl] at how5
            have e1 : (List.range i).map (fun j => [CV.ref (fset κ i r j) 0 ((nE u (regsI L L.length) 0).cells j).length ((nE u (regsI L L.length) 0).cells j).length]) = (List.range i).map (fun j => [CV.ref (κ j) 0 ((nE u (regsI L L.length) 0).cells j).length ((nE u (regsI L L.length) 0).cells j).length]) := by
              apply List.map_congr_left
              intro j hj
              have : j ≠ i := by have := List.mem_range.1 hj; omega
              simp only [fset, if_neg this]
            rw [e1]
            simpa [fset, hcl] using how5) kp
          have mq := (kp _ _ h4.hq fun n c k => by have := h4.lC _ _ _ _ k; rw [h4.lq] at this; cases this).1
          have hvs : v'.stor = true ∧ v'.cells = [v'] := by
            obtain ⟨_, _, ⟨rfl, _⟩ | ⟨q, c, ex, rfl, _⟩⟩ := how5 <;> exact ⟨rfl, rfl⟩
          simp only [CV.stor, CV.cells] at hvs
          simp only [engC] at mq
          simp [mq, hvs, e5]
          exact ⟨i + 1, i, _, _, v', hlt, rfl, by simp [e2], by simp [e5], by simp [e7], rfl, rfl, h5⟩
        · rintro ⟨en, ds⟩ H3 ⟨i', i7, lab3, κ3, vC3, hi', hj', e2, e5, e7, hi7, rfl, h3⟩
          dsimp only at e2 e5 e7
          refine CW.walk1 hX mixed d11 rfl ?_
          simp [e7]
          exact ⟨u.sizes.length - (i + 1), by omega, i', i', lab3, κ3, vC3, hi', hj', by simp [e2], by simp [e5], by simp; rw [wrapI (by omega) (by omega)]; omega, rfl, rfl, h3⟩
    · have hil : i = u.sizes.length := by omega
      refine CW.walk hX mixed d11 rfl ?_
      rcases ((hfz.mono hle0).mono h2.le).slInv with rfl | ⟨rfl, hnil⟩ | ⟨ro, oo, co, rfl⟩
      · simp [d11, e2, e7, m2, hlt]
        exact fun _ => ⟨i, i, lab, κ, vC, hi, by omega, by simp [e2], by simp [e5], by simp [e7], rfl, rfl, h2⟩
      · have hl0 : u.sizes.length = 0 := by simpa using congrArg List.length hnil
        have hi0 : i = 0 := by omega
        subst hi0
        simp [d11, e2, e7, m2, hlt]
        exact ⟨0, 0, lab, κ, vC, hi, by omega, by simp [e2], by simp [e5], by simp [e7], rfl, rfl, h2⟩
      · simp [d11, e2, e7, m2, hlt]
        exact fun _ => ⟨i, i, lab, κ, vC, hi, by omega, by simp [e2], by simp [e5], by simp [e7], rfl, rfl, h2⟩
  rintro ⟨en, ds⟩ H3 ⟨i, _, lab, κ, vC, hi, hj, e2, e5, _, _, rfl, h3⟩
  obtain rfl : i = u.sizes.length := by omega
  dsimp only at e2 e5
  rw [List.take_length] at h3
  have hq := h3.hq
  simp only [engC] at hq
  refine CW.walk hX mixed d11 rfl ?_
  simp [e5, hq]
  have h4 := h3.setq (e' := nE u (regsI L L.length) 3) rfl rfl rfl rfl
  generalize hH4 : Hp.set H3 a.q _ = H4
  replace h4 : EH B H4 lab κ { a with vC := vC } u (nE u (regsI L L.length) 3) := by rw [← hH4]; exact h4
  refine CW.walk hX mixed d11 rfl ?_
  simp [e5]
  have hen := enter29_c hX h4 0 (by omega) f8
  refine hen.k ?_
  rintro x H5 ⟨rfl, lab', w, hE⟩
  simp
  refine CW.walk1 hX mixed d11 rfl ?_
  simp [e5]
  exact ⟨lab', κ, { a with vC := vC, vW := w }, rfl, hE.base hle0, hv0, hv5⟩
end Go.Cl
