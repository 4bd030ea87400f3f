/- DERIVED HERE. The reference's Engine: trap. -/
import Derived.Test.YtfkdjajpopocpaaDoorEC
set_option linter.unusedSimpArgs false
set_option linter.unusedVariables false
namespace Go.Cl
open Go.Proofs Dd
variable {W : World} {G : Nat → CV}
set_option maxRecDepth 8000
theorem valsC_set {n i : Nat} (f : Nat → Val) (v : Val) (h : i < n) : (valsC n f).take (i * 2) ++ (valC v ++ (valsC n f).drop (i * 2 + 2)) = valsC n (fset f i v) := by
  have key : ∀ n, (∀ g : Nat → Val, valsC (n + 1) g = valsC n g ++ valC (g n)) := fun n g => by simp [valsC, List.range_succ]
  apply List.ext_getElem?
  intro j
  have hl := valsC_len n f
  have hl2 := valsC_len n (fset f i v)
  have get : ∀ (g : Nat → Val) (j : Nat), j < n * 2 → (valsC n g)[j]? = (valC (g (j / 2)))[j % 2]? := fun g j hj => by
    have := valsC_get g (show j / 2 < n by omega)
    rw [← this, List.getElem?_take, if_pos (by omega), List.getElem?_drop]
    congr 1
    omega
  rcases Nat.lt_or_ge j (n * 2) with hj | hj
  · rw [get _ j hj]
    rcases Nat.lt_or_ge j (i * 2) with h1 | h1
    · rw [List.getElem?_append_left (by rw [List.length_take]; omega), List.getElem?_take, if_pos h1, get f j hj]
      simp only [fset]
      rw [if_neg (by omega)]
    · rw [List.getElem?_append_right (by rw [List.length_take]; omega), List.length_take, Nat.min_eq_left (by omega)]
      rcases Nat.lt_or_ge j (i * 2 + 2) with h2 | h2
      · rw [List.getElem?_append_left (by simp [valC]; omega)]
        simp only [fset]
        rw [if_pos (by omega)]
        congr 1
        omega
      · rw [List.getElem?_append_right (by simp [valC]; omega), List.getElem?_drop]
        simp only [fset]
        rw [if_neg (by omega), ← get f j hj]
        congr 1
        simp [valC]
        omega
  · rw [List.getElem?_eq_none (by simp [valC, List.length_take]; omega), List.getElem?_eq_none (by omega)]
theorem EH.setr {B H : Hp} {lab κ : Nat → Nat} {a : EV} {u : UUnit} {e : Eng} (h : EH B H lab κ a u e) (f : Nat → Val) : EH B (H.set a.rr (.cells (valsC u.regs.toNat f))) lab κ a u { e with regs := f } := by
  have hne : ∀ {x n}, lab x = n → n ≠ 2 → x ≠ a.rr := fun hx hn k => hn (by rw [← hx, k, h.lr])
  have hB : B a.rr = none := h.bnone (by rw [h.lr]; decide)
  have get : ∀ {x n}, lab x = n → n ≠ 2 → (H.set a.rr (.cells (valsC u.regs.toNat f))) x = H x := fun hx hn => by simp only [Hp.set]; rw [if_neg (hne hx hn)]
  obtain ⟨cs, c1, c2, c3⟩ := h.hc
  obtain ⟨L, w1, w2⟩ := h.hw
  refine { le := h.le.put hB, nb := h.nb, hq := ?_, hr := set_at, hk := ?_, hc := ⟨cs, ?_, c2, c3⟩, hp := ?_, hw := ⟨L, ?_, w2⟩, hC := ?_, hκ := fun i hi => ?_, lq := h.lq, lr := h.lr, lk := h.lk, lc := h.lc, lP := h.lP, lW := h.lW, lC := h.lC, lκ := h.lκ }
  · rw [get h.lq (by decide)]; exact h.hq
  · rw [get h.lk (by decide)]; exact h.hk
  · rw [get h.lc (by decide)]; exact c1
  · exact h.hp.keep hB fun r o l c k => hne (h.lP r o l c k) (by decide)
  · exact w1.keep hB fun r o l c k => hne (h.lW r o l c k) (by decide)
  · exact h.hC.keep hB fun r o l c k => hne (h.lC r o l c k) (by decide)
  · rw [get (h.lκ i hi) (by omega)]; exact h.hκ i hi
/-- The unit's blocks, in the base. -/
structure UB (B : Hp) (a : EV) (u : UUnit) : Prop where
  b : ∃ r c cs, a.v5 = .ref r 0 u.blocks.length c ∧ B r = some (.cells cs) ∧ ∀ (j : Nat) k, u.blocks[j]? = some k → ∃ x0, (cs.drop (j * 6)).take 6 = x0 :: blkT k ∧ Fz B x0 (.sl 7 (k.ops.map opC))
theorem blk_cell {cs : List CV} {j t : Nat} {x0 : CV} {k : UBlk} (h : (cs.drop (j * 6)).take 6 = x0 :: blkT k) (ht : t < 6) : cs[j * 6 + t]? = (x0 :: blkT k)[t]? := by
  rw [← h, List.getElem?_take, if_pos ht, List.getElem?_drop]
theorem trap43_c (hX : CxOk (cx W G)) {B H : Hp} {lab κ : Nat → Nat} {a : EV} {u : UUnit} {e : Eng} (h : EH B H lab κ a u e) (hu : UB B a u) (hw : wfU u = true) (he : e.block < u.blocks.length) (n : Int) :
    CC Tryd.prog W 43 [.ptr a.q 0, ci n] H fun x H' => x = .ret (.tuple []) ∧ ∃ lab' w, EH B H' lab' κ { a with vW := w } u (trapE u n e) := by
  obtain ⟨f1, f2, f3, f4, f5, f6, f7, f8, f9, f10, f11⟩ := wfU_facts hw
  obtain ⟨rb, cb, csb, hv5, mb, hbb⟩ := hu.b
  obtain ⟨x0, hx0, hfx⟩ := hbb e.block _ (blk_at he)
  have hcat := blk_cell hx0 (t := 5) (by omega)
  simp [blkT] at hcat
  have mb' := h.le _ _ mb
  have hwb := (wfB_facts hw (blk_at he)).1
  have hq := h.hq
  simp only [engC] at hq
  rw [hv5] at hq
  refine CC.of_cw hX Tryd.func43 rfl rfl (Nat.le_of_ble_eq_true rfl) ?_
  refine CW.walk hX mixed d43 rfl ?_
  simp [d43, hq, mb', he, hcat]
  by_cases hc : (blkAt u e.block).catch_ < 0
  · refine CW.walk hX mixed d43 rfl ?_
    simp [hc]
    refine (end49_c hX a u e 2 n h.hq).k ?_
    rintro x H' ⟨rfl, rfl⟩
    simp
    have ht : trapE u n e = endE 2 n e := by simp only [trapE, if_pos hc]
    rw [ht]
    exact ⟨lab, a.vW, h.setq rfl rfl rfl rfl⟩
  have ht : trapE u n e = enterE (blkAt u e.block).catch_.toNat { e with regs := fset e.regs u.code.toNat ⟨n, 0⟩ } := by simp only [trapE, if_neg hc]
  rw [ht]
  have hc' : 0 ≤ (blkAt u e.block).catch_ := by omega
  obtain ⟨tb, htb⟩ := Int.eq_ofNat_of_zero_le hc'
  refine CW.walk hX mixed d43 rfl ?_
  simp [hc]
  have hrr := h.hr
  have hcn : u.code.toNat < u.regs.toNat := by omega
  have hvl := valsC_len u.regs.toNat e.regs
  refine CW.walk hX mixed d43 rfl ?_
  simp [d43, hq, hrr, f5, cfill]
  refine ⟨by omega, by omega, ?_⟩
  have hset := valsC_set e.regs ⟨n, 0⟩ hcn
  simp only [valC, List.cons_append, List.nil_append] at hset
  have h2 := h.setr (fset e.regs u.code.toNat ⟨n, 0⟩)
  rw [← hset] at h2
  refine CW.walk1 hX mixed d43 rfl ?_
  simp [htb]
  refine (enter29_c hX h2 tb (by omega) f8).k ?_
  rintro x H' ⟨rfl, lab', w, hE⟩
  simp
  have htn : (blkAt u e.block).catch_.toNat = tb := by rw [htb]; rfl
  rw [htn]
  exact ⟨lab', w, hE⟩
/-- Another block is taken into the base. -/
theorem EH.more {B H : Hp} {lab κ : Nat → Nat} {a : EV} {u : UUnit} {e : Eng} (h : EH B H lab κ a u e) {r : Nat} {o : Ob} (hr : H r = none) : EH (B.set r o) (H.set r o) (fset lab r 0) κ a u e := by
  have hne : ∀ {x y}, H x = some y → x ≠ r := fun hx k => by rw [k, hr] at hx; cases hx
  have get : ∀ {x y}, H x = some y → (H.set r o) x = some y := fun hx => Le.set_new hr _ _ hx
  have lab0 : ∀ {x n y}, H x = some y → lab x = n → fset lab r 0 x = n := fun hx hl => by simp only [fset]; rw [if_neg (hne hx)]; exact hl
  have own : ∀ {v sz xs n}, Own B H v sz xs → Lab lab v n → Own (B.set r o) (H.set r o) v sz xs ∧ Lab (fset lab r 0) v n := fun {v sz xs n} ho hl => by
    obtain ⟨h1, h2, h3⟩ := ho
    rcases h3 with h3 | ⟨q, c, ex, rfl, h4, h5, h6⟩
    · exact ⟨⟨h1.set, h2, .inl h3⟩, fun r o l c k => by rw [h3.1] at k; cases k⟩
    · exact ⟨⟨h1.set, h2, .inr ⟨q, c, ex, rfl, by simp only [Hp.set]; rw [if_neg (hne h5)]; exact h4, get h5, h6⟩⟩, fun r' o l c' k => by injection k with e1; subst e1; exact lab0 h5 (hl _ _ _ _ rfl)⟩
  obtain ⟨cs, c1, c2, c3⟩ := h.hc
  obtain ⟨L, w1, w2⟩ := h.hw
  obtain ⟨p1, p2⟩ := own h.hp h.lP
  obtain ⟨q1, q2⟩ := own w1 h.lW
  obtain ⟨s1, s2⟩ := own h.hC h.lC
  refine { le := h.le.set, nb := fun x hx => ?_, hq := get h.hq, hr := get h.hr, hk := get h.hk, hc := ⟨cs, get c1, c2, c3⟩, hp := p1, hw := ⟨L, q1, w2⟩, hC := s1, hκ := fun i hi => get (h.hκ i hi), lq := lab0 h.hq h.lq, lr := lab0 h.hr h.lr, lk := lab0 h.hk h.lk, lc := lab0 c1 h.lc, lP := p2, lW := q2, lC := s2, lκ := fun i hi => lab0 (h.hκ i hi) (h.lκ i hi) }
  simp only [fset]
  split
  · rfl
  · rename_i hn
    refine h.nb x ?_
    simp only [Hp.set] at hx
    rw [if_neg hn] at hx
    exact hx
theorem EH.base {B B' H : Hp} {lab κ : Nat → Nat} {a : EV} {u : UUnit} {e : Eng} (h : EH B' H lab κ a u e) (hl : Le B B') : EH B H lab κ a u e := by
  obtain ⟨L, w1, w2⟩ := h.hw
  refine { h with le := hl.trans h.le, nb := fun x hx => h.nb x fun k => hx (hl.none k), hp := h.hp.base hl, hw := ⟨L, w1.base hl, w2⟩, hC := h.hC.base hl }
theorem EH.mono {B H H' : Hp} {lab κ : Nat → Nat} {a : EV} {u : UUnit} {e : Eng} (h : EH B H lab κ a u e) (hl : Le H H') : EH B H' lab κ a u e := by
  obtain ⟨L, w1, w2⟩ := h.hw
  obtain ⟨cs, c1, c2, c3⟩ := h.hc
  exact { h with le := h.le.trans hl, hq := hl _ _ h.hq, hr := hl _ _ h.hr, hk := hl _ _ h.hk, hc := ⟨cs, hl _ _ c1, c2, c3⟩, hp := h.hp.mono hl, hw := ⟨L, w1.mono hl, w2⟩, hC := h.hC.mono hl, hκ := fun i hi => hl _ _ (h.hκ i hi) }
/-- A block of the base is written. -/
theorem EH.setb {B H : Hp} {lab κ : Nat → Nat} {a : EV} {u : UUnit} {e : Eng} (h : EH B H lab κ a u e) {x : Nat} (hx : B x ≠ none) (o : Ob) : EH (B.set x o) (H.set x o) lab κ a u e := by
  have h0 := h.nb x hx
  have hne : ∀ {y n}, lab y = n → n ≠ 0 → y ≠ x := fun hy hn k => hn (by rw [← hy, k, h0])
  have get : ∀ {y n z}, lab y = n → n ≠ 0 → H y = some z → (H.set x o) y = some z := fun hy hn hz => by simp only [Hp.set]; rw [if_neg (hne hy hn)]; exact hz
  have own : ∀ {v sz xs n}, Own B H v sz xs → Lab lab v n → n ≠ 0 → Own (B.set x o) (H.set x o) v sz xs := fun {v sz xs n} ho hl hn => by
    obtain ⟨h1, h2, h3⟩ := ho
    rcases h3 with h3 | ⟨q, c, ex, rfl, h4, h5, h6⟩
    · exact ⟨h1.set, h2, .inl h3⟩
    · exact ⟨h1.set, h2, .inr ⟨q, c, ex, rfl, by simp only [Hp.set]; rw [if_neg (hne (hl _ _ _ _ rfl) hn)]; exact h4, get (hl _ _ _ _ rfl) hn h5, h6⟩⟩
  obtain ⟨cs, c1, c2, c3⟩ := h.hc
  obtain ⟨L, w1, w2⟩ := h.hw
  refine { le := h.le.set, nb := fun y hy => ?_, hq := get h.lq (by decide) h.hq, hr := get h.lr (by decide) h.hr, hk := get h.lk (by decide) h.hk, hc := ⟨cs, get h.lc (by decide) c1, c2, c3⟩, hp := own h.hp h.lP (by decide), hw := ⟨L, own w1 h.lW (by decide), w2⟩, hC := own h.hC h.lC (by decide), hκ := fun i hi => get (h.lκ i hi) (by omega) (h.hκ i hi), lq := h.lq, lr := h.lr, lk := h.lk, lc := h.lc, lP := h.lP, lW := h.lW, lC := h.lC, lκ := h.lκ }
  by_cases hyx : y = x
  · rw [hyx]; exact h0
  · refine h.nb y ?_
    simp only [Hp.set] at hy
    rw [if_neg hyx] at hy
    exact hy
/-- Kept is written. -/
theorem EH.setk {B H : Hp} {lab κ : Nat → Nat} {a : EV} {u : UUnit} {e : Eng} (h : EH B H lab κ a u e) (f : Nat → Val) : EH B (H.set a.rk (.cells (valsC u.spill.toNat f))) lab κ a u { e with kept := f } := by
  have hne : ∀ {x n}, lab x = n → n ≠ 3 → x ≠ a.rk := fun hx hn k => hn (by rw [← hx, k, h.lk])
  have hB : B a.rk = none := h.bnone (by rw [h.lk]; decide)
  have get : ∀ {x n}, lab x = n → n ≠ 3 → (H.set a.rk (.cells (valsC u.spill.toNat f))) x = H x := fun hx hn => by simp only [Hp.set]; rw [if_neg (hne hx hn)]
  obtain ⟨cs, c1, c2, c3⟩ := h.hc
  obtain ⟨L, w1, w2⟩ := h.hw
  refine { le := h.le.put hB, nb := h.nb, hq := ?_, hr := ?_, hk := set_at, hc := ⟨cs, ?_, c2, c3⟩, hp := ?_, hw := ⟨L, ?_, w2⟩, hC := ?_, hκ := fun i hi => ?_, lq := h.lq, lr := h.lr, lk := h.lk, lc := h.lc, lP := h.lP, lW := h.lW, lC := h.lC, lκ := h.lκ }
  · rw [get h.lq (by decide)]; exact h.hq
  · rw [get h.lr (by decide)]; exact h.hr
  · rw [get h.lc (by decide)]; exact c1
  · exact h.hp.keep hB fun r o l c k => hne (h.lP r o l c k) (by decide)
  · exact w1.keep hB fun r o l c k => hne (h.lW r o l c k) (by decide)
  · exact h.hC.keep hB fun r o l c k => hne (h.lC r o l c k) (by decide)
  · rw [get (h.lκ i hi) (by omega)]; exact h.hκ i hi
theorem UB.mono {B B' : Hp} {a : EV} {u : UUnit} (h : UB B a u) (hl : Le B B') : UB B' a u := by
  obtain ⟨r, c, cs, h1, h2, h3⟩ := h.b
  exact ⟨r, c, cs, h1, hl _ _ h2, fun j k hk => by obtain ⟨x0, h4, h5⟩ := h3 j k hk; exact ⟨x0, h4, h5.mono hl⟩⟩
/-- The prints have grown, and the Engine's own block tells it. -/
theorem EH.setp {B H H4 : Hp} {lab κ : Nat → Nat} {a : EV} {u : UUnit} {e e' : Eng} (h : EH B H lab κ a u e) {v' : CV} (how : Own B H4 v' 1 (ints e'.out.prints)) (h1 : e'.regs = e.regs) (h2 : e'.kept = e.kept) (h3 : e'.cells = e.cells)
    (kp : ∀ r o, H r = some o → (∀ n c, a.vP ≠ .ref r 0 n c) → H4 r = some o ∧ ∀ n c, v' ≠ .ref r 0 n c) : EH B (H4.set a.q (.cells (engC { a with vP := v' } u e'))) (labS lab v' 5) κ { a with vP := v' } u e' := by
  have hP : ∀ {x n}, lab x = n → n ≠ 5 → ∀ m c, a.vP ≠ .ref x 0 m c := fun hx hn m c k => hn (by rw [← hx, h.lP _ _ _ _ k])
  have keep : ∀ {x n o}, lab x = n → n ≠ 5 → H x = some o → H4 x = some o ∧ labS lab v' 5 x = n := fun hx hn ho => by
    obtain ⟨k1, k2⟩ := kp _ _ ho (hP hx hn)
    refine ⟨k1, ?_⟩
    rw [labS_ne (fun r o l c k e => by
      have h0 := (how.at0 k).1
      subst h0
      exact k2 l c (by rw [k, e])), hx]
  have own : ∀ {v sz xs n}, Own B H v sz xs → Lab lab v n → n ≠ 5 → n ≠ 0 → Own B H4 v sz xs ∧ Lab (labS lab v' 5) v n := fun {v sz xs n} ho hl hn hn0 => by
    obtain ⟨h1, h2, h3⟩ := ho
    rcases h3 with h3 | ⟨r, c, ex, rfl, h4, h5, h6⟩
    · exact ⟨⟨how.le, h2, .inl h3⟩, fun r o l c k => by rw [h3.1] at k; cases k⟩
    · obtain ⟨k1, k2⟩ := keep (hl _ _ _ _ rfl) hn h5
      exact ⟨⟨how.le, h2, .inr ⟨r, c, ex, rfl, h4, k1, h6⟩⟩, fun r' o l c' k => by injection k with e1; subst e1; exact k2⟩
  have hB : B a.q = none := h.bnone (by rw [h.lq]; decide)
  obtain ⟨q1, q2⟩ := keep h.lq (by decide) h.hq
  obtain ⟨r1, r2⟩ := keep h.lr (by decide) h.hr
  obtain ⟨k1, k2⟩ := keep h.lk (by decide) h.hk
  obtain ⟨cs, c1, c2, c3⟩ := h.hc
  obtain ⟨d1, d2⟩ := keep h.lc (by decide) c1
  obtain ⟨L, w1, w2⟩ := h.hw
  obtain ⟨p1, p2⟩ := own w1 h.lW (by decide) (by decide)
  obtain ⟨e1, e2⟩ := own h.hC h.lC (by decide) (by decide)
  have hl5 : Lab (labS lab v' 5) v' 5 := labS_at
  have hne : ∀ {x n}, labS lab v' 5 x = n → n ≠ 1 → x ≠ a.q := fun hx hn k => hn (by rw [← hx, k, q2])
  have get : ∀ {x n o}, labS lab v' 5 x = n → n ≠ 1 → H4 x = some o → (H4.set a.q (.cells (engC { a with vP := v' } u e'))) x = some o := fun hx hn ho => by simp only [Hp.set]; rw [if_neg (hne hx hn)]; exact ho
  refine { le := how.le.put hB, nb := fun x hx => ?_, hq := set_at, hr := by rw [h1]; exact get r2 (by decide) r1, hk := by rw [h2]; exact get k2 (by decide) k1, hc := ⟨cs, get d2 (by decide) d1, c2, c3⟩, hp := ?_, hw := ⟨L, ?_, w2⟩, hC := ?_, hκ := fun i hi => ?_, lq := q2, lr := r2, lk := k2, lc := d2, lP := hl5, lW := p2, lC := e2, lκ := fun i hi => (keep (h.lκ i hi) (by omega) (h.hκ i hi)).2 }
  · rw [labS_ne fun r o l c k ek => by
      have := (how.at0 k).2.2
      rw [← ek] at this
      exact hx this]
    exact h.nb x hx
  · exact how.keep hB fun r o l c k => hne (hl5 r o l c k) (by decide)
  · exact p1.keep hB fun r o l c k => hne (p2 r o l c k) (by decide)
  · rw [h3]; exact e1.keep hB fun r o l c k => hne (e2 r o l c k) (by decide)
  · obtain ⟨g1, g2⟩ := keep (h.lκ i hi) (by omega) (h.hκ i hi)
    rw [h3]; exact get g2 (by omega) g1
/-- An array is written. -/
theorem EH.sets {B H : Hp} {lab κ : Nat → Nat} {a : EV} {u : UUnit} {e : Eng} (h : EH B H lab κ a u e) {i : Nat} (hi : i < u.sizes.length) (l : List Int) (hl : l.length = (e.cells i).length) : EH B (H.set (κ i) (.cells (l.map fun n => ci n))) lab κ a u { e with cells := fset e.cells i l } := by
  have hne : ∀ {x n}, lab x = n → n ≠ 8 + i → x ≠ κ i := fun hx hn k => hn (by rw [← hx, k, h.lκ i hi])
  have hB : B (κ i) = none := h.bnone (by rw [h.lκ i hi]; omega)
  have get : ∀ {x n}, lab x = n → n ≠ 8 + i → (H.set (κ i) (.cells (l.map fun n => ci n))) x = H x := fun hx hn => by simp only [Hp.set]; rw [if_neg (hne hx hn)]
  obtain ⟨cs, c1, c2, c3⟩ := h.hc
  obtain ⟨L, w1, w2⟩ := h.hw
  have hlen : ∀ j, (fset e.cells i l j).length = (e.cells j).length := fun j => by
    simp only [fset]
    split
    · rename_i k; subst k; exact hl
    · rfl
  refine { le := h.le.put hB, nb := h.nb, hq := ?_, hr := ?_, hk := ?_, hc := ⟨cs, ?_, c2, c3⟩, hp := ?_, hw := ⟨L, ?_, w2⟩, hC := ?_, hκ := fun j hj => ?_, lq := h.lq, lr := h.lr, lk := h.lk, lc := h.lc, lP := h.lP, lW := h.lW, lC := h.lC, lκ := h.lκ }
  · rw [get h.lq (by omega)]; exact h.hq
  · rw [get h.lr (by omega)]; exact h.hr
  · rw [get h.lk (by omega)]; exact h.hk
  · rw [get h.lc (by omega)]; exact c1
  · exact h.hp.keep hB fun r o l c k => hne (h.lP r o l c k) (by omega)
  · exact w1.keep hB fun r o l c k => hne (h.lW r o l c k) (by omega)
  · simp only [hlen]
    exact h.hC.keep hB fun r o l c k => hne (h.lC r o l c k) (by omega)
  · by_cases hj' : j = i
    · subst hj'; rw [set_at]; simp [fset]
    · rw [get (h.lκ j hj) (by omega), h.hκ j hj]; simp [fset, hj']
end Go.Cl
