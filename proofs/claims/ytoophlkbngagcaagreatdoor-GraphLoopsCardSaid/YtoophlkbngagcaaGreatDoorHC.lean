/- DERIVED HERE. The reference's graph: what dominates what, the nearest dominators. -/
import Derived.Test.YtoophlkbngagcaaGreatDoorHA
set_option linter.unusedSimpArgs false
set_option linter.unusedVariables false
namespace Go.Cl.Gd
open Go.Proofs
variable {W : World} {G : Nat → CV}
set_option maxRecDepth 8000
set_option maxHeartbeats 1000000
theorem boolC_wkQ {n : Nat} {f : Nat → Bool} : (boolC n f).map wkC = boolC n f := by
  simp only [boolC, List.map_map]
  exact List.map_congr_left fun x _ => rfl
theorem RowsN.mono {H H' : Hp} {v : CV} {n : Nat} {N : Nat → List Nat} (h : RowsN H v n N) (hl : Le H H') : RowsN H' v n N := by
  obtain ⟨rn, cn, cs, h1, h2, h3, h4⟩ := h
  exact ⟨rn, cn, cs, h1, h2, hl _ _ h3, fun b hb => by obtain ⟨w, k1, k2⟩ := h4 b hb; exact ⟨w, k1, k2.mono hl⟩⟩
theorem RowsN.wk {H : Hp} {v : CV} {n : Nat} {N : Nat → List Nat} (h : RowsN H v n N) : RowsN (wkH H) v n N := by
  obtain ⟨rn, cn, cs, h1, h2, h3, h4⟩ := h
  exact ⟨rn, cn, _, h1, h2, wkH_at h3, fun b hb => by obtain ⟨w, k1, k2⟩ := h4 b hb; exact ⟨w, by rw [List.getElem?_map, k1]; simp [SlF.wkC k2], k2.wk⟩⟩
/-- The reference's graph, in blocks. -/
structure RGr (H : Hp) (vn : CV) (rs n : Nat) (N : Nat → List Nat) (s : Nat → Bool) : Prop where
  rows : RowsN H vn n N
  rs : H rs = some (.cells (boolC n s))
  s : ∀ x, s x = true ↔ Rch N 0 x
theorem RGr.mono {H H' : Hp} {vn : CV} {rs n : Nat} {N : Nat → List Nat} {s : Nat → Bool} (h : RGr H vn rs n N s) (hl : Le H H') : RGr H' vn rs n N s := ⟨h.rows.mono hl, hl _ _ h.rs, h.s⟩
theorem refOf_f (hX : CxOk (cx W G)) {u : UUnit} (hu : wfU u = true) {H : Hp} {cs : List CV} (hf : Fz H (.agg cs) (.agg (unitC u))) :
    CC Tryz.prog W 17 [.agg cs] H fun x H' => ∃ vn rs s p c, x = .ret (.agg [vn, .ref rs 0 u.blocks.length u.blocks.length]) ∧ PLeast (opsOf u) p c ∧ Le H H' ∧ RGr H' vn rs u.blocks.length (nextN u p) s := by
  refine (CC.freeze3 (args' := [.agg (unitC u)]) (R := fun x H' => ∃ vn rs s p c, x = .ret (.agg [vn, .ref rs 0 u.blocks.length u.blocks.length]) ∧ PLeast (opsOf u) p c ∧ RGr H' vn rs u.blocks.length (nextN u p) s) (by rfl) (fz1 hf) ?_ fun w hw => ?_).mono ?_
  · rintro x H' ⟨vn, rs, s, p, c, rfl, _, h⟩
    obtain ⟨rn, cn, cs, rfl, _⟩ := h.rows
    refine .agg _ fun i x hx => ?_
    rcases i with _|_|i
    · simp at hx; subst hx; constructor
    · simp at hx; subst hx; constructor
    · simp at hx
  · refine (refOf_c (W := w) (CxOk.later hX hw) u hu _).mono ?_
    rintro x H' ⟨vn, rs, s, p, c, rfl, hp, _, h1, h2, h3⟩
    rw [refN_eq hu] at h2 h3
    exact ⟨vn, rs, s, p, c, rfl, hp, h3, h1, h2⟩
  · rintro x H2 ⟨H', ⟨vn, rs, s, p, c, rfl, hp, h⟩, h2, h3, _⟩
    refine ⟨vn, rs, s, p, c, rfl, hp, h2, RGr.mono (H := wkH H') ⟨h.rows.wk, ?_, h.s⟩ h3⟩
    have := wkH_at h.rs
    rwa [boolC_wkQ] at this
noncomputable def domB (N : Nat → List Nat) (a b : Nat) : Bool := open Classical in decide (Dom N a b)
theorem domB_iff {N : Nat → List Nat} {a b : Nat} : domB N a b = true ↔ Dom N a b := by simp [domB]
/-- Rows of truths: a dominates b. -/
def DomsR (H : Hp) (v : CV) (n : Nat) (D : Nat → Nat → Bool) : Prop := ∃ r c cs, v = .ref r 0 n c ∧ H r = some (.cells cs) ∧ ∀ a, a < n → ∃ ra, cs[a]? = some (.ref ra 0 n n) ∧ H ra = some (.cells (boolC n (D a)))
theorem DomsR.mono {H H' : Hp} {v : CV} {n : Nat} {D : Nat → Nat → Bool} (h : DomsR H v n D) (hl : Le H H') : DomsR H' v n D := by
  obtain ⟨r, c, cs, h1, h2, h3⟩ := h
  exact ⟨r, c, cs, h1, hl _ _ h2, fun a ha => by obtain ⟨ra, k1, k2⟩ := h3 a ha; exact ⟨ra, k1, hl _ _ k2⟩⟩
/-- One value is left. -/
structure Sx (k : Nat) (P : CV → Hp → Prop) (s' : CA) (H' : Hp) : Prop where
  ex : ∃ v, s'.env k = v ∧ s'.ds = [] ∧ P v H'
/-- While they are built. -/
structure DmO (H0 H : Hp) (v : CV) (n i : Nat) (D : Nat → Nat → Bool) : Prop where
  ex : ∃ xs, Own H0 H v 1 xs ∧ xs.length = i ∧ ∀ a, a < i → ∃ ra, xs[a]? = some [.ref ra 0 n n] ∧ H ra = some (.cells (boolC n (D a))) ∧ ∀ n' c', v ≠ .ref ra 0 n' c'
theorem DmO.mono {H0 H H' : Hp} {v : CV} {n i : Nat} {D : Nat → Nat → Bool} (h : DmO H0 H v n i D) (hl : Le H H') : DmO H0 H' v n i D := by
  obtain ⟨xs, h1, h2, h3⟩ := h
  exact ⟨xs, h1.mono hl, h2, fun a ha => by obtain ⟨ra, k1, k2, k3⟩ := h3 a ha; exact ⟨ra, k1, hl _ _ k2, k3⟩⟩
theorem DmO.le {H0 H : Hp} {v : CV} {n i : Nat} {D : Nat → Nat → Bool} (h : DmO H0 H v n i D) : Le H0 H := by
  obtain ⟨xs, h1, _⟩ := h; exact h1.le
theorem one_get {v : CV} {xs : List (List CV)} {ex : List CV} (hz : ∀ e ∈ xs, e.length = 1) {a : Nat} (h : xs[a]? = some [v]) : (xs.flatten ++ ex)[a]? = some v := by
  have h1 := flat_take (ex := ex) hz h
  rw [Nat.mul_one] at h1
  have h2 : ((xs.flatten ++ ex).drop a)[0]? = some v := by
    have := congrArg (fun l : List CV => l[0]?) h1
    simpa using this
  simpa using h2
theorem DmO.doms {H0 H : Hp} {v : CV} {n : Nat} {D : Nat → Nat → Bool} (h0 : 0 < n) (h : DmO H0 H v n n D) : DomsR H v n D := by
  obtain ⟨xs, h1, h2, h3⟩ := h
  have hz := h1.len
  rcases h1.2.2 with ⟨_, rfl⟩ | ⟨r, c, ex, rfl, _, hr, _, _⟩
  · simp at h2; omega
  · exact ⟨r, c, _, by rw [h2], hr, fun a ha => by obtain ⟨ra, k1, k2, _⟩ := h3 a ha; exact ⟨ra, one_get hz k1, k2⟩⟩
structure dmI (H0 : Hp) (vn : CV) (rs q1 n : Nat) (D : Nat → Nat → Bool) (d m : Nat) (s' : CA) (H' : Hp) : Prop where
  ex : ∃ (i i4 : Nat) (v : CV), m = n - i ∧ i ≤ n ∧ i4 + d = i ∧ s'.env 1 = .ptr q1 0 ∧ s'.env 3 = v ∧ s'.env 4 = .int .i64 i4 ∧ s'.ds = [] ∧ DmO H0 H' v n i D
structure dmJ (K : Hp) (q1 n i ro rr : Nat) (v : CV) (D : Nat → Nat → Bool) (d m : Nat) (s' : CA) (H' : Hp) : Prop where
  ex : ∃ (j j7 : Nat), m = n - j ∧ j ≤ n ∧ j7 + d = j ∧ s'.env 1 = .ptr q1 0 ∧ s'.env 3 = v ∧ s'.env 4 = .int .i64 i ∧ s'.env 5 = .ref ro 0 n n ∧ s'.env 6 = .ref rr 0 n n ∧ s'.env 7 = .int .i64 j7 ∧ s'.ds = [] ∧ H' = K.set rr (.cells (boolC n fun x => decide (x < j) && D i x))
structure dmE (K : Hp) (q1 n i rr : Nat) (v : CV) (D : Nat → Nat → Bool) (s' : CA) (H' : Hp) : Prop where
  ex : s'.env 1 = .ptr q1 0 ∧ s'.env 3 = v ∧ s'.env 4 = .int .i64 i ∧ s'.env 6 = .ref rr 0 n n ∧ s'.ds = [] ∧ H' = K.set rr (.cells (boolC n (D i)))
theorem doms_c (hX : CxOk (cx W G)) {H : Hp} {vn : CV} {rs n : Nat} {N : Nat → List Nat} {s : Nat → Bool} (h : RGr H vn rs n N s) (h0 : 0 < n) (hn : n ≤ 80) (hN : ∀ b, b < n → ∀ k ∈ N b, k < n) (hNl : ∀ b, b < n → (N b).length ≤ 100000) :
    CC Tryz.prog W 19 [.agg [vn, .ref rs 0 n n]] H fun x H' => ∃ v, x = .ret v ∧ Le H H' ∧ DomsR H' v n (domB N) := by
  obtain ⟨⟨rn, cn, cs, rfl, hcn, hrn, hrow⟩, hrs, hs⟩ := h
  refine CC.of_cw hX Tryz.func19 rfl rfl (Nat.le_of_ble_eq_true rfl) ?_
  refine CW.walk hX mixed d19 rfl ?_
  simp
  intro q1 hq1
  have hle1 : Le H (H.set q1 (.cells [.ref rn 0 n cn, .ref rs 0 n n])) := Le.set_new hq1
  have m1 : (H.set q1 (.cells [.ref rn 0 n cn, .ref rs 0 n n])) q1 = some (.cells [.ref rn 0 n cn, .ref rs 0 n n]) := set_at
  generalize H.set q1 _ = B at hle1 m1 ⊢
  refine CW.walk hX mixed d19 rfl ?_
  simp
  refine CW.cut (Sx 3 fun v H' => DmO B H' v n n (domB N)) ?_ ?_
  · refine CW.walk hX mixed d19 rfl ?_
    simp
    refine CW.block ?_
    refine CW.loop (dmI B (.ref rn 0 n cn) rs q1 n (domB N) 0) ?_ (m := n) ⟨0, 0, .nilsl, rfl, by omega, rfl, by simp, by simp, by simp, rfl, ⟨[], Own.nil (Le.refl _), rfl, fun a ha => by omega⟩⟩
    rintro m ⟨e, ds⟩ K ⟨i, i4, v, rfl, hi, hi4, e1, e3, e4, rfl, hO⟩
    obtain rfl : i4 = i := by omega
    dsimp only at e1 e3 e4
    have m1K := hO.le _ _ m1
    by_cases hin : i4 < n
    rotate_left
    · obtain rfl : i4 = n := by omega
      refine CW.walk hX mixed d19 rfl ?_
      simp [e1, e4, m1K]
      exact ⟨v, by simp [e3], rfl, hO⟩
    refine CW.walk hX mixed d19 rfl ?_
    simp [e1, e4, m1K, hin]
    refine CW.cut (dmI B (.ref rn 0 n cn) rs q1 n (domB N) 1 (n - (i4 + 1))) ?_ ?_
    · refine CW.block ?_
      refine CW.walk hX mixed d19 rfl ?_
      simp [e1, e4, m1K]
      have hfw := from_w (w := (i4 : Int)) hX h0 (by omega) (by omega) (by omega) hN hNl (vr := .ref rs 0 n n) ⟨rfl, rfl⟩ hcn (hO.le _ _ (hle1 _ _ hrn)) (fun b hb => by obtain ⟨w, k1, k2⟩ := hrow b hb; exact ⟨w, k1, (k2.mono hle1).mono hO.le⟩)
      refine hfw.k ?_
      rintro x K1 ⟨ro, so, rfl, hleK, hro0, hro, hso⟩
      have m11 := hleK _ _ m1K
      simp
      refine CW.walk hX mixed d19 rfl ?_
      simp [e1, m11]
      refine ⟨by omega, by omega, fun rr hrr => ?_⟩
      have hz : List.map (fun i => [CV.bool false][i % 1]?.getD CV.any) (List.range n) = boolC n fun _ => false := by simp [boolC, Nat.mod_one]
      rw [hz]
      have hO1 := hO.mono hleK
      have hnr : rr ≠ q1 := fun e => by rw [e, m11] at hrr; cases hrr
      have hnro : ro ≠ rr := fun e => by rw [← e, hro] at hrr; cases hrr
      have hrs1 := (hle1.trans (hO.le.trans hleK)) _ _ hrs
      have hnrs : rs ≠ rr := fun e => by rw [← e, hrs1] at hrr; cases hrr
      refine CW.cut (dmE K1 q1 n i4 rr v (domB N)) ?_ ?_
      · refine CW.walk hX mixed d19 rfl ?_
        simp
        refine CW.block ?_
        refine CW.loop (dmJ K1 q1 n i4 ro rr v (domB N) 0) ?_ (m := n) ⟨0, 0, rfl, by omega, rfl, by simp [e1], by simp [e3], by simp [e4], by simp, by simp, by simp, rfl, by simp⟩
        clear e1 e3 e4
        rintro m ⟨e', ds⟩ K2 ⟨j, j7, rfl, hj, hj7, e1, e3, e4, e5, e6, e7, rfl, rfl⟩
        obtain rfl : j7 = j := by omega
        dsimp only at e1 e3 e4 e5 e6 e7
        have k1 : (K1.set rr (.cells (boolC n fun x => decide (x < j7) && domB N i4 x))) q1 = some (.cells [.ref rn 0 n cn, .ref rs 0 n n]) := by rw [hset_ne (Ne.symm hnr)]; exact m11
        have k2 : (K1.set rr (.cells (boolC n fun x => decide (x < j7) && domB N i4 x))) rs = some (.cells (boolC n s)) := by rw [hset_ne hnrs]; exact hrs1
        have k3 : (K1.set rr (.cells (boolC n fun x => decide (x < j7) && domB N i4 x))) ro = some (.cells (boolC n so)) := by rw [hset_ne hnro]; exact hro
        have k4 : (K1.set rr (.cells (boolC n fun x => decide (x < j7) && domB N i4 x))) rr = some (.cells (boolC n fun x => decide (x < j7) && domB N i4 x)) := set_at
        by_cases hjn : j7 < n
        rotate_left
        · obtain rfl : j7 = n := by omega
          refine CW.walk hX mixed d19 rfl ?_
          simp [e1, e7, k1]
          refine ⟨by simp [e1], by simp [e3], by simp [e4], by simp [e6], rfl, ?_⟩
          congr 2
          exact boolC_congr fun x hx => by simp [hx]
        have g1 := boolC_get (p := s) hin
        have g2 := boolC_get (p := s) hjn
        have g3 := boolC_get (p := so) hjn
        have hval : domB N i4 j7 = (s i4 && s j7 && !so j7) := by
          rw [Bool.eq_iff_iff, domB_iff, Dom]
          have h1 := hs i4
          have h2 := hs j7
          have h3 := hso j7
          simp only [Bool.and_eq_true, Bool.not_eq_true', h1, h2, and_assoc, Bool.eq_false_iff, ne_eq, h3]
          rfl
        refine CW.walk hX mixed d19 rfl ?_
        simp [e1, e7, k1, hjn]
        refine CW.cut (dmJ K1 q1 n i4 ro rr v (domB N) 1 (n - (j7 + 1))) ?_ ?_
        · refine CW.block ?_
          have hput := boolC_put (n := n) (i := j7) (fun x => decide (x < j7) && domB N i4 x) (domB N i4 j7) hjn
          have hset : K1.set rr (.cells (boolC n fun x => if x = j7 then domB N i4 j7 else decide (x < j7) && domB N i4 x)) = K1.set rr (.cells (boolC n fun x => decide (x < j7 + 1) && domB N i4 x)) := by
            congr 2
            refine boolC_congr fun x hx => ?_
            by_cases hxj : x = j7
            · subst hxj; simp
            · rw [if_neg hxj]
              rw [show decide (x < j7 + 1) = decide (x < j7) by simp; omega]
          refine CW.walk1 hX mixed d19 rfl ?_
          cases c1 : s i4 <;> cases c2 : s j7 <;> cases c3 : so j7 <;> rw [c1, c2, c3] at hval
          all_goals
            simp at hval
            rw [hval] at hput hset
            rw [c1] at g1
            rw [c2] at g2
            rw [c3] at g3
            simp [d19, e1, e4, e5, e6, e7, k1, k2, k3, k4, c1, c2, c3, hin, hjn, boolC_len]
            refine ⟨by omega, ?_⟩
            rw [hput, hset]
            exact ⟨j7 + 1, j7, rfl, by omega, rfl, by simp [e1], by simp [e3], by simp [e4], by simp [e5], by simp [e6], by simp [e7], rfl, rfl⟩
        clear e1 e3 e4 e5 e6 e7 k1 k2 k3 k4
        rintro ⟨e', ds⟩ K2 ⟨j, j7', hjj, hj, hj7, e1, e3, e4, e5, e6, e7, rfl, rfl⟩
        dsimp only at e1 e3 e4 e5 e6 e7
        obtain rfl : j = j7 + 1 := by omega
        obtain rfl : j7' = j7 := by omega
        refine CW.walk1 hX mixed d19 rfl ?_
        simp [e7]
        exact ⟨n - (j7' + 1), by omega, j7' + 1, j7' + 1, rfl, hj, rfl, by simp [e1], by simp [e3], by simp [e4], by simp [e5], by simp [e6], by simp; exact wrapI (by omega) (by omega), rfl, rfl⟩
      clear e1 e3 e4
      rintro ⟨e', ds⟩ K2 ⟨e1, e3, e4, e6, rfl, rfl⟩
      dsimp only at e1 e3 e4 e6
      have hl1 : Le K1 (K1.set rr (.cells (boolC n (domB N i4)))) := Le.set_new hrr
      have hO2 := hO1.mono hl1
      have krr : (K1.set rr (.cells (boolC n (domB N i4)))) rr = some (.cells (boolC n (domB N i4))) := set_at
      have hvr : ∀ n' c', v ≠ .ref rr 0 n' c' := fun n' c' e => by
        obtain ⟨xs, h1, _⟩ := hO1
        rcases h1.2.2 with ⟨h2, _⟩ | ⟨r', c2, ex, h2, _, h3, _⟩
        · rw [e] at h2; cases h2
        · rw [e] at h2; injection h2 with h2; rw [← h2, hrr] at h3; cases h3
      generalize K1.set rr _ = K2 at hl1 hO2 krr ⊢
      refine CW.walk1 hX mixed d19 rfl ?_
      simp [e3, e6, cfill, -vcAppend]
      intro qx hqx
      obtain ⟨xs, hw, hxl, hxs⟩ := hO2
      have hlq : Le K2 (K2.set qx (.cells [.ref rr 0 n n])) := Le.set_new hqx
      refine (hw.more hqx).append2 (ys := [[.ref rr 0 n n]]) (by simp) (by simp; omega) (src_one set_at rfl) fun v' H5 how5 kp => ?_
      simp
      refine ⟨i4 + 1, i4, v', rfl, by omega, rfl, by simp [e1], by simp, by simp [e4], rfl, xs ++ [[.ref rr 0 n n]], how5, by simp [hxl], fun a ha => ?_⟩
      by_cases hai : a < i4
      · obtain ⟨ra, k1, k2, k3⟩ := hxs a hai
        obtain ⟨k4, k5⟩ := kp ra _ (hlq _ _ k2) k3
        exact ⟨ra, by rw [List.getElem?_append_left (by omega)]; exact k1, k4, k5⟩
      · obtain rfl : a = i4 := by omega
        obtain ⟨k4, k5⟩ := kp rr _ (hlq _ _ krr) hvr
        exact ⟨rr, by rw [List.getElem?_append_right (by omega), hxl]; simp, k4, k5⟩
    clear e1 e3 e4
    rintro ⟨e', ds⟩ K2 ⟨i, i4', v', hii, hi, hi4, e1, e3, e4, rfl, hO2⟩
    dsimp only at e1 e3 e4
    obtain rfl : i = i4 + 1 := by omega
    obtain rfl : i4' = i4 := by omega
    refine CW.walk1 hX mixed d19 rfl ?_
    simp [e4]
    exact ⟨n - (i4' + 1), by omega, i4' + 1, i4' + 1, v', rfl, hi, rfl, by simp [e1], by simp [e3], by simp; exact wrapI (by omega) (by omega), rfl, hO2⟩
  rintro ⟨e', ds⟩ K2 ⟨v, e3, rfl, hO⟩
  dsimp only at e3
  refine CW.walk hX mixed d19 rfl ?_
  simp
  refine CW.walk1 hX mixed d19 rfl ?_
  simp [e3]
  exact ⟨hle1.trans hO.le, hO.doms h0⟩
end Go.Cl.Gd
