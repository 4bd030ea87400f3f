/- DERIVED HERE. The law's small functions. DERIVED HERE. What the law calls, on units that lie in blocks. DERIVED HERE. The law's example. -/
import Derived.Test.YtjofhmdjaijgcaaGreatDoorTC
set_option linter.unusedSimpArgs false
set_option linter.unusedVariables false
namespace Go.Cl
open Go.Proofs
variable {W : World} {G : Nat → CV}
set_option maxRecDepth 8000
theorem small_c (hX : CxOk (cx W G)) (u : UUnit) (H : Hp) : CC Tryz.prog W 6 [.agg (unitC u)] H fun x H' => ∃ cs, x = .ret (.tuple [.agg cs, .bool (decide (u.regs ≤ 200))]) ∧ Le H H' ∧ UV H' cs (cutU u 60 600) := by
  refine CC.of_ev hX mixed d6 Tryz.func6 rfl rfl (Nat.le_of_ble_eq_true rfl) d6_ok ?_
  simp (config := {contextual := true}) [Tryz.f6, d6, unitC]
  intro q1 hq1 q2 h21 h12 hq2
  generalize hH1 : (H.set q1 _).set q2 _ = H1
  have hle : Le H H1 := by rw [← hH1]; exact (Le.set_new hq1).trans (Le.set_new (by simp [h21, hq2]))
  have m2 : H1 q2 = some (.cells [.nilsl, ci 0, ci 0, ci 0, ci 0, .nilsl]) := by rw [← hH1]; simp
  have m1 : H1 q1 = some (.cells (unitC u)) := by rw [← hH1]; simp [h12, unitC]
  clear hH1
  have hH1 : (hole H1 q2).set q2 (.cells [.nilsl, ci 0, ci 0, ci 0, ci 0, .nilsl]) = H1 := hole_set m2
  have hc := (cut_c hX u 60 600 (by omega) (by omega) (hole H1 q2)).frame (r := q2) (ob := .cells [.nilsl, ci 0, ci 0, ci 0, ci 0, .nilsl]) hole_at
  rw [hH1] at hc
  simp only [unitC] at hc
  refine hc.k ?_
  rintro x G2 ⟨H2, h2, rfl, cs, rfl, hle2, huv⟩
  have hl6 := huv.l
  have m12 : H2 q1 = some (.cells (unitC u)) := hle2 _ _ (by rw [hole_ne h12]; exact m1)
  have hle3 : Le H1 (H2.set q2 (.cells [.nilsl, ci 0, ci 0, ci 0, ci 0, .nilsl])) := by rw [← hH1]; exact Le.set hle2
  simp only [unitC] at m12
  simp [hl6, h12, m12]
  refine ⟨stabI_le rfl hle3, by simp [stabI, Stab, IsV, Tryz.f6, d6, h12, h21, m12, unitC], ?_⟩
  have hn : Le H2 (H2.set q2 (.cells cs)) := Le.set_new h2
  exact ⟨((le_hole hle hq2).trans hle2).trans hn, huv.mono hn⟩
theorem endTo_c (hX : CxOk (cx W G)) (k : Int) (H : Hp) : CC Tryz.prog W 35 [ci k] H fun x H' => x = .ret (.bool (decide (k = 1) || decide (k = 2))) ∧ H' = H := by
  refine CC.at0 ?_ H
  refine CC.of_ev hX mixed d35 Tryz.func35 rfl rfl (Nat.le_of_ble_eq_true rfl) d35_ok ?_
  simp [Tryz.f35, d35]
  exact ⟨fun h => by simp [h], fun h => by simp [h, decide_beq]⟩
theorem endElse_c (hX : CxOk (cx W G)) (k : Int) (H : Hp) : CC Tryz.prog W 36 [ci k] H fun x H' => x = .ret (.bool (decide (k = 2))) ∧ H' = H := by
  refine CC.at0 ?_ H
  refine CC.of_ev hX mixed d36 Tryz.func36 rfl rfl (Nat.le_of_ble_eq_true rfl) d36_ok ?_
  simp [Tryz.f36, d36, decide_beq]
theorem ints_get {l : List Int} {k : Nat} {x : Int} (h : l[k]? = some x) : (ints l)[k]? = some [ci x] := by simp [ints, h]
theorem ints_at {l : List Int} {k : Nat} {x : Int} (h : l[k]? = some x) (hk : k < (ints l).length) : (ints l)[k] = [ci x] := by
  have := ints_get h
  rw [List.getElem?_eq_getElem hk] at this
  injection this
theorem has14_c (hX : CxOk (cx W G)) (l : List Int) (n : Int) (hl : l.length ≤ 1000000) (H : Hp) : CC Tryz.prog W 12 [.sl 1 (ints l), ci n] H fun x H' => x = .ret (.bool (decide (n ∈ l))) ∧ H' = H := by
  refine CC.of_ev hX mixed d12 Tryz.func12 rfl rfl (Nat.le_of_ble_eq_true rfl) d12_ok ?_
  simp [Tryz.f12, d12]
  refine CW.loop (fun j s' H' => ∃ k, k ≤ l.length ∧ j = l.length - k ∧ s'.env 0 = .sl 1 (ints l) ∧ s'.env 1 = ci n ∧ s'.env 5 = .int .i64 k ∧ s'.ds = [] ∧ H' = H ∧ ∀ (i : Nat) x, i < k → l[i]? = some x → x ≠ n) ?_ (m := l.length) ⟨0, by simp⟩
  rintro j ⟨e, ds⟩ H' ⟨k, hk, rfl, e0, e1, e5, rfl, rfl, hno⟩
  dsimp only at e0 e1 e5
  refine vw_sound hX mixed (D := d12) _ _ _ _ (by kernel_rfl) ?_
  by_cases hkl : k < l.length
  · obtain ⟨x, hxe⟩ : ∃ x, l[k] = x := ⟨_, rfl⟩
    have hx : l[k]? = some x := by rw [List.getElem?_eq_getElem hkl, hxe]
    simp [e0, e1, e5, hkl, ints_len, ints_at hx]
    refine ⟨fun h => List.mem_of_getElem? (by rw [hx, h]), fun h => ⟨l.length - (k + 1), by omega, k + 1, by omega, rfl, by rw [wrapI (by omega) (by omega)]; omega, fun i y hi hy => ?_⟩⟩
    rcases Nat.lt_or_ge i k with h2 | h2
    · exact hno i y h2 hy
    · have : i = k := by omega
      subst this
      rw [hx] at hy
      injection hy with hy
      rw [← hy]
      exact h
  · have : k = l.length := by omega
    subst this
    simp [e0, e1, e5, ints_len]
    intro hm
    obtain ⟨i, hi, hin⟩ := List.mem_iff_getElem.1 hm
    exact hno i n hi (by rw [List.getElem?_eq_getElem hi, hin]) rfl
theorem same_c (hX : CxOk (cx W G)) (l l2 : List Int) (hl : l.length ≤ 1000000) (H : Hp) : CC Tryz.prog W 19 [.sl 1 (ints l), .sl 1 (ints l2)] H fun x H' => x = .ret (.bool (decide (l = l2))) ∧ H' = H := by
  refine CC.of_ev hX mixed d19 Tryz.func19 rfl rfl (Nat.le_of_ble_eq_true rfl) d19_ok ?_
  simp [Tryz.f19, d19, ints_len]
  refine ⟨fun h => fun e => h (by rw [e]), fun hlen => ?_⟩
  have hlen : l.length = l2.length := by omega
  refine CW.loop (fun j s' H' => ∃ k, k ≤ l.length ∧ j = l.length - k ∧ s'.env 0 = .sl 1 (ints l) ∧ s'.env 1 = .sl 1 (ints l2) ∧ s'.env 5 = .int .i64 k ∧ s'.ds = [] ∧ H' = H ∧ ∀ (i : Nat), i < k → l[i]? = l2[i]?) ?_ (m := l.length) ⟨0, by simp⟩
  rintro j ⟨e, ds⟩ H' ⟨k, hk, rfl, e0, e1, e5, rfl, rfl, hno⟩
  dsimp only at e0 e1 e5
  refine vw_sound hX mixed (D := d19) _ _ _ _ (by kernel_rfl) ?_
  by_cases hkl : k < l.length
  · obtain ⟨x, hxe⟩ : ∃ x, l[k] = x := ⟨_, rfl⟩
    have hx : l[k]? = some x := by rw [List.getElem?_eq_getElem hkl, hxe]
    obtain ⟨y, hye⟩ : ∃ y, l2[k] = y := ⟨_, rfl⟩
    have hy : l2[k]? = some y := by rw [List.getElem?_eq_getElem (by omega), hye]
    simp [e0, e1, e5, hkl, ints_len, ints_at hx, ints_get hy, d19]
    refine ⟨fun h => fun e => h (by rw [e, hy] at hx; injection hx with hx; exact hx.symm), fun h => ⟨l.length - (k + 1), by omega, k + 1, by omega, rfl, by rw [wrapI (by omega) (by omega)]; simp, fun i hi => ?_⟩⟩
    rcases Nat.lt_or_ge i k with h2 | h2
    · exact hno i h2
    · have : i = k := by omega
      subst this
      rw [hx, hy, h]
  · have : k = l.length := by omega
    subst this
    simp [e0, e1, e5, ints_len]
    apply List.ext_getElem?
    intro i
    rcases Nat.lt_or_ge i l.length with h | h
    · exact hno i h
    · rw [List.getElem?_eq_none h, List.getElem?_eq_none (by omega)]
end Go.Cl
set_option linter.unusedSimpArgs false
set_option linter.unusedVariables false
namespace Go.Cl
open Go.Proofs
variable {W : World} {G : Nat → CV}
set_option maxRecDepth 8000
theorem free2 {v : CV} {n : Int} (h : Free v) : FreeEnd (.ret (.tuple [v, ci n])) := by
  simp only [FreeEnd]
  refine .tuple _ fun i x hx => ?_
  rcases i with _|_|i
  · simp at hx; subst hx; exact h
  · simp at hx; subst hx; constructor
  · simp at hx
theorem LLeast.fix {u : UUnit} {p : Nat → Bool} {I : Nat → Nat → Bool} (h : LLeast u p I) {b : Nat} (hb : b < u.blocks.length) : FP u p I b = I b := by
  refine (h.1 b hb).antisymm ?_
  have h2 := h.2 (fun i => if i < u.blocks.length then FP u p I i else fun _ => false) (fun i hi => by
    simp only [hi, if_true]
    refine FP_mono (fun j x hx => ?_) i
    split at hx
    · rename_i hj; exact h.1 j hj x hx
    · cases hx) b
  simpa [hb] using h2
theorem at13_f (hX : CxOk (cx W G)) (hG : G 0 = .iptr formsC) {u : UUnit} (hu : wfU u = true) {H : Hp} {cs : List CV} (hf : Fz H (.agg cs) (.agg (unitC u))) (b i : Nat) (k : UBlk) (hk : u.blocks[b]? = some k) (hi : i ≤ k.ops.length) : CC Tryz.prog W 21 [.agg cs, .int .i64 b, .int .i64 i] H fun x H' => ∃ p c I v, PLeast (opsOf u) p c ∧ LLeast u p I ∧ Bnd u I ∧ x = .ret (.tuple [v, ci 0]) ∧ Le H H' ∧ SlF H' v (upto (beforeP u p I k (k.ops.drop i)) (64 * mOf u)) := by
  refine (CC.freeze3 (args' := [.agg (unitC u), .int .i64 b, .int .i64 i]) (R := fun x H' => ∃ p c I v, PLeast (opsOf u) p c ∧ LLeast u p I ∧ Bnd u I ∧ x = .ret (.tuple [v, ci 0]) ∧ SlF H' v (upto (beforeP u p I k (k.ops.drop i)) (64 * mOf u))) (by rfl) (fz3 hf (.same _) (.same _)) (by rintro x H' ⟨p, c, I, v, _, _, _, rfl, h⟩; exact free2 h.free) fun w hw => ?_).mono ?_
  · exact (at13_c (W := w) (CxOk.later hX hw) hG u hu b i k hk hi _).mono fun x H' ⟨p, c, I, v, h1, h2, h3, h4, h5, h6⟩ => ⟨p, c, I, v, h1, h2, h3, h4, h6⟩
  · rintro x H2 ⟨H', ⟨p, c, I, v, h1, h2, h3, rfl, h6⟩, h7, h8, h9⟩
    exact ⟨p, c, I, v, h1, h2, h3, rfl, h7, h6.wk.mono h8⟩
theorem in18_f (hX : CxOk (cx W G)) (hG : G 0 = .iptr formsC) {u : UUnit} (hu : wfU u = true) {H : Hp} {cs : List CV} (hf : Fz H (.agg cs) (.agg (unitC u))) (b : Nat) (k : UBlk) (hk : u.blocks[b]? = some k) : CC Tryz.prog W 25 [.agg cs, .int .i64 b] H fun x H' => ∃ p c I v, PLeast (opsOf u) p c ∧ LLeast u p I ∧ Bnd u I ∧ x = .ret (.tuple [v, ci 0]) ∧ Le H H' ∧ SlF H' v (upto (beforeP u p I k k.ops) (64 * mOf u)) := by
  refine (CC.freeze3 (args' := [.agg (unitC u), .int .i64 b]) (R := fun x H' => ∃ p c I v, PLeast (opsOf u) p c ∧ LLeast u p I ∧ Bnd u I ∧ x = .ret (.tuple [v, ci 0]) ∧ SlF H' v (upto (beforeP u p I k k.ops) (64 * mOf u))) (by rfl) (fz2 hf (.same _)) (by rintro x H' ⟨p, c, I, v, _, _, _, rfl, h⟩; exact free2 h.free) fun w hw => ?_).mono ?_
  · exact (in18_c (W := w) (CxOk.later hX hw) hG u hu b k hk _).mono fun x H' ⟨p, c, I, v, h1, h2, h3, h4, h5, h6⟩ => ⟨p, c, I, v, h1, h2, h3, h4, h6⟩
  · rintro x H2 ⟨H', ⟨p, c, I, v, h1, h2, h3, rfl, h6⟩, h7, h8, h9⟩
    exact ⟨p, c, I, v, h1, h2, h3, rfl, h7, h6.wk.mono h8⟩
theorem all17_f (hX : CxOk (cx W G)) (hG : G 0 = .iptr formsC) {u : UUnit} (hu : wfU u = true) {H : Hp} {cs : List CV} (hf : Fz H (.agg cs) (.agg (unitC u))) : CC Tryz.prog W 10 [.agg cs] H fun x H' => ∃ p c I v, PLeast (opsOf u) p c ∧ LLeast u p I ∧ Bnd u I ∧ x = .ret (.tuple [v, ci 0]) ∧ Le H H' ∧ AllF H' v ((List.range u.blocks.length).map fun b => upto (I b) (64 * mOf u)) := by
  refine (CC.freeze3 (args' := [.agg (unitC u)]) (R := fun x H' => ∃ p c I v, PLeast (opsOf u) p c ∧ LLeast u p I ∧ Bnd u I ∧ x = .ret (.tuple [v, ci 0]) ∧ AllF H' v ((List.range u.blocks.length).map fun b => upto (I b) (64 * mOf u))) (by rfl) (fz1 hf) (by rintro x H' ⟨p, c, I, v, _, _, _, rfl, h⟩; exact free2 h.free) fun w hw => ?_).mono ?_
  · exact (all17_c (W := w) (CxOk.later hX hw) hG u hu _).mono fun x H' ⟨p, c, I, v, h1, h2, h3, h4, h5, h6⟩ => ⟨p, c, I, v, h1, h2, h3, h4, h6⟩
  · rintro x H2 ⟨H', ⟨p, c, I, v, h1, h2, h3, rfl, h6⟩, h7, h8, h9⟩
    exact ⟨p, c, I, v, h1, h2, h3, rfl, h7, h6.wk.mono h8⟩
theorem same_f (hX : CxOk (cx W G)) {H : Hp} {v v2 : CV} {l l2 : List Int} (hv : SlF H v l) (hv2 : SlF H v2 l2) (hl : l.length ≤ 1000000) : CC Tryz.prog W 19 [v, v2] H fun x H' => x = .ret (.bool (decide (l = l2))) ∧ H' = H := by
  refine (CC.freeze (args' := [.sl 1 (ints l), .sl 1 (ints l2)]) (R := fun v => v = .bool (decide (l = l2))) (by rfl) (fz2 hv.fz hv2.fz) (by rintro v rfl; simp [plainV]) fun w hw => ?_).mono ?_
  · exact (same_c (W := w) (CxOk.later hX hw) l l2 hl _).mono fun x H' ⟨h1, _⟩ => ⟨_, h1, rfl⟩
  · rintro x H' ⟨v, rfl, rfl, rfl⟩
    exact ⟨rfl, rfl⟩
theorem has14_f (hX : CxOk (cx W G)) {H : Hp} {v : CV} {l : List Int} (n : Int) (hv : SlF H v l) (hl : l.length ≤ 1000000) : CC Tryz.prog W 12 [v, ci n] H fun x H' => x = .ret (.bool (decide (n ∈ l))) ∧ H' = H := by
  refine (CC.freeze (args' := [.sl 1 (ints l), ci n]) (R := fun v => v = .bool (decide (n ∈ l))) (by rfl) (fz2 hv.fz (.same _)) (by rintro v rfl; simp [plainV]) fun w hw => ?_).mono ?_
  · exact (has14_c (W := w) (CxOk.later hX hw) l n hl _).mono fun x H' ⟨h1, _⟩ => ⟨_, h1, rfl⟩
  · rintro x H' ⟨v, rfl, rfl, rfl⟩
    exact ⟨rfl, rfl⟩
end Go.Cl
set_option linter.unusedSimpArgs false
set_option linter.unusedVariables false
namespace Go.Cl
open Go.Proofs
variable {W : World} {G : Nat → CV}
set_option maxRecDepth 8000
def exO1 : UOp := ⟨1, 1, 0, 0, 0, 2, -1⟩
def exO2 : UOp := ⟨13, 2, 0, 1, 0, 0, -1⟩
def exB : UBlk := ⟨[exO1, exO2], ⟨3, 2, 0, 0⟩, -1⟩
def exU : UUnit := ⟨[], 1, 3, 0, 0, [exB]⟩
theorem ex_wf : wfU exU = true := by decide
theorem ex0 (p : Nat → Bool) (I : Nat → Nat → Bool) : beforeP exU p I exB [] = fun r => r == 2 := by
  funext r
  simp [beforeP, endP, exB, goes, branches, catchP]
theorem ex1 (p : Nat → Bool) (I : Nat → Nat → Bool) : beforeP exU p I exB [exO2] = fun r => r == 0 || r == 1 := by
  have h : beforeP exU p I exB [exO2] = stepP exU p I exB exO2 (beforeP exU p I exB []) := rfl
  rw [h, ex0]
  funext r
  have e1 : writeOf exO2 = 2 := by decide
  have e2 : allReads exO2 = [0, 1] := by decide
  simp [stepP, exB, catchP, e1, e2]
  simp [exO2]
theorem ex2 (p : Nat → Bool) (I : Nat → Nat → Bool) : beforeP exU p I exB [exO1, exO2] = fun r => r == 0 := by
  have h : beforeP exU p I exB [exO1, exO2] = stepP exU p I exB exO1 (beforeP exU p I exB [exO2]) := rfl
  rw [h, ex1]
  funext r
  have e1 : writeOf exO1 = 1 := by decide
  have e2 : allReads exO1 = [] := by decide
  simp [stepP, exB, catchP, e1, e2]
  simp [exO1]
  cases h0 : r == 0 <;> cases h1 : r == 1 <;> simp_all
theorem exM : 64 * mOf exU = 64 := by decide
theorem up0 : upto (fun r => r == 2) 64 = [2] := by decide
theorem up1 : upto (fun r => r == 0 || r == 1) 64 = [0, 1] := by decide
theorem up2 : upto (fun r => r == 0) 64 = [0] := by decide
theorem own0 {H : Hp} {r n sz : Nat} {xs : List (List CV)} (h : H r = some (.cells xs.flatten)) (hl : xs.length = n) (hz : ∀ e ∈ xs, e.length = sz) : Own (fun _ => none) H (.ref r 0 n n) sz xs := by
  refine ⟨fun i o hi => by simp at hi, hz, .inr ⟨r, n, [], by rw [hl], rfl, by simpa using h, by simp [hl], by omega⟩⟩
theorem fz_agg6 {H : Hp} {a b c d e f a' b' c' d' e' f' : CV} (ha : Fz H a a') (hb : Fz H b b') (hc : Fz H c c') (hd : Fz H d d') (he : Fz H e e') (hf : Fz H f f') : Fz H (.agg [a, b, c, d, e, f]) (.agg [a', b', c', d', e', f']) := by
  refine .agg _ _ rfl (fun j => [a, b, c, d, e, f].getD j .any) (fun j hj => ?_) (fun j x hx => ?_)
  · rcases j with _|_|_|_|_|_|j <;> first | rfl | (simp at hj; omega)
  · rcases j with _|_|_|_|_|_|j <;> simp at hx ⊢ <;> subst hx <;> assumption
theorem example_c (hX : CxOk (cx W G)) (H : Hp) : CC Tryz.prog W 26 [] H fun x H' => ∃ cs, x = .ret (.agg cs) ∧ Le H H' ∧ UV H' cs exU := by
  refine CC.of_ev hX mixed d26 Tryz.func26 rfl rfl (Nat.le_of_ble_eq_true rfl) d26_ok ?_
  simp (config := {contextual := true}) [Tryz.f26, d26]
  intro r0 h0
  refine ⟨_, rfl, _, rfl, _, rfl, fun r1 h10 h01 h1 => ⟨_, rfl, _, rfl, _, rfl, ?_⟩⟩
  intro r2 k1 k2 k3 k4 h2
  refine ⟨[.nilsl, ci 1, ci 3, ci 0, ci 0, .ref r2 0 1 1], rfl, rfl, Nat.le_refl _, ?_, ?_⟩
  · exact ((((Le.refl H).put h0).put h1).put h2).put h0
  · generalize hQ : (((H.set r0 _).set r1 _).set r2 _).set r0 _ = Q
    have m1 : Q r1 = some (.cells [opC exO1, opC exO2].flatten) := by
      rw [← hQ]
      simp only [Hp.set, h10, h01, k1, k2, k3, k4, if_true, if_false]
      rfl
    have m2 : Q r2 = some (.cells [[.ref r1 0 2 2, ci 3, ci 2, ci 0, ci 0, ci (-1)]].flatten) := by
      rw [← hQ]
      simp only [Hp.set, h10, h01, k1, k2, k3, k4, if_true, if_false]
      rfl
    have o1w := (own0 (n := 2) (sz := 7) m1 rfl (by simp [opC])).bare
    have o1 := o1w.fz
    have o2 : Fz Q (.ref r2 0 1 1) (.sl 6 [blkC exB]) := (own0 (n := 1) (sz := 6) m2 rfl (by simp)).fzD rfl (by simp [blkC]) fun i j e f x y h1 h2 h3 h4 => by
      rcases i with _|i
      · simp at h1 h2
        subst h1; subst h2
        rcases j with _|j
        · simp [blkC] at h3 h4
          subst h3; subst h4
          exact o1
        · have : x = y := by
            simp only [blkC, List.getElem?_cons_succ] at h3 h4
            exact Option.some.inj (h3.symm.trans h4)
          rw [this]; exact .same _
      · simp at h1
    refine ⟨rfl, fz_agg6 (.nil 1) (.same _) (.same _) (.same _) (.same _) o2, ⟨_, _, rfl, .inr ⟨r2, 1, _, rfl, m2, fun j k hk => ?_⟩⟩, Own.nil fun _ _ h => by cases h⟩
    rcases j with _|j
    · simp [exU] at hk
      subst hk
      exact ⟨_, rfl, o1w⟩
    · simp [exU] at hk
theorem slF_of {H : Hp} {r : Nat} {l : List Int} (h : H r = some (.cells (l.map fun n => ci n))) : SlF H (.ref r 0 l.length l.length) l :=
  .inr ⟨r, 0, _, rfl, h, fun k x hk => by rw [List.getElem?_map, hk]; rfl⟩
theorem alive_c (hX : CxOk (cx W G)) (hG : G 0 = .iptr formsC) (H : Hp) : CC Tryz.prog W 8 [] H fun x H' => x = .ret (.bool true) ∧ H' = H := by
  refine CC.shrink ?_
  refine CC.of_ev hX mixed d8 Tryz.func8 rfl rfl (Nat.le_of_ble_eq_true rfl) d8_ok ?_
  simp [Tryz.f8, d8]
  refine (example_c hX H).k ?_
  rintro x H1 ⟨cs1, rfl, hle1, hu1⟩
  simp
  refine (in18_f hX hG ex_wf hu1.f 0 exB rfl).k ?_
  rintro x H2 ⟨p, c, I, v1, hp, hl, hb, rfl, hle2, hv1⟩
  simp
  refine (example_c hX H2).k ?_
  rintro x H3 ⟨cs2, rfl, hle3, hu2⟩
  simp
  refine (at13_f hX hG ex_wf hu2.f 0 1 exB rfl (by decide)).k ?_
  rintro x H4 ⟨p2, c2, I2, v2, hp2, hl2, hb2, rfl, hle4, hv2⟩
  simp
  refine (example_c hX H4).k ?_
  rintro x H5 ⟨cs3, rfl, hle5, hu3⟩
  simp
  refine (at13_f hX hG ex_wf hu3.f 0 2 exB rfl (by decide)).k ?_
  rintro x H6 ⟨p3, c3, I3, v3, hp3, hl3, hb3, rfl, hle6, hv3⟩
  rw [show beforeP exU p I exB exB.ops = beforeP exU p I exB [exO1, exO2] from rfl, ex2, exM, up2] at hv1
  rw [show beforeP exU p2 I2 exB (exB.ops.drop 1) = beforeP exU p2 I2 exB [exO2] from rfl, ex1, exM, up1] at hv2
  rw [show beforeP exU p3 I3 exB (exB.ops.drop 2) = beforeP exU p3 I3 exB [] from rfl, ex0, exM, up0] at hv3
  simp
  refine ⟨[ci 0], rfl, fun r1 h1 => ?_⟩
  have l1 : Le H6 (H6.set r1 (.cells [ci 0])) := Le.set_new h1
  refine (same_f hX ((((hv1.mono hle3).mono hle4).mono (hle5.trans hle6)).mono l1) (slF_of (l := [0]) set_at) (by decide)).k ?_
  rintro x H7 ⟨rfl, rfl⟩
  simp
  refine ⟨[ci 0, ci 1], rfl, fun r2 h21 h12 h2 => ?_⟩
  have l2 : Le H6 ((H6.set r1 (.cells [ci 0])).set r2 (.cells [ci 0, ci 1])) := l1.put h2
  refine (same_f hX (((hv2.mono hle5).mono hle6).mono l2) (slF_of (l := [0, 1]) set_at) (by decide)).k ?_
  rintro x H8 ⟨rfl, rfl⟩
  simp
  refine ⟨[ci 2], rfl, fun r3 k1 k2 k3 k4 h3 => ?_⟩
  have l3 : Le H6 (((H6.set r1 (.cells [ci 0])).set r2 (.cells [ci 0, ci 1])).set r3 (.cells [ci 2])) := l2.put h3
  refine (same_f hX (hv3.mono l3) (slF_of (l := [2]) set_at) (by decide)).k ?_
  rintro x H9 ⟨rfl, rfl⟩
  simp
  exact (((((hle1.trans hle2).trans hle3).trans hle4).trans hle5).trans hle6).trans l3
end Go.Cl
