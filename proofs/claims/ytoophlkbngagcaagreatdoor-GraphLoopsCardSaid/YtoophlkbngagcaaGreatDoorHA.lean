/- DERIVED HERE. The graph: Reached, Over. DERIVED HERE. Small (80 blocks, 2000 operations); graph.Idom. DERIVED HERE. Plain: the loops of a unit; the chapter's example. DERIVED HERE. The graph: the blocks of a loop. DERIVED HERE. slices.SortFunc of loops whose heads rise: it reads them, and leaves them as they are. DERIVED HERE. The graph's Loops. DERIVED HERE. The law's alive, of the chapter's example of graphs. -/
import Derived.Test.YtoophlkbngagcaaGreatDoorOD
import Derived.Test.YtoophlkbngagcaaGreatDoorDQq
import Derived.Test.YtoophlkbngagcaaGreatDoorTAq
import Derived.Test.YtoophlkbngagcaaGreatDoorGUa
import Derived.Test.YtoophlkbngagcaaGreatDoorLQ
set_option linter.unusedSimpArgs false
set_option linter.unusedVariables false
namespace Go.Cl.Gd
open Go.Proofs
variable {W : World} {G : Nat → CV}
set_option maxRecDepth 8000
set_option maxHeartbeats 1000000
theorem rkOf_nonneg {order : List Nat} {b : Nat} : 0 ≤ rkOf order b ↔ b ∈ order := by
  by_cases h : b ∈ order
  · have := (rkOf_lt h).1
    simp [h, this]
  · rw [rkOf_not h]; simp [h]
theorem reached_c (hX : CxOk (cx W G)) {H0 H : Hp} {gp : Nat} {u : UUnit} {N : Nat → List Nat} {rn rb ro ri rk co : Nat} {ns bs ex : List CV} {I : Nat → Option Nat} (h : GrOk H0 H gp u N rn rb ro ri rk co ns bs ex I) {b : Nat} (hb : b < u.blocks.length) : CC Tryz.prog W 69 [.ptr gp 0, .int .i64 b] H fun x H' => x = .ret (.bool (decide (b ∈ ordL N u.blocks.length))) ∧ H' = H := by
  have hg := h.g
  have hk := h.k
  have g1 := genC_get (f := rkOf (ordL N u.blocks.length)) hb
  refine CC.of_cw hX Tryz.func69 rfl rfl (Nat.le_of_ble_eq_true rfl) ?_
  refine CW.walk hX mixed d69 rfl ?_
  simp
  refine CW.walk1 hX mixed d69 rfl ?_
  simp [hg, hk, hb, g1]
  exact rkOf_nonneg
/-- The graph's pointers tell what dominates what. -/
theorem GrOk.domI {H0 H : Hp} {gp : Nat} {u : UUnit} {N : Nat → List Nat} {rn rb ro ri rk co : Nat} {ns bs ex : List CV} {I : Nat → Option Nat} (h : GrOk H0 H gp u N rn rb ro ri rk co ns bs ex I) (h0 : 0 < u.blocks.length) (hN : ∀ b, b < u.blocks.length → ∀ k ∈ N b, k < u.blocks.length) : DomI N (ordL N u.blocks.length) (rkOf (ordL N u.blocks.length)) I := by
  have hO := ord_of h0 hN (f := u.blocks.length) (Nat.le_refl _)
  exact ⟨h.di, h.fx, hO.ok.h, hO.mem⟩
structure ovI (I : Nat → Option Nat) (order : List Nat) (gp a b : Nat) (H : Hp) (m : Nat) (s' : CA) (H' : Hp) : Prop where
  ex : ∃ o : Option Nat, m = (match o with | none => 0 | some x => (rkOf order x).toNat + 1) ∧ s'.env 0 = .ptr gp 0 ∧ s'.env 1 = .int .i64 a ∧ s'.env 2 = .int .i64 (oI o) ∧ s'.ds = [] ∧ H' = H ∧ (∀ x, o = some x → x ∈ order) ∧ (Anc I a b ↔ ∃ x, o = some x ∧ Anc I a x)
structure ovX (I : Nat → Option Nat) (a b : Nat) (H : Hp) (s' : CA) (H' : Hp) : Prop where
  ex : ∃ z : Int, s'.env 1 = .int .i64 a ∧ s'.env 2 = .int .i64 z ∧ s'.ds = [] ∧ H' = H ∧ (z = a ↔ Anc I a b)
theorem over_c (hX : CxOk (cx W G)) {H0 H : Hp} {gp : Nat} {u : UUnit} {N : Nat → List Nat} {rn rb ro ri rk co : Nat} {ns bs ex : List CV} {I : Nat → Option Nat} (h : GrOk H0 H gp u N rn rb ro ri rk co ns bs ex I) (hN : ∀ b, b < u.blocks.length → ∀ k ∈ N b, k < u.blocks.length) {a b : Nat} (ha : a < u.blocks.length) (hb : b < u.blocks.length) : CC Tryz.prog W 41 [.ptr gp 0, .int .i64 a, .int .i64 b] H fun x H' => (∃ t, x = .ret (.bool t) ∧ (t = true ↔ Dom N a b)) ∧ H' = H := by
  have hD := h.domI (by omega) hN
  have hg := h.g
  have hi := h.i
  have hO := ord_of (N := N) (by omega : 0 < u.blocks.length) hN (f := u.blocks.length) (Nat.le_refl _)
  have hlt : ∀ x ∈ ordL N u.blocks.length, x < u.blocks.length := hO.lt
  refine CC.of_cw hX Tryz.func41 rfl rfl (Nat.le_of_ble_eq_true rfl) ?_
  refine CW.walk hX mixed d41 rfl ?_
  simp
  refine CW.walk hX mixed d41 rfl ?_
  simp
  refine (reached_c hX h ha).k ?_
  rintro x HA ⟨rfl, rfl⟩
  by_cases hao : a ∈ ordL N u.blocks.length
  rotate_left
  · simp [hao]
    exact fun hd => hao ((hD.mem a).2 hd.1)
  simp [hao]
  refine (reached_c hX h hb).k ?_
  rintro x HB ⟨rfl, rfl⟩
  by_cases hbo : b ∈ ordL N u.blocks.length
  rotate_left
  · simp [hbo]
    exact fun hd => hbo ((hD.mem b).2 hd.2.1)
  simp [hbo]
  have hdom : Dom N a b ↔ Anc I a b := hD.dom.trans ⟨fun k => k.2, fun k => ⟨hbo, k⟩⟩
  refine CW.cut (ovX I a b HB) ?_ ?_
  · refine CW.block ?_
    refine CW.loop (ovI I (ordL N u.blocks.length) gp a b HB) ?_ (m := (rkOf (ordL N u.blocks.length) b).toNat + 1) ⟨some b, rfl, by simp, by simp, by simp [oI], rfl, rfl, fun x e => by injection e with e; subst e; exact hbo, ⟨fun k => ⟨b, rfl, k⟩, fun ⟨x, e, k⟩ => by injection e with e; subst e; exact k⟩⟩
    rintro m ⟨e, ds⟩ H1 ⟨o, rfl, e0, e1, e2, rfl, rfl, hoo, hiff⟩
    dsimp only at e0 e1 e2
    cases o with
    | none =>
      simp only [oI] at e2
      refine CW.walk hX mixed d41 rfl ?_
      simp [e1, e2, show ¬ (-1 : Int) = a by omega]
      exact ⟨-1, by simp [e1], by simp [e2], rfl, rfl, ⟨fun q => by omega, fun k => by obtain ⟨x, e, _⟩ := hiff.1 k; cases e⟩⟩
    | some x =>
      simp only [oI] at e2
      have hx := hoo x rfl
      have hxn := hlt x hx
      by_cases hxa : x = a
      · subst hxa
        refine CW.walk hX mixed d41 rfl ?_
        simp [e1, e2]
        exact ⟨x, by simp [e1], by simp [e2], rfl, rfl, ⟨fun _ => hiff.2 ⟨x, rfl, .refl⟩, fun _ => rfl⟩⟩
      · refine CW.walk hX mixed d41 rfl ?_
        simp [e1, e2, show ¬ (x : Int) = a by omega]
        have g1 := genC_get (f := fun b => oI (I b)) hxn
        have g2 : (ptC u.blocks.length I)[x]? = some (ci (oI (I x))) := g1
        refine CW.walk1 hX mixed d41 rfl ?_
        simp [e0, e2, hg, hi, hxn, g2]
        refine ⟨_, ?_, I x, rfl, by simp [e0], by simp [e1], by simp, rfl, rfl, fun y hy => (hD.di.c x y hy).2.1, hiff.trans ⟨?_, ?_⟩⟩
        · cases hI : I x with
          | none => simp
          | some y =>
            have := (hD.di.c x y hI).2.2.1
            have := (rkOf_lt (hD.di.c x y hI).2.1).1
            simp
            omega
        · rintro ⟨z, ez, k⟩
          injection ez with ez
          subst ez
          cases k with
          | refl => exact absurd rfl hxa
          | step e k => exact ⟨_, e, k⟩
        · rintro ⟨y, ey, k⟩
          exact ⟨x, rfl, .step ey k⟩
  rintro ⟨e, ds⟩ H1 ⟨z, e1, e2, rfl, rfl, hz⟩
  dsimp only at e1 e2
  refine CW.walk1 hX mixed d41 rfl ?_
  simp [e1, e2]
  rw [hz, hdom]
  by_cases hq : Anc I a b <;> simp [hq]
end Go.Cl.Gd
set_option linter.unusedSimpArgs false
set_option linter.unusedVariables false
namespace Go.Cl.Gd
open Go.Proofs
variable {W : World} {G : Nat → CV}
set_option maxRecDepth 8000
set_option maxHeartbeats 1000000
theorem cut80_ok (u : UUnit) : CutOk (cutU u 80 2000) := by
  refine ⟨by simp [cutU]; omega, by simp [cutU]; omega, fun b hb => ?_⟩
  simp only [cutU, List.mem_map] at hb
  obtain ⟨i, _, rfl⟩ := hb
  simp only [cutBlk]
  have := List.length_take_le (remO u.blocks 2000 i).toNat (u.blocks.getD i dB).ops
  have := (remO_bd (u := u) (O := 2000) i).2
  omega
theorem cut80_c (hX : CxOk (cx W G)) (u : UUnit) (H : Hp) : CC Tryz.prog W 8 [.agg (unitC u)] H fun x H' => ∃ cs, x = .ret (.agg cs) ∧ Le H H' ∧ UV H' cs (cutU u 80 2000) := by
  refine CC.of_cw hX Tryz.func8 rfl rfl (Nat.le_of_ble_eq_true rfl) ?_
  refine CW.walk hX mixed d8 rfl ?_
  simp
  intro q1 hq1 q2 h21 h12 hq2
  generalize hH1 : (H.set q1 _).set q2 _ = H1
  have hle : Le H H1 := by rw [← hH1]; exact (Le.set_new hq1).trans (Le.set_new (by simp [Hp.set, h21, hq2]))
  have m2 : H1 q2 = some (.cells [.nilsl, ci 0, ci 0, ci 0, ci 0, .nilsl]) := by rw [← hH1]; exact set_at
  have m1 : H1 q1 = some (.cells (unitC u)) := by rw [← hH1, hset_ne h12]; exact set_at
  clear hH1
  have hH1 : (hole H1 q2).set q2 (.cells [.nilsl, ci 0, ci 0, ci 0, ci 0, .nilsl]) = H1 := hole_set m2
  have hc := (cut_c hX u 80 2000 (by omega) (by omega) (hole H1 q2)).frame (r := q2) (ob := .cells [.nilsl, ci 0, ci 0, ci 0, ci 0, .nilsl]) hole_at
  rw [hH1] at hc
  simp only [unitC] at hc m1
  refine CW.walk hX mixed d8 rfl ?_
  simp [m1]
  refine hc.k ?_
  rintro x G2 ⟨H2, h2, rfl, cs, rfl, hle2, huv⟩
  have hl6 := huv.l
  have hn : Le H2 (H2.set q2 (.cells cs)) := Le.set_new h2
  simp [hl6]
  refine CW.walk1 hX mixed d8 rfl ?_
  simp [hl6]
  rw [List.take_of_length_le (by omega)]
  exact ⟨((le_hole hle hq2).trans hle2).trans hn, huv.mono hn⟩
/-- The numbers of the nearest dominators. -/
def idL (n : Nat) (I : Nat → Option Nat) : List Int := (List.range n).map fun b => oI (I b)
theorem ptC_slF {H : Hp} {r n : Nat} {I : Nat → Option Nat} (h : H r = some (.cells (ptC n I))) : SlF H (.ref r 0 n n) (idL n I) := by
  have hl : (idL n I).length = n := by simp [idL]
  refine .inr ⟨r, 0, _, by rw [hl]; rfl, h, fun k x hk => ?_⟩
  simp only [idL, List.getElem?_map, Option.map_eq_some_iff] at hk
  obtain ⟨y, hy, rfl⟩ := hk
  have hkn : k < n := by have := (List.getElem?_eq_some_iff.1 hy).1; simpa using this
  rw [List.getElem?_range hkn] at hy
  injection hy with hy
  subst hy
  exact genC_get hkn
/-- What graph.Idom answers. -/
structure IdA (u : UUnit) (x : CE) (H' : Hp) : Prop where
  er : errU u ≠ 0 → x = .ret (.tuple [.nilsl, ci (errU u)])
  ok : errU u = 0 → ∃ p c I v, PLeast (opsOf u) p c ∧ DomI (nextN u p) (ordL (nextN u p) u.blocks.length) (rkOf (ordL (nextN u p) u.blocks.length)) I ∧ x = .ret (.tuple [v, ci 0]) ∧ SlF H' v (idL u.blocks.length I)
theorem idom_c (hX : CxOk (cx W G)) (hG : G 0 = .iptr formsC) (u : UUnit) (hu : UOk u) (H : Hp) : CC Tryz.prog W 15 [.agg (unitC u)] H fun x H' => IdA u x H' := by
  refine CC.of_cw hX Tryz.func15 rfl rfl (Nat.le_of_ble_eq_true rfl) ?_
  refine CW.walk hX mixed d15 rfl ?_
  simp
  intro q1 hq1
  by_cases he : errU u = 0
  · have hc := gof_c hX hG u (errU_wf.1 he) (H.set q1 (.cells (unitC u)))
    have hw : wfU u = true := errU_wf.1 he
    refine CW.walk hX mixed d15 rfl ?_
    simp [unitC]
    simp only [unitC] at hc
    refine hc.k ?_
    rintro x H3 ⟨gp, p, c, rn, rb, ro, ri, rk, co, ns, bs, ex, I, rfl, hp, h⟩
    simp
    have mg := h.g
    have mi := h.i
    have h0 : 0 < u.blocks.length := by obtain ⟨f1, f2, f3, f4, f5, f6, f7, f8, f9, f10, f11⟩ := wfU_facts hw; omega
    refine CW.walk hX mixed d15 rfl ?_
    simp [mg]
    refine CW.walk hX mixed d15 rfl ?_
    simp [mg]
    refine CW.walk1 hX mixed d15 rfl ?_
    simp
    exact ⟨fun q => absurd he q, fun _ => ⟨p, c, I, _, hp, h.domI h0 nextN_lt, rfl, ptC_slF mi⟩⟩
  · have hc := gof_e hX hG u hu he (H.set q1 (.cells (unitC u)))
    refine CW.walk hX mixed d15 rfl ?_
    simp [unitC]
    simp only [unitC] at hc
    refine hc.k ?_
    rintro x H2 ⟨rfl, rfl⟩
    simp
    refine CW.walk hX mixed d15 rfl ?_
    simp [he]
    exact ⟨fun _ => rfl, fun q => absurd q he⟩
theorem IdA.free {u : UUnit} {x : CE} {H' : Hp} (h : IdA u x H') : FreeEnd x := by
  by_cases he : errU u = 0
  · obtain ⟨p, c, I, v, _, _, rfl, h5⟩ := h.ok he
    exact tup2_free h5.free
  · rw [h.er he]; exact tup2_free .nilsl
theorem IdA.wkm {u : UUnit} {x : CE} {H' H2 : Hp} (h : IdA u x H') (hl : Le (wkH H') H2) : IdA u x H2 :=
  ⟨h.er, fun he => by
    obtain ⟨p, c, I, v, a1, a2, a4, a5⟩ := h.ok he
    exact ⟨p, c, I, v, a1, a2, a4, a5.wk.mono hl⟩⟩
theorem idom_f (hX : CxOk (cx W G)) (hG : G 0 = .iptr formsC) {u : UUnit} (hu : UOk u) {H : Hp} {cs : List CV} (hf : Fz H (.agg cs) (.agg (unitC u))) : CC Tryz.prog W 15 [.agg cs] H fun x H' => IdA u x H' ∧ Le H H' := by
  refine (CC.freeze3 (args' := [.agg (unitC u)]) (R := IdA u) (by rfl) (fz1 hf) (fun x H' h => h.free) fun w hw => ?_).mono ?_
  · exact idom_c (W := w) (CxOk.later hX hw) hG u hu _
  · rintro x H2 ⟨H', h1, h2, h3, _⟩
    exact ⟨h1.wkm h3, h2⟩
end Go.Cl.Gd
set_option linter.unusedSimpArgs false
set_option linter.unusedVariables false
namespace Go.Cl.Gd
set_option maxRecDepth 8000
/-- A loop's blocks, as a rising list. -/
noncomputable def loopB (N : Nat → List Nat) (n hd : Nat) (T : List Nat) : List Nat := open Classical in (List.range n).filter fun x => decide (InL N hd T x)
/-- Its tails. -/
noncomputable def tailsP (N : Nat → List Nat) (n hd : Nat) : List Nat := open Classical in (befL N n hd).filter fun k => decide (Dom N hd k)
/-- The loops whose heads are below m. -/
noncomputable def loopsP (N : Nat → List Nat) (n : Nat) : Nat → List (Nat × List Nat × List Nat)
  | 0 => []
  | m + 1 => loopsP N n m ++ (if tailsP N n m = [] then [] else [(m, tailsP N n m, loopB N n m (tailsP N n m))])
theorem loopsP_lt {N : Nat → List Nat} {n : Nat} : ∀ {m : Nat}, ∀ l ∈ loopsP N n m, l.1 < m
  | 0, l, h => by simp [loopsP] at h
  | m + 1, l, h => by
    rw [loopsP, List.mem_append] at h
    rcases h with h | h
    · have := loopsP_lt l h; omega
    · split at h
      · simp at h
      · simp at h; rw [h]; simp
theorem loopsP_rise {N : Nat → List Nat} {n : Nat} : ∀ {m : Nat}, (loopsP N n m).Pairwise fun a b => a.1 < b.1
  | 0 => by simp [loopsP]
  | m + 1 => by
    rw [loopsP, List.pairwise_append]
    refine ⟨loopsP_rise, by split <;> simp, fun a ha b hb => ?_⟩
    have := loopsP_lt a ha
    split at hb
    · simp at hb
    · simp at hb; rw [hb]; exact this
theorem loopsP_len {N : Nat → List Nat} {n : Nat} : ∀ {m : Nat}, (loopsP N n m).length ≤ m
  | 0 => by simp [loopsP]
  | m + 1 => by
    have := loopsP_len (N := N) (n := n) (m := m)
    rw [loopsP, List.length_append]
    split <;> simp <;> omega
theorem tailsP_len {N : Nat → List Nat} {n hd : Nat} : (tailsP N n hd).length ≤ n := by
  have h1 := List.length_filter_le (fun a => decide (hd ∈ N a)) (List.range n)
  rw [List.length_range] at h1
  have h2 : (tailsP N n hd).length ≤ (befL N n hd).length := List.length_filter_le _ _
  have h3 : (befL N n hd).length ≤ n := h1
  omega
theorem tailsP_lt {N : Nat → List Nat} {n hd : Nat} : ∀ t ∈ tailsP N n hd, t < n := fun t ht => by
  have h1 := (List.mem_filter.1 ht).1
  have h2 := (List.mem_filter.1 (show t ∈ (List.range n).filter _ from h1)).1
  simpa using h2
/-- What is reached without a block, by computing. -/
def ordW (N : Nat → List Nat) (n w : Nat) : List Nat := ordL (fun b => (N b).filter fun k => decide ((k : Int) ≠ w)) n
theorem ordW_iff {N : Nat → List Nat} {n w b : Nat} (h0 : 0 < n) (hN : ∀ b, b < n → ∀ k ∈ N b, k < n) : RchW N w 0 b ↔ b ∈ ordW N n w :=
  ((ord_of (N := fun b => (N b).filter fun k => decide ((k : Int) ≠ w)) h0 (fun b hb k hk => hN b hb k ((List.mem_filter.1 hk).1)) (f := n) (Nat.le_refl _)).mem b).symm
theorem dom_iff {N : Nat → List Nat} {n a b : Nat} (h0 : 0 < n) (hN : ∀ b, b < n → ∀ k ∈ N b, k < n) : Dom N a b ↔ a ∈ ordL N n ∧ b ∈ ordL N n ∧ ¬ (0 ≠ a ∧ b ∈ ordW N n a) := by
  have hO := ord_of (N := N) h0 hN (f := n) (Nat.le_refl _)
  rw [Dom, ← ordW_iff h0 hN]
  have e1 := hO.mem a
  have e2 := hO.mem b
  simp only [ordL, e1, e2]
  have e3 : (0 : Int) ≠ (a : Int) ↔ 0 ≠ a := by omega
  rw [e3]
def exG : UUnit := ⟨[], 0, 1, 0, 0, [⟨[], ⟨1, 0, 1, 0⟩, -1⟩, ⟨[], ⟨2, 0, 2, 3⟩, -1⟩, ⟨[], ⟨1, 0, 1, 0⟩, -1⟩, ⟨[], ⟨3, 0, 0, 0⟩, -1⟩]⟩
theorem exG_wf : wfU exG = true := by decide
def exN : Nat → List Nat := nextN exG fun _ => false
theorem exG_nx {p c : Nat → Bool} (h : PLeast (opsOf exG) p c) : nextN exG p = exN := by
  have := h.unique (Gu.least_none (ops := opsOf exG) (by decide))
  rw [this.1, exN]
theorem exN_ord : ordL exN 4 = [0, 1, 3, 2] := by decide
theorem exN_lt : ∀ b, b < 4 → ∀ k ∈ exN b, k < 4 := by decide
theorem exN_t : tailsP exN 4 0 = [] ∧ tailsP exN 4 1 = [2] ∧ tailsP exN 4 2 = [] ∧ tailsP exN 4 3 = [] := by
  have hd := fun a b => dom_iff (N := exN) (a := a) (b := b) (by omega : 0 < 4) exN_lt
  refine ⟨?_, ?_, ?_, ?_⟩ <;> simp only [tailsP, hd] <;> decide
theorem exN_b : loopB exN 4 1 [2] = [1, 2] := by
  have h0 : ¬ InL exN 1 [2] 0 := by
    rintro (h | ⟨_, _, t, ht, hw⟩)
    · cases h
    · simp at ht; subst ht
      rw [show ((1 : Nat) : Int) = 1 from rfl] at hw
      have := (ordW_iff (N := exN) (w := 1) (by omega : 0 < 4) exN_lt).1 hw
      revert this; decide
  have h3 : ¬ InL exN 1 [2] 3 := by
    rintro (h | ⟨_, _, t, ht, hw⟩)
    · cases h
    · simp at ht; subst ht
      have : ∀ x, RchW exN (1 : Nat) 3 x → x = 3 := fun x hx => by
        induction hx with
        | refl => rfl
        | step _ e ih => subst ih; revert e; rw [show exN 3 = [] by decide]; simp
      have := this _ hw
      cases this
  have h1 : InL exN 1 [2] 1 := .inl rfl
  have h2 : InL exN 1 [2] 2 := by
    refine .inr ⟨by omega, ?_, 2, by simp, .refl⟩
    exact .step (y := 1) (.step (y := 0) .refl (by decide)) (by decide)
  rw [loopB, show List.range 4 = [0, 1, 2, 3] by decide]
  simp [h0, h1, h2, h3]
theorem exN_loops : loopsP exN 4 4 = [(1, [2], [1, 2])] := by
  obtain ⟨a, b, c, d⟩ := exN_t
  simp [loopsP, a, b, c, d, exN_b]
end Go.Cl.Gd
set_option linter.unusedSimpArgs false
set_option linter.unusedVariables false
namespace Go.Cl.Gd
open Go.Proofs
variable {W : World} {G : Nat → CV}
set_option maxRecDepth 8000
set_option maxHeartbeats 1000000
theorem Own.setB {B H : Hp} {v : CV} {sz : Nat} {xs : List (List CV)} {q : Nat} {o0 o : Ob} (h : Own (B.set q o0) H v sz xs) : Own (B.set q o) (H.set q o) v sz xs := by
  obtain ⟨h1, h2, h3⟩ := h
  have hl : Le (B.set q o) (H.set q o) := by
    have := Le.set (r := q) (o := o) h1
    rwa [set_set] at this
  refine ⟨hl, h2, ?_⟩
  rcases h3 with h3 | ⟨r, c, ex, e, hr, hH, hx, hc⟩
  · exact .inl h3
  · have hne : r ≠ q := fun e => by subst e; rw [set_at] at hr; cases hr
    refine .inr ⟨r, c, ex, e, ?_, ?_, hx, hc⟩
    · rw [hset_ne hne] at hr ⊢; exact hr
    · rw [hset_ne hne]; exact hH
theorem Own.pop {H0 H : Hp} {r c n sz : Nat} {y : List CV} {xs : List (List CV)} (h : Own H0 H (.ref r 0 n c) sz (xs ++ [y])) : Own H0 H (.ref r 0 xs.length c) sz xs := by
  obtain ⟨h1, h2, h3⟩ := h
  rcases h3 with ⟨e, _⟩ | ⟨r', c', ex, e, hr, hH, hx, hc⟩
  · cases e
  · injection e with e1 e2 e3 e4
    subst e1; subst e4
    have hy := h2 y (by simp)
    simp at hc
    refine ⟨h1, fun e he => h2 e (by simp [he]), .inr ⟨r, c, y ++ ex, rfl, hr, by rw [hH]; simp, ?_, by omega⟩⟩
    simp [hx, hy]
    rw [show c - xs.length = (c - (xs.length + 1)) + 1 by omega, Nat.add_mul]
    omega
theorem GrOk.more {H0 H H' : Hp} {gp : Nat} {u : UUnit} {N : Nat → List Nat} {rn rb ro ri rk co : Nat} {ns bs ex : List CV} {I : Nat → Option Nat} (h : GrOk H0 H gp u N rn rb ro ri rk co ns bs ex I) (hl : Le H H') : GrOk H0 H' gp u N rn rb ro ri rk co ns bs ex I :=
  ⟨h.le.trans hl, hl _ _ h.g, hl _ _ h.n, fun b hb => by obtain ⟨v, h1, h2⟩ := h.nn b hb; exact ⟨v, h1, h2.mono hl⟩, hl _ _ h.b, fun b hb => by obtain ⟨v, h1, h2⟩ := h.bb b hb; exact ⟨v, h1, h2.mono hl⟩, hl _ _ h.o, h.o0, h.co, hl _ _ h.i, h.di, hl _ _ h.k, h.fx⟩
theorem MapS.find {es : List (Int × Nat × CV)} {clk n : Nat} {s : Nat → Bool} (h : MapS es clk n s) {e : Int × Nat × CV} (he : e ∈ es) : es.find? (fun x => x.2.1 == e.2.1) = some e := by
  cases hf : es.find? (fun x => x.2.1 == e.2.1) with
  | none => have := List.find?_eq_none.1 hf e he; simp at this
  | some x =>
    have h1 := List.find?_some hf
    have h2 := List.mem_of_find?_eq_some hf
    rw [map_inj h.nd x h2 e he (by simpa using h1)]
structure lpI (B : Hp) (q6 q7 gp hd n : Nat) (vt : CV) (N : Nat → List Nat) (T : List Nat) (m : Nat) (s' : CA) (H' : Hp) : Prop where
  ex : ∃ (es : List (Int × Nat × CV)) (clk : Nat) (s : Nat → Bool) (todo : List Nat) (v : CV), m = cnt n s * (n + 1) + todo.length ∧ cnt n s * (n + 1) + todo.length ≤ (n + 1) * (n + 1) ∧ s'.env 0 = .ptr gp 0 ∧ s'.env 1 = .int .i64 hd ∧ s'.env 2 = vt ∧ s'.env 6 = .ptr q6 0 ∧ s'.env 7 = .map q7 ∧ s'.env 8 = v ∧ s'.ds = [] ∧ MapS es clk n s ∧ LI N n hd T s todo ∧ Own (B.set q7 (.imap .i64 es clk)) H' v 1 (ints (natL todo))
structure lpR (H2 : Hp) (q6 q7 q10 q55 hd n : Nat) (vt : CV) (es : List (Int × Nat × CV)) (clk : Nat) (m : Nat) (s' : CA) (H' : Hp) : Prop where
  ex : ∃ (seen L : List Nat) (vb : CV), m + L.length = n ∧ s'.env 6 = .ptr q6 0 ∧ s'.env 10 = .ptr q10 0 ∧ s'.env 55 = .ptr q55 0 ∧ s'.ds = [] ∧ RgS es seen L ∧ Own ((H2.set q10 (.cells [ci hd, vt, vb])).set q55 (.miter q7 clk seen clk)) H' vb 1 (ints (natL L))
structure lpS (H2 : Hp) (q6 q7 q10 hd : Nat) (vt : CV) (es : List (Int × Nat × CV)) (clk : Nat) (s' : CA) (H' : Hp) : Prop where
  ex : ∃ (q55 : Nat) (seen L : List Nat) (vb : CV), q10 ≠ q55 ∧ H2 q55 = none ∧ s'.env 6 = .ptr q6 0 ∧ s'.env 10 = .ptr q10 0 ∧ s'.ds = [] ∧ RgS es seen L ∧ (∀ e ∈ es, e.2.1 ∈ seen) ∧ Own ((H2.set q10 (.cells [ci hd, vt, vb])).set q55 (.miter q7 clk seen clk)) H' vb 1 (ints (natL L))
theorem sort_upto {n : Nat} {s : Nat → Bool} {L : List Nat} {L' : List Int} (hp : List.Perm L' (natL L)) (hs : L'.Pairwise (· ≤ ·)) (hn : L.Nodup) (hm : ∀ x, x ∈ L ↔ x < n ∧ s x = true) : L' = natL ((List.range n).filter s) := by
  have h0 : ∀ x ∈ L', 0 ≤ x := fun x hx => by
    have := hp.mem_iff.1 hx
    simp only [natL, List.mem_map] at this
    obtain ⟨y, _, rfl⟩ := this
    omega
  have e1 := natL_toNat h0
  have hp2 : List.Perm (L'.map Int.toNat) L := by
    have := hp.map Int.toNat
    rwa [show (natL L).map Int.toNat = L by rw [natL, List.map_map]; exact (List.map_congr_left fun x _ => by simp).trans (List.map_id L)] at this
  rw [← e1]
  congr 1
  refine perm_upto (hp2.nodup_iff.2 hn) (fun x => by rw [hp2.mem_iff, hm]) ?_
  rw [List.pairwise_map]
  exact hs.imp_of_mem fun {a b} ha hb h => by have := h0 a ha; have := h0 b hb; omega
structure lpX (B : Hp) (q6 q7 hd n : Nat) (vt : CV) (N : Nat → List Nat) (T : List Nat) (s' : CA) (H' : Hp) : Prop where
  ex : ∃ (es : List (Int × Nat × CV)) (clk : Nat) (s : Nat → Bool), s'.env 1 = .int .i64 hd ∧ s'.env 2 = vt ∧ s'.env 6 = .ptr q6 0 ∧ s'.env 7 = .map q7 ∧ s'.ds = [] ∧ MapS es clk n s ∧ (∀ x, s x = true ↔ InL N hd T x) ∧ Le (B.set q7 (.imap .i64 es clk)) H'
theorem loop_c (hX : CxOk (cx W G)) {H0 H : Hp} {gp : Nat} {u : UUnit} {N : Nat → List Nat} {rn rb ro ri rk co : Nat} {ns bs ex : List CV} {I : Nat → Option Nat} (h : GrOk H0 H gp u N rn rb ro ri rk co ns bs ex I) (hN : ∀ b, b < u.blocks.length → ∀ k ∈ N b, k < u.blocks.length) (hn : u.blocks.length ≤ 5000) {hd : Nat} (hh : hd < u.blocks.length) {T : List Nat} (hT : ∀ t ∈ T, t < u.blocks.length) (hTl : T.length ≤ u.blocks.length) {vt : CV} {K0 : Hp} (hvt : Own K0 H vt 1 (ints (natL T))) :
    CC Tryz.prog W 73 [.ptr gp 0, .int .i64 hd, vt] H fun x H' => ∃ vb, x = .ret (.agg [ci hd, vt, vb]) ∧ Own H H' vb 1 (ints (natL (loopB N u.blocks.length hd T))) := by
  obtain ⟨hs1, hs2⟩ := Own.oneCell hvt
  have hvf : vt = .nilsl ∨ ∃ r n c, vt = .ref r 0 n c := by
    rcases hvt.2.2 with ⟨h1, _⟩ | ⟨r, c, ex, h1, _⟩
    · exact .inl h1
    · exact .inr ⟨r, _, c, h1⟩
  have hO := ord_of (N := N) (by omega : 0 < u.blocks.length) hN (f := u.blocks.length) (Nat.le_refl _)
  refine CC.of_cw hX Tryz.func73 rfl rfl (Nat.le_of_ble_eq_true rfl) ?_
  refine CW.walk hX mixed d73 rfl ?_
  simp
  intro q6 hq6
  refine CW.walk hX mixed d73 rfl ?_
  simp
  intro q7 h76 h67 hq7
  refine ⟨[], 0, ⟨rfl, rfl⟩, ?_⟩
  obtain ⟨B, hB⟩ : ∃ B, H.set q6 (.cells [ci 0, .nilsl, .nilsl]) = B := ⟨_, rfl⟩
  have hle : Le H B := by rw [← hB]; exact Le.set_new hq6
  have m6 : B q6 = some (.cells [ci 0, .nilsl, .nilsl]) := by rw [← hB]; exact set_at
  have hB7 : B q7 = none := by rw [← hB, hset_none_iff]; exact ⟨h76, hq7⟩
  have hvB := (hvt.mono hle).mono (Le.set_new (o := .imap .i64 [((hd : Int), 0, .bool true)] 1) hB7)
  refine CW.walk hX mixed d73 rfl ?_
  simp [hB]
  refine (Gu.cloneI_o hX (by rw [natL_len]; omega) hvB).k ?_
  rintro x H2 ⟨v0, rfl, hown0⟩
  simp
  have hms0 : MapS [((hd : Int), 0, CV.bool true)] 1 u.blocks.length (fun y => y == hd) := MapS.start hh
  have hli0 : LI N u.blocks.length hd T (fun y => y == hd) T := LI.start hh hT
  have hrn : ∀ k, Rch N 0 k → k < u.blocks.length := fun k hk => by
    induction hk with
    | refl => omega
    | step _ e ih => exact hN _ ih _ e
  refine CW.cut (lpX B q6 q7 hd u.blocks.length vt N T) ?_ ?_
  · refine CW.block ?_
    refine CW.loop (lpI B q6 q7 gp hd u.blocks.length vt N T) ?_ (m := cnt u.blocks.length (fun y => y == hd) * (u.blocks.length + 1) + T.length) ⟨_, _, _, T, v0, rfl, ?_, by simp, by simp, by simp, by simp, by simp, by simp, rfl, hms0, hli0, hown0⟩
    rotate_left
    · have h1 : cnt u.blocks.length (fun y => y == hd) ≤ u.blocks.length := by
        have := List.length_filter_le (fun x => !((fun y => y == hd) x)) (List.range u.blocks.length)
        rw [List.length_range] at this
        exact this
      have h2 := Nat.mul_le_mul_right (u.blocks.length + 1) h1
      rw [Nat.add_mul, Nat.one_mul]
      omega
    clear hown0 hms0 hli0
    clear v0 H2
    rintro m ⟨e, ds⟩ H2 ⟨es, clk, s, todo, v, rfl, hm, e0, e1, e2, e6, e7, e8, rfl, hms, hli, hown⟩
    dsimp only at e0 e1 e2 e6 e7 e8
    have mg := fun o => Le.set_new (o := o) hB7
    rcases List.eq_nil_or_concat todo with rfl | ⟨todo, b, rfl⟩
    · have hv : v = .nilsl ∨ ∃ r c, v = .ref r 0 0 c := by
        rcases hown.2.2 with ⟨h1, _⟩ | ⟨r, c, ex, h1, _⟩
        · exact .inl h1
        · exact .inr ⟨r, c, h1⟩
      have fin : ∀ en : Env, en 1 = .int .i64 hd → en 2 = vt → en 6 = .ptr q6 0 → en 7 = .map q7 → lpX B q6 q7 hd u.blocks.length vt N T ⟨en, []⟩ H2 := fun en g1 g2 g6 g7 => ⟨es, clk, s, g1, g2, g6, g7, rfl, hms, hli.fin, hown.1⟩
      rcases hv with rfl | ⟨r, c, rfl⟩
      · refine CW.walk hX mixed d73 rfl ?_
        simp [e8]
        exact fin _ (by simp [e1]) (by simp [e2]) (by simp [e6]) (by simp [e7])
      · refine CW.walk hX mixed d73 rfl ?_
        simp [e8]
        exact fin _ (by simp [e1]) (by simp [e2]) (by simp [e6]) (by simp [e7])
    · simp only [List.concat_eq_append] at hown hli hm ⊢
      have hl1 : (ints (natL (todo ++ [b]))).length = todo.length + 1 := by rw [ints_len, natL_len]; simp
      obtain ⟨r, c, ex, rfl, hr0, hr, hxl, hcl⟩ : ∃ r c ex, v = .ref r 0 (todo.length + 1) c ∧ (B.set q7 (.imap .i64 es clk)) r = none ∧ H2 r = some (.cells ((natL (todo ++ [b])).map ci ++ ex)) ∧ ex.length = c - (todo.length + 1) ∧ todo.length + 1 ≤ c := by
        rcases hown.2.2 with ⟨_, h1⟩ | ⟨r, c, ex, h1, h2, h3, h4, h5⟩
        · have := congrArg List.length h1; rw [hl1] at this; simp at this
        · rw [hl1] at h1 h4 h5; rw [ints_flat] at h3; exact ⟨r, c, ex, h1, h2, h3, by simpa using h4, h5⟩
      have gb : ((natL (todo ++ [b])).map ci ++ ex)[todo.length]? = some (ci (b : Int)) := by
        rw [List.getElem?_append_left (by simp [natL])]
        simp [natL]
      refine CW.walk hX mixed d73 rfl ?_
      simp [e8, show (0 : Int) < (todo.length : Int) + 1 by omega]
      refine CW.block ?_
      refine CW.walk hX mixed d73 rfl ?_
      have hsq : (u.blocks.length + 1) * (u.blocks.length + 1) ≤ 5001 * 5001 := Nat.mul_le_mul (by omega) (by omega)
      have hm' : todo.length + 1 ≤ 5001 * 5001 := by simp at hm; omega
      have hw : IntKind.i64.wrap (todo.length : Int) = (todo.length : Int) := wrapI (by omega) (by omega)
      simp [e8, hr, gb, hw]
      refine ⟨by omega, ?_⟩
      refine CW.walk hX mixed d73 rfl ?_
      simp [e8, hw]
      refine ⟨by omega, ?_⟩
      have hbn := (hli.tod b (by simp)).1
      have hpop : Own (B.set q7 (.imap .i64 es clk)) H2 (.ref r 0 todo.length c) 1 (ints (natL todo)) := by
        have h1 : ints (natL (todo ++ [b])) = ints (natL todo) ++ [[ci (b : Int)]] := by simp [ints, natL]
        rw [h1] at hown
        have h2 := Own.pop hown
        rwa [ints_len, natL_len] at h2
      have m7 : H2 q7 = some (.imap .i64 es clk) := hown.1 _ _ set_at
      have gr := (h.more hle).more ((mg _).trans hown.1)
      have hlk := hms.lk hbn
      simp only [List.length_append, List.length_singleton] at hm
      cases hsb : s b with
      | true =>
        rw [hsb, if_pos rfl] at hlk
        refine CW.walk1 hX mixed d73 rfl ?_
        simp [e7, m7, hlk]
        exact ⟨cnt u.blocks.length s * (u.blocks.length + 1) + todo.length, by omega, es, clk, s, todo, _, rfl, by omega, by simp [e0], by simp [e1], by simp [e2], by simp [e6], by simp [e7], by simp, rfl, hms, hli.skip (.inl hsb), hpop⟩
      | false =>
        rw [hsb, if_neg (by simp)] at hlk
        refine CW.walk hX mixed d73 rfl ?_
        simp [e0, e7, m7, hlk]
        refine (reached_c hX gr hbn).k ?_
        rintro x H3 ⟨rfl, rfl⟩
        by_cases hbo : b ∈ ordL N u.blocks.length
        rotate_left
        · simp [hbo]
          refine CW.walk1 hX mixed d73 rfl ?_
          simp
          exact ⟨cnt u.blocks.length s * (u.blocks.length + 1) + todo.length, by omega, es, clk, s, todo, _, rfl, by omega, by simp [e0], by simp [e1], by simp [e2], by simp [e6], by simp [e7], by simp, rfl, hms, hli.skip (.inr fun k => hbo ((hO.mem b).2 k)), hpop⟩
        have hbr := (hO.mem b).1 hbo
        have hown2 := Own.setB (o := .imap .i64 (es ++ [((b : Int), clk, .bool true)]) (clk + 1)) hpop
        simp [hbo]
        refine CW.condE hX (b := true) (by simp) (fun _ => ?_) (fun h => by cases h)
        refine CW.walk hX mixed d73 rfl ?_
        simp [e7, m7, hlk, putM_new hlk]
        refine ⟨es, clk, ⟨rfl, rfl⟩, ?_⟩
        rw [hlk, putM_new hlk]
        simp only [Option.isSome_none, Bool.false_eq_true, if_false]
        have gr2 := (h.more hle).more ((mg _).trans hown2.1)
        have hcn := cnt_lt hbn hsb
        have hms2 := hms.add hbn hsb
        have hli2 := hli.add (P := befL N u.blocks.length b) hsb hbr (fun k => by simp [befL]) hrn
        have hPl : (befL N u.blocks.length b).length ≤ u.blocks.length := by
          have := List.length_filter_le (fun a => decide (b ∈ N a)) (List.range u.blocks.length)
          rw [List.length_range] at this
          exact this
        have g2 := gr2.g
        have gb2 := gr2.b
        obtain ⟨vb, hvb, hsl⟩ := gr2.bb b hbn
        generalize H3.set q7 _ = H4 at hown2 g2 gb2 hsl ⊢
        refine CW.walk1 hX mixed d73 rfl ?_
        simp [e0, g2, gb2, hbn, hvb, -vcAppend]
        have hmul := Nat.mul_le_mul_right (u.blocks.length + 1) hcn
        rw [Nat.add_mul, Nat.one_mul] at hmul
        refine hown2.append2 (ys := ints (natL (befL N u.blocks.length b))) (fun e he => by simp only [ints, List.mem_map] at he; obtain ⟨_, _, rfl⟩ := he; rfl) ?_ (src_slF hsl) fun v' H5 how5 _ => ?_
        · show ((ints (natL todo)).length + (ints (natL (befL N u.blocks.length b))).length) * 8 ≤ _
          rw [ints_len, ints_len, natL_len, natL_len]
          omega
        · simp
          refine ⟨cnt u.blocks.length (fun x => s x || x == b) * (u.blocks.length + 1) + (todo ++ befL N u.blocks.length b).length, ?_, _, _, _, todo ++ befL N u.blocks.length b, v', rfl, ?_, by simp [e0], by simp [e1], by simp [e2], by simp [e6], by simp [e7], by simp, rfl, hms2, hli2, ?_⟩
          · rw [List.length_append]; omega
          · rw [List.length_append]; omega
          · have e9 : ints (natL (todo ++ befL N u.blocks.length b)) = ints (natL todo) ++ ints (natL (befL N u.blocks.length b)) := by simp [ints, natL]
            rw [e9]; exact how5
  rintro ⟨e, ds⟩ H2 ⟨es, clk, s, e1, e2, e6, e7, rfl, hms, hin, hl2⟩
  dsimp only at e1 e2 e6 e7
  refine CW.walk hX mixed d73 rfl ?_
  simp [e1, e2]
  refine ⟨[ci hd, vt, .nilsl], by rcases hvf with rfl | ⟨r, n, c, rfl⟩ <;> rfl, fun q10 hq10 => ⟨rfl, ?_⟩⟩
  obtain ⟨hs1', hs2'⟩ : vt.stor = true ∧ vt.cells = [vt] := ⟨hs1, hs2⟩
  have m7 : H2 q7 = some (.imap .i64 es clk) := hl2 _ _ set_at
  have h107 : q7 ≠ q10 := fun e => by rw [← e, m7] at hq10; cases hq10
  refine CW.cut (lpS H2 q6 q7 q10 hd vt es clk) ?_ ?_
  · refine CW.walk hX mixed d73 rfl ?_
    simp [e7]
    refine ⟨es, clk, by rw [hset_ne h107]; exact m7, fun q55 h5510 h1055 hq55 => ?_⟩
    have h557 : q7 ≠ q55 := fun e => by rw [← e, m7] at hq55; cases hq55
    refine CW.block ?_
    refine CW.loop (lpR H2 q6 q7 q10 q55 hd u.blocks.length vt es clk) ?_ (m := u.blocks.length) ⟨[], [], .nilsl, by simp, by simp [e6], by simp, by simp, rfl, RgS.start, Own.nil (Le.refl _)⟩
    clear e1 e2 e6 e7
    rintro m ⟨e, ds⟩ H3 ⟨seen, L, vb, hm, e6, e10, e55, rfl, hR, hown⟩
    dsimp only at e6 e10 e55
    have mi : H3 q55 = some (.miter q7 clk seen clk) := hown.1 _ _ set_at
    have m7' : H3 q7 = some (.imap .i64 es clk) := hown.1 _ _ (by rw [hset_ne h557, hset_ne h107]; exact m7)
    refine CW.walk hX mixed d73 rfl ?_
    simp [e55]
    rw [nx_ptr]
    refine ⟨q7, clk, seen, clk, .i64, es, clk, mi, m7', hms.lt, Nat.le_refl _, fun hdone => ?_, fun en hen hns => ?_⟩
    · simp
      refine CW.walk hX mixed d73 rfl ?_
      simp
      exact ⟨q55, seen, L, vb, h1055, hq55, by simp [e6], by simp [e10], rfl, hR, hdone, hown⟩
    · obtain ⟨x, hx, hxn, hR2⟩ := hR.next hms hen hns
      have hfd := hms.find hen
      have hLn := hR2.len hms
      have hown2 := Own.setB (o := .miter q7 clk (seen ++ [en.2.1]) clk) hown
      generalize H3.set q55 _ = H4 at hown2 ⊢
      have mi4 : H4 q55 = some (.miter q7 clk (seen ++ [en.2.1]) clk) := hown2.1 _ _ set_at
      have m74 : H4 q7 = some (.imap .i64 es clk) := hown2.1 _ _ (by rw [hset_ne h557, hset_ne h107]; exact m7)
      have m104 : H4 q10 = some (.cells [ci hd, vt, vb]) := hown2.1 _ _ (by rw [hset_ne h1055]; exact set_at)
      simp
      refine CW.walk hX mixed d73 rfl ?_
      simp
      refine CW.block ?_
      refine CW.walk hX mixed d73 rfl ?_
      simp [e55, enK, mi4, m74]
      refine ⟨q7, clk, seen ++ [en.2.1], clk, ⟨rfl, rfl, rfl, rfl⟩, .i64, es, m74, en.1, en.2.1, en.2.2, en.2.1, by simp, hfd, ?_⟩
      rw [hx]
      refine CW.walk1 hX mixed d73 rfl ?_
      simp [e10, m104, cfill, -vcAppend]
      intro qx hqx
      refine (hown2.more hqx).append2 (ys := [[.int .i64 (x : Int)]]) (by simp) (by simp [ints, natL]; rw [List.length_append] at hLn; simp at hLn; omega) (src_one set_at rfl) fun v' H5 how5 _ => ?_
      have m105 : H5 q10 = some (.cells [ci hd, vt, vb]) := how5.1 _ _ (by rw [hset_ne h1055]; exact set_at)
      have how6 := how5
      rw [set_comm h1055] at how6
      have how7 := Own.setB (o := .cells [ci hd, vt, v']) how6
      rw [set_comm (Ne.symm h1055)] at how7
      have e9 : ints (natL L) ++ [[.int .i64 (x : Int)]] = ints (natL (L ++ [x])) := by simp [ints, natL]
      rw [e9] at how7
      obtain ⟨r', c', rfl⟩ := how5.isRef (by simp)
      simp [e10, m105]
      refine ⟨m - 1, ?_, seen ++ [en.2.1], L ++ [x], .ref r' 0 ((ints (natL L)).length + 1) c', ?_, by simp [e6], by simp [e10], by simp [e55], rfl, hR2, ?_⟩
      · rw [List.length_append] at hLn; simp at hLn; omega
      · rw [List.length_append] at hLn ⊢; simp at hLn ⊢; omega
      · simpa using how7
  rintro ⟨e, ds⟩ H3 ⟨q55, seen, L, vb, h1055, hq55, e6, e10, rfl, hR, hdone, hown⟩
  dsimp only at e6 e10
  have m10 : H3 q10 = some (.cells [ci hd, vt, vb]) := hown.1 _ _ (by rw [hset_ne h1055]; exact set_at)
  obtain ⟨hnd, hmem⟩ := hR.fin hms hdone
  have hm0 : MapS es clk u.blocks.length s := hms
  have hhd : hd ∈ L := (hmem hd).2 ⟨hh, (hin hd).2 (.inl rfl)⟩
  have hLn := hR.len hms
  obtain ⟨r, c, ex, rfl, hr0, hr, hxl, hcl⟩ : ∃ r c ex, vb = .ref r 0 (natL L).length c ∧ ((H2.set q10 (.cells [ci hd, vt, vb])).set q55 (.miter q7 clk seen clk)) r = none ∧ H3 r = some (.cells (nums (natL L) ex)) ∧ ex.length = c - (natL L).length ∧ (natL L).length ≤ c := by
    rcases hown.2.2 with ⟨_, h1⟩ | ⟨r, c, ex, h1, h2, h3, h4, h5⟩
    · have := congrArg List.length h1; rw [ints_len, natL_len] at this
      have h6 : L = [] := List.length_eq_zero_iff.1 (by simpa using this)
      rw [h6] at hhd; cases hhd
    · rw [ints_flat] at h3; rw [ints_len] at h1 h4 h5; exact ⟨r, c, ex, h1, h2, h3, by simpa using h4, h5⟩
  refine CW.walk hX mixed d73 rfl ?_
  simp [e10, m10]
  refine (sortAny_c hX (natL L) r c ex (by rw [natL_len]; omega) H3 hr).k ?_
  rintro x H4 ⟨rfl, L', hp, hsd, rfl⟩
  obtain rfl := sort_upto hp hsd hnd hmem
  have hr10 : q10 ≠ r := fun e => by subst e; rw [hset_ne h1055, set_at] at hr0; cases hr0
  simp
  refine CW.walk1 hX mixed d73 rfl ?_
  simp [e6, e10, hset_ne hr10, m10, hs1', hs2']
  have hlen : (natL L).length = (natL ((List.range u.blocks.length).filter s)).length := hp.length_eq.symm
  have n67 : q7 ≠ q6 := fun e => by subst e; rw [m6] at hB7; cases hB7
  have m62 : H2 q6 = some (.cells [ci 0, .nilsl, .nilsl]) := hl2 _ _ (by rw [hset_ne (Ne.symm n67)]; exact m6)
  have n610 : q6 ≠ q10 := fun e => by subst e; rw [m62] at hq10; cases hq10
  have n655 : q6 ≠ q55 := fun e => by subst e; rw [m62] at hq55; cases hq55
  have m63b : ((H2.set q10 (.cells [ci hd, vt, .ref r 0 (natL L).length c])).set q55 (.miter q7 clk seen clk)) q6 = some (.cells [ci 0, .nilsl, .nilsl]) := by rw [hset_ne n655, hset_ne n610]; exact m62
  have n6r : q6 ≠ r := fun e => by subst e; rw [m63b] at hr0; cases hr0
  have m63 := hown.1 _ _ m63b
  refine ⟨_, by rw [hset_ne n6r]; exact m63, by simp, ?_⟩
  have hHH2 : Le H H2 := (hle.trans (Le.set_new hB7)).trans hl2
  have hHb : Le H ((H2.set q10 (.cells [ci hd, vt, .ref r 0 (natL L).length c])).set q55 (.miter q7 clk seen clk)) := (hHH2.put (hHH2.none hq10)).put (hHH2.none hq55)
  have hLB : loopB N u.blocks.length hd T = (List.range u.blocks.length).filter s := by
    simp only [loopB]
    congr 1
    funext x
    rw [Bool.eq_iff_iff]
    simp [hin x]
  rw [hLB]
  refine ⟨?_, fun e he => by simp only [ints, List.mem_map] at he; obtain ⟨_, _, rfl⟩ := he; rfl, .inr ⟨r, c, ex, ?_, hHb.none hr0, ?_, ?_, ?_⟩⟩
  · exact ((hHb.trans hown.1).put (hHb.none hr0)).put hq6
  · rw [ints_len, hlen]
  · rw [hset_ne (Ne.symm n6r), set_at, ints_flat]
  · rw [ints_len, ← hlen]; simpa using hxl
  · rw [ints_len, ← hlen]; exact hcl
end Go.Cl.Gd
set_option linter.unusedSimpArgs false
set_option linter.unusedVariables false
namespace Go.Cl.Gd
open Go.Proofs
variable {W : World} {G : Nat → CV}
set_option maxRecDepth 8000
set_option maxHeartbeats 1000000
/-- A value that is one cell. -/
def OC (v : CV) : Prop := v.stor = true ∧ v.cells = [v]
theorem SlF.oc {H : Hp} {v : CV} {l : List Int} (h : SlF H v l) : OC v := by
  rcases h with ⟨rfl, _⟩ | ⟨r, c, cs, rfl, _⟩ <;> exact ⟨rfl, rfl⟩
def cmpN (a b : Int) : Int := if a < b then -1 else if b < a then 1 else 0
theorem cmpInt_c (hX : CxOk (cx W G)) (a b : Int) (H : Hp) : CC Tryz.prog W 76 [ci a, ci b] H fun x H' => x = .ret (ci (cmpN a b)) ∧ H' = H := by
  refine CC.of_cw hX Tryz.func76 rfl rfl (Nat.le_of_ble_eq_true rfl) ?_
  refine CW.walk hX mixed d76 rfl ?_
  simp
  refine CW.walk hX mixed d76 rfl ?_
  simp
  refine (isNaN_c hX a H).k ?_
  rintro z H1 ⟨rfl, rfl⟩
  simp
  refine CW.walk hX mixed d76 rfl ?_
  simp
  refine (isNaN_c hX b H1).k ?_
  rintro z H2 ⟨rfl, rfl⟩
  simp
  refine CW.walk hX mixed d76 rfl ?_
  simp
  refine CW.walk hX mixed d76 rfl ?_
  simp
  by_cases h1 : a < b
  · refine CW.walk hX mixed d76 rfl ?_
    simp [h1, cmpN]
  refine CW.walk hX mixed d76 rfl ?_
  simp [h1]
  by_cases h2 : b < a
  · refine CW.walk hX mixed d76 rfl ?_
    simp [h1, h2, cmpN]
  refine CW.walk hX mixed d76 rfl ?_
  simp [h2]
  refine CW.walk1 hX mixed d76 rfl ?_
  simp [h1, h2, cmpN]
theorem cmpL_c (hX : CxOk (cx W G)) {a b : Int} {x1 x2 y1 y2 : CV} (o1 : OC x1) (o2 : OC x2) (o3 : OC y1) (o4 : OC y2) (H : Hp) : CC Tryz.prog W 75 [.agg [ci a, x1, x2], .agg [ci b, y1, y2]] H fun x H' => x = .ret (ci (cmpN a b)) ∧ H' = H := by
  obtain ⟨s1, c1⟩ := o1
  obtain ⟨s2, c2⟩ := o2
  obtain ⟨s3, c3⟩ := o3
  obtain ⟨s4, c4⟩ := o4
  refine CC.shrink ?_
  refine CC.of_cw hX Tryz.func75 rfl rfl (Nat.le_of_ble_eq_true rfl) ?_
  refine CW.walk hX mixed d75 rfl ?_
  simp [s1, s2, s3, s4, c1, c2, c3, c4]
  intro q2 hq2 q3 h32 h23 hq3
  refine CW.walk1 hX mixed d75 rfl ?_
  simp [hset_ne, h32, h23]
  refine (cmpInt_c hX a b _).k ?_
  rintro z H1 ⟨rfl, rfl⟩
  simp
  exact (Le.set_new hq2).put hq3
/-- The cells of loops, their heads rising. -/
structure DataR (H : Hp) (r m : Nat) (cs : List CV) (hs : Nat → Int) : Prop where
  hr : H r = some (.cells cs)
  hl : m * 3 ≤ cs.length
  hc : ∀ k, k < m → ∃ vt vb, OC vt ∧ OC vb ∧ (cs.drop (k * 3)).take 3 = [ci (hs k), vt, vb]
  up : ∀ i k, i < k → k < m → hs i < hs k
structure sfO (H : Hp) (r m c : Nat) (d j : Nat) (s' : CA) (H' : Hp) : Prop where
  ex : ∃ i i8 : Nat, i ≤ max m 1 ∧ 1 ≤ i ∧ j = max m 1 - i ∧ s'.env 0 = .ref r 0 m c ∧ s'.env 1 = ci 0 ∧ s'.env 2 = .int .i64 m ∧ s'.env 3 = .func (.func 75) [] [] ∧ s'.env 8 = .int .i64 i8 ∧ i8 + d = i ∧ s'.ds = [] ∧ H' = H
structure sfI (H : Hp) (r m c i : Nat) (j : Nat) (s' : CA) (H' : Hp) : Prop where
  ex : s'.env 0 = .ref r 0 m c ∧ s'.env 1 = ci 0 ∧ s'.env 2 = .int .i64 m ∧ s'.env 3 = .func (.func 75) [] [] ∧ s'.env 8 = .int .i64 i ∧ s'.env 9 = .int .i64 i ∧ s'.ds = [] ∧ H' = H
theorem insF_c (hX : CxOk (cx W G)) {H : Hp} {r m c : Nat} {cs : List CV} {hs : Nat → Int} (hd : DataR H r m cs hs) (hm : m ≤ 100000) : CC Tryz.prog W 113 [.ref r 0 m c, ci 0, .int .i64 m, .func (.func 75) [] []] H fun x H' => x = .ret (.tuple []) ∧ H' = H := by
  refine CC.of_cw hX Tryz.func113 rfl rfl (Nat.le_of_ble_eq_true rfl) ?_
  refine CW.walk hX mixed d113 rfl ?_
  simp
  refine CW.block ?_
  refine CW.loop (sfO H r m c 0) ?_ (m := max m 1 - 1) ⟨1, 1, by omega, by omega, rfl, by simp, by simp, by simp, by simp, by simp; exact wrapI (by omega) (by omega), rfl, rfl, rfl⟩
  rintro j ⟨e, ds⟩ H1 ⟨i, i8, hi, hi1, rfl, e0, e1, e2, e3, e8, hi8, rfl, rfl⟩
  obtain rfl : i = i8 := by omega
  dsimp only at e0 e1 e2 e3 e8
  by_cases him : i < m
  rotate_left
  · refine CW.walk hX mixed d113 rfl ?_
    simp [e2, e8, him]
  refine CW.walk hX mixed d113 rfl ?_
  simp [e2, e8, him]
  refine CW.cut (sfO H1 r m c 1 (max m 1 - (i + 1))) ?_ ?_
  · refine CW.block ?_
    refine CW.walk hX mixed d113 rfl ?_
    simp [e8]
    refine CW.block ?_
    refine CW.loop (sfI H1 r m c i) ?_ (m := 0) ⟨by simp [e0], by simp [e1], by simp [e2], by simp [e3], by simp [e8], by simp, rfl, rfl⟩
    clear e0 e1 e2 e3 e8
    clear e
    rintro j ⟨e, ds⟩ H2 ⟨e0, e1, e2, e3, e8, e9, rfl, rfl⟩
    dsimp only at e0 e1 e2 e3 e8 e9
    obtain ⟨x1, x2, o1, o2, t1⟩ := hd.hc i him
    obtain ⟨y1, y2, o3, o4, t2⟩ := hd.hc (i - 1) (by omega)
    have hup := hd.up (i - 1) i (by omega) him
    have hr := hd.hr
    have hl := hd.hl
    have hw : IntKind.i64.wrap ((i : Int) - 1) = ((i - 1 : Nat) : Int) := by rw [wrapI (by omega) (by omega)]; omega
    refine CW.walk hX mixed d113 rfl ?_
    simp [d113, e0, e1, e3, e8, e9, him, hw, hr, show 0 < i by omega, show i - 1 < m by omega]
    refine ⟨by omega, by omega, ?_⟩
    rw [t1, t2]
    refine (cmpL_c hX o1 o2 o3 o4 H2).k ?_
    rintro z H3 ⟨rfl, rfl⟩
    have hn : ¬ cmpN (hs i) (hs (i - 1)) < 0 := by simp only [cmpN]; rw [if_neg (by omega), if_pos hup]; omega
    simp [hn]
    exact ⟨i + 1, i, by omega, by omega, rfl, by simp [e0], by simp [e1], by simp [e2], by simp [e3], by simp [e8], rfl, rfl, rfl⟩
  clear e0 e1 e2 e3 e8
  clear e
  rintro ⟨e, ds⟩ H2 ⟨i2, i8, hi2, hi21, hij, e0, e1, e2, e3, e8, hi8, rfl, rfl⟩
  dsimp only at e0 e1 e2 e3 e8
  obtain rfl : i2 = i + 1 := by omega
  obtain rfl : i = i8 := by omega
  refine CW.walk1 hX mixed d113 rfl ?_
  simp [e8]
  exact ⟨max m 1 - (i + 1), by omega, i + 1, i + 1, by omega, by omega, rfl, by simp [e0], by simp [e1], by simp [e2], by simp [e3], by simp; exact wrapI (by omega) (by omega), rfl, rfl, rfl⟩
/-- One load of a loop. -/
theorem order2_c (hX : CxOk (cx W G)) {H : Hp} {r m c q : Nat} {cs : List CV} {hs : Nat → Int} (hd : DataR H r m cs hs) (hm : m ≤ 100000) {a b : Nat} (hab : a < b) (hb : b < m) : CC Tryz.prog W 148 [.ref r 0 m c, .int .i64 a, .int .i64 b, .ptr q 0, .func (.func 75) [] []] H fun x H' => x = .ret (.tuple [.int .i64 a, .int .i64 b]) ∧ H' = H := by
  obtain ⟨x1, x2, o1, o2, t1⟩ := hd.hc b hb
  obtain ⟨y1, y2, o3, o4, t2⟩ := hd.hc a (by omega)
  have hup := hd.up a b hab hb
  have hr := hd.hr
  have hl := hd.hl
  refine CC.of_cw hX Tryz.func148 rfl rfl (Nat.le_of_ble_eq_true rfl) ?_
  refine CW.walk hX mixed d148 rfl ?_
  simp
  refine CW.walk hX mixed d148 rfl ?_
  simp [d148, hb, hr, show a < m by omega]
  refine ⟨by omega, by omega, ?_⟩
  rw [t1, t2]
  refine (cmpL_c hX o1 o2 o3 o4 H).k ?_
  rintro z H3 ⟨rfl, rfl⟩
  have hn : ¬ cmpN (hs b) (hs a) < 0 := by simp only [cmpN]; rw [if_neg (by omega), if_pos hup]; omega
  simp [hn]
  refine CW.walk1 hX mixed d148 rfl ?_
  simp
theorem median_c (hX : CxOk (cx W G)) {H : Hp} {r m c q : Nat} {cs : List CV} {hs : Nat → Int} (hd : DataR H r m cs hs) (hm : m ≤ 100000) {a b d : Nat} (hab : a < b) (hbd : b < d) (hdm : d < m) : CC Tryz.prog W 143 [.ref r 0 m c, .int .i64 a, .int .i64 b, .int .i64 d, .ptr q 0, .func (.func 75) [] []] H fun x H' => x = .ret (.int .i64 b) ∧ H' = H := by
  refine CC.of_cw hX Tryz.func143 rfl rfl (Nat.le_of_ble_eq_true rfl) ?_
  refine CW.walk hX mixed d143 rfl ?_
  simp
  refine CW.walk hX mixed d143 rfl ?_
  simp
  refine (order2_c hX hd hm hab (by omega)).k ?_
  rintro x H1 ⟨rfl, rfl⟩
  simp
  refine CW.walk hX mixed d143 rfl ?_
  simp
  refine (order2_c hX hd hm hbd hdm).k ?_
  rintro x H1 ⟨rfl, rfl⟩
  simp
  refine CW.walk hX mixed d143 rfl ?_
  simp
  refine (order2_c hX hd hm hab (by omega)).k ?_
  rintro x H1 ⟨rfl, rfl⟩
  simp
  refine CW.walk1 hX mixed d143 rfl ?_
  simp
theorem medAdj_c (hX : CxOk (cx W G)) {H : Hp} {r m c q : Nat} {cs : List CV} {hs : Nat → Int} (hd : DataR H r m cs hs) (hm : m ≤ 100000) {a : Nat} (ha : 0 < a) (ham : a + 1 < m) : CC Tryz.prog W 142 [.ref r 0 m c, .int .i64 a, .ptr q 0, .func (.func 75) [] []] H fun x H' => x = .ret (.int .i64 a) ∧ H' = H := by
  refine CC.of_cw hX Tryz.func142 rfl rfl (Nat.le_of_ble_eq_true rfl) ?_
  refine CW.walk hX mixed d142 rfl ?_
  simp
  refine CW.walk1 hX mixed d142 rfl ?_
  have hw1 : IntKind.i64.wrap ((a : Int) - 1) = ((a - 1 : Nat) : Int) := by rw [wrapI (by omega) (by omega)]; omega
  have hw2 : IntKind.i64.wrap ((a : Int) + 1) = ((a + 1 : Nat) : Int) := by rw [wrapI (by omega) (by omega)]; omega
  simp [hw1, hw2]
  have h := median_c (c := c) (q := q) hX hd hm (a := a - 1) (b := a) (d := a + 1) (by omega) (by omega) ham
  rw [show ((a + 1 : Nat) : Int) = (a : Int) + 1 by omega] at h
  refine h.k ?_
  rintro x H1 ⟨rfl, rfl⟩
  simp
structure pvM (r m c q k : Nat) (H1 : Hp) (s' : CA) (H' : Hp) : Prop where
  ex : s'.env 0 = .ref r 0 m c ∧ s'.env 3 = .func (.func 75) [] [] ∧ s'.env 11 = .ptr q 0 ∧ s'.env 12 = .int .i64 k ∧ s'.env 13 = .int .i64 ((k : Int) * 2) ∧ s'.env 14 = .int .i64 ((k : Int) * 3) ∧ s'.ds = [] ∧ H' = H1
structure pvN (q k : Nat) (H1 : Hp) (s' : CA) (H' : Hp) : Prop where
  ex : s'.env 11 = .ptr q 0 ∧ s'.env 13 = .int .i64 ((k : Int) * 2) ∧ s'.ds = [] ∧ H' = H1
theorem pivot_c (hX : CxOk (cx W G)) {H : Hp} {r m c : Nat} {cs : List CV} {hs : Nat → Int} (hd : DataR H r m cs hs) (hm : m ≤ 100000) (h12 : 12 < m) : CC Tryz.prog W 116 [.ref r 0 m c, ci 0, .int .i64 m, .func (.func 75) [] []] H fun x H' => (∃ z : Int, x = .ret (.tuple [ci z, ci 1])) ∧ H' = H := by
  refine CC.shrink ?_
  refine CC.of_cw hX Tryz.func116 rfl rfl (Nat.le_of_ble_eq_true rfl) ?_
  have hw0 : IntKind.i64.wrap (m : Int) = m := wrapI (by omega) (by omega)
  refine CW.walk hX mixed d116 rfl ?_
  simp
  refine CW.walk hX mixed d116 rfl ?_
  simp [hw0]
  refine CW.walk hX mixed d116 rfl ?_
  simp
  intro q hq
  obtain ⟨k, hk, hk1, hk2⟩ : ∃ k : Nat, (m : Int) / 4 = k ∧ 4 * k ≤ m ∧ m < 4 * k + 4 := ⟨m / 4, by omega, by omega, by omega⟩
  have w1 : IntKind.i64.wrap (k : Int) = k := wrapI (by omega) (by omega)
  have w2 : IntKind.i64.wrap ((k : Int) * 2) = (k : Int) * 2 := wrapI (by omega) (by omega)
  have w3 : IntKind.i64.wrap ((k : Int) * 3) = (k : Int) * 3 := wrapI (by omega) (by omega)
  obtain ⟨H1, hH1⟩ : ∃ H1, H.set q (.cells [ci 0]) = H1 := ⟨_, rfl⟩
  have hle : Le H H1 := by rw [← hH1]; exact Le.set_new hq
  have mq : H1 q = some (.cells [ci 0]) := by rw [← hH1]; exact set_at
  have hd1 : DataR H1 r m cs hs := ⟨hle _ _ hd.hr, hd.hl, hd.hc, hd.up⟩
  have ma := fun a h1 h2 => medAdj_c (c := c) (q := q) hX hd1 hm (a := a) h1 h2
  have m1 := ma k (by omega) (by omega)
  have m2 := ma (k * 2) (by omega) (by omega)
  have m3 := ma (k * 3) (by omega) (by omega)
  have mm := median_c (c := c) (q := q) hX hd1 hm (a := k) (b := k * 2) (d := k * 3) (by omega) (by omega) (by omega)
  have c2 : ((k * 2 : Nat) : Int) = (k : Int) * 2 := by omega
  have c3 : ((k * 3 : Nat) : Int) = (k : Int) * 3 := by omega
  rw [c2] at m2 mm
  rw [c3] at m3 mm
  refine CW.walk hX mixed d116 rfl ?_
  simp [hH1, hk, w1, w2, w3]
  refine CW.walk hX mixed d116 rfl ?_
  simp [hk, w1, w2, w3]
  refine CW.walk hX mixed d116 rfl ?_
  simp [hk, w1, w2, w3]
  refine CW.cut (pvN q k H1) ?_ ?_
  · refine CW.walk hX mixed d116 rfl ?_
    simp [show (8 : Int) ≤ m by omega]
    refine CW.condE hX (b := true) (by simp) (fun _ => ?_) (fun h => by cases h)
    refine CW.cut (pvM r m c q k H1) ?_ ?_
    · by_cases h50 : 50 ≤ m
      · refine CW.walk hX mixed d116 rfl ?_
        simp [show (50 : Int) ≤ m by omega]
        refine CW.condE hX (b := true) (by simp) (fun _ => ?_) (fun h => by cases h)
        refine CW.walk hX mixed d116 rfl ?_
        simp
        refine m1.k ?_
        rintro x H2 ⟨rfl, rfl⟩
        simp
        refine CW.walk hX mixed d116 rfl ?_
        simp
        refine m2.k ?_
        rintro x H2 ⟨rfl, rfl⟩
        simp
        refine CW.walk1 hX mixed d116 rfl ?_
        simp
        refine m3.k ?_
        rintro x H2 ⟨rfl, rfl⟩
        simp
        exact ⟨by simp, by simp, by simp, by simp, by simp, by simp, rfl, rfl⟩
      · refine CW.walk hX mixed d116 rfl ?_
        simp [show ¬ (50 : Int) ≤ m by omega]
        refine CW.condE hX (b := false) (by simp) (fun h => by cases h) (fun _ => ?_)
        refine CW.walk1 hX mixed d116 rfl ?_
        simp
        exact ⟨by simp, by simp, by simp, by simp, by simp, by simp, rfl, rfl⟩
    rintro ⟨e, ds⟩ H2 ⟨e0, e3, e11, e12, e13, e14, rfl, rfl⟩
    dsimp only at e0 e3 e11 e12 e13 e14
    refine CW.walk1 hX mixed d116 rfl ?_
    simp [e0, e3, e11, e12, e13, e14]
    refine mm.k ?_
    rintro x H3 ⟨rfl, rfl⟩
    simp
    exact ⟨by simp [e11], by simp, rfl, rfl⟩
  rintro ⟨e, ds⟩ H2 ⟨e11, e13, rfl, rfl⟩
  dsimp only at e11 e13
  refine CW.walk hX mixed d116 rfl ?_
  simp [e11, mq]
  refine CW.block ?_
  refine CW.walk hX mixed d116 rfl ?_
  simp
  refine CW.condE hX (b := true) (by simp) (fun _ => ?_) (fun h => by cases h)
  refine CW.walk hX mixed d116 rfl ?_
  simp [e13]
  refine CW.walk1 hX mixed d116 rfl ?_
  simp
  exact hle
structure pmO (H : Hp) (r m c : Nat) (s' : CA) (H' : Hp) : Prop where
  ex : s'.env 0 = .ref r 0 m c ∧ s'.env 2 = .int .i64 m ∧ s'.env 3 = .func (.func 75) [] [] ∧ s'.env 9 = ci 1 ∧ s'.env 10 = ci 0 ∧ s'.ds = [] ∧ H' = H
structure pmI (H : Hp) (r m c : Nat) (j : Nat) (s' : CA) (H' : Hp) : Prop where
  ex : ∃ i : Nat, j = m - i ∧ i ≤ m ∧ 1 ≤ i ∧ s'.env 0 = .ref r 0 m c ∧ s'.env 2 = .int .i64 m ∧ s'.env 3 = .func (.func 75) [] [] ∧ s'.env 9 = .int .i64 i ∧ s'.env 10 = ci 0 ∧ s'.ds = [] ∧ H' = H
theorem partIns_c (hX : CxOk (cx W G)) {H : Hp} {r m c : Nat} {cs : List CV} {hs : Nat → Int} (hd : DataR H r m cs hs) (hm : m ≤ 100000) (h12 : 12 < m) : CC Tryz.prog W 118 [.ref r 0 m c, ci 0, .int .i64 m, .func (.func 75) [] []] H fun x H' => x = .ret (.bool true) ∧ H' = H := by
  refine CC.of_cw hX Tryz.func118 rfl rfl (Nat.le_of_ble_eq_true rfl) ?_
  have hr := hd.hr
  have hl := hd.hl
  refine CW.walk hX mixed d118 rfl ?_
  simp
  have hw1 : IntKind.i64.wrap (1 : Int) = 1 := wrapI (by omega) (by omega)
  refine CW.walk hX mixed d118 rfl ?_
  simp [hw1]
  refine CW.walk hX mixed d118 rfl ?_
  simp
  refine CW.loop (fun _ => pmO H r m c) ?_ (m := 0) ⟨by simp, by simp, by simp, by simp, by simp, rfl, rfl⟩
  rintro _ ⟨e, ds⟩ H1 ⟨e0, e2, e3, e9, e10, rfl, rfl⟩
  dsimp only at e0 e2 e3 e9 e10
  refine CW.walk hX mixed d118 rfl ?_
  simp [e10]
  refine CW.cut (fun _ _ => False) ?_ (fun _ _ h => h.elim)
  refine CW.block ?_
  refine CW.cut (fun s' H' => s'.env 2 = .int .i64 m ∧ s'.env 9 = .int .i64 m ∧ s'.ds = [] ∧ H' = H1) ?_ ?_
  · refine CW.block ?_
    refine CW.loop (pmI H1 r m c) ?_ (m := m - 1) ⟨1, rfl, by omega, by omega, by simp [e0], by simp [e2], by simp [e3], by simp [e9], by simp [e10], rfl, rfl⟩
    clear e0 e2 e3 e9 e10
    clear e
    rintro _ ⟨e, ds⟩ H2 ⟨i, rfl, hi, hi1, e0, e2, e3, e9, e10, rfl, rfl⟩
    dsimp only at e0 e2 e3 e9 e10
    by_cases him : i < m
    rotate_left
    · obtain rfl : i = m := by omega
      refine CW.walk hX mixed d118 rfl ?_
      simp [d118, e2, e9]
    obtain ⟨x1, x2, o1, o2, t1⟩ := hd.hc i him
    obtain ⟨y1, y2, o3, o4, t2⟩ := hd.hc (i - 1) (by omega)
    have hup := hd.up (i - 1) i (by omega) him
    have hw : IntKind.i64.wrap ((i : Int) - 1) = ((i - 1 : Nat) : Int) := by rw [wrapI (by omega) (by omega)]; omega
    refine CW.walk hX mixed d118 rfl ?_
    simp [d118, e0, e2, e3, e9, him, hw, hr, show i - 1 < m by omega]
    refine ⟨by omega, by omega, ?_⟩
    rw [t1, t2]
    refine (cmpL_c hX o1 o2 o3 o4 H2).k ?_
    rintro z H3 ⟨rfl, rfl⟩
    have hn : ¬ cmpN (hs i) (hs (i - 1)) < 0 := by simp only [cmpN]; rw [if_neg (by omega), if_pos hup]; omega
    simp [hn]
    refine CW.block ?_
    refine CW.walk1 hX mixed d118 rfl ?_
    simp [e9]
    exact ⟨m - (i + 1), by omega, i + 1, rfl, by omega, by omega, by simp [e0], by simp [e2], by simp [e3], by simp; exact wrapI (by omega) (by omega), by simp [e10], rfl, rfl⟩
  rintro ⟨e', ds⟩ H2 ⟨e2', e9', rfl, rfl⟩
  dsimp only at e2' e9'
  refine CW.walk hX mixed d118 rfl ?_
  simp [e2', e9']
theorem pdqF_c (hX : CxOk (cx W G)) {H : Hp} {r m c : Nat} {cs : List CV} {hs : Nat → Int} (hd : DataR H r m cs hs) (hm : m ≤ 100000) (lim : Int) (hlim : 0 < m → lim ≠ 0) : CC Tryz.prog W 95 [.ref r 0 m c, ci 0, .int .i64 m, ci lim, .func (.func 75) [] []] H fun x H' => x = .ret (.tuple []) ∧ H' = H := by
  refine CC.of_cw hX Tryz.func95 rfl rfl (Nat.le_of_ble_eq_true rfl) ?_
  refine CW.walk hX mixed d95 rfl ?_
  simp
  refine CW.walk hX mixed d95 rfl ?_
  simp
  refine CW.block ?_
  refine CW.loop (fun j s' H' => s'.env 0 = .ref r 0 m c ∧ s'.env 1 = ci 0 ∧ s'.env 2 = .int .i64 m ∧ s'.env 3 = ci lim ∧ s'.env 4 = .func (.func 75) [] [] ∧ s'.env 10 = .bool true ∧ s'.env 11 = .bool true ∧ s'.ds = [] ∧ H' = H) ?_ (m := 0) ⟨by simp, by simp, by simp, by simp, by simp, by simp, by simp, rfl, rfl⟩
  rintro j ⟨e, ds⟩ H1 ⟨e0, e1, e2, e3, e4, e10, e11, rfl, rfl⟩
  dsimp only at e0 e1 e2 e3 e4 e10 e11
  refine CW.block ?_
  refine CW.walk hX mixed d95 rfl ?_
  have hw : IntKind.i64.wrap (m : Int) = m := wrapI (by omega) (by omega)
  simp [e1, e2, hw]
  by_cases h12 : m ≤ 12
  · refine CW.walk hX mixed d95 rfl ?_
    simp [e0, e1, e2, e4, show (m : Int) ≤ 12 by omega]
    refine (insF_c hX hd hm).k ?_
    rintro x H2 ⟨rfl, rfl⟩
    simp
  have hl0 := hlim (by omega)
  refine CW.walk hX mixed d95 rfl ?_
  simp [show ¬ (m : Int) ≤ 12 by omega]
  refine CW.walk hX mixed d95 rfl ?_
  simp [e3, hl0]
  refine CW.walk hX mixed d95 rfl ?_
  simp [e10]
  refine CW.walk hX mixed d95 rfl ?_
  simp [e0, e1, e2, e4]
  refine (pivot_c hX hd hm (by omega)).k ?_
  rintro x H2 ⟨⟨z, rfl⟩, rfl⟩
  simp
  refine CW.walk hX mixed d95 rfl ?_
  simp
  refine CW.walk hX mixed d95 rfl ?_
  simp [e10, e11]
  rw [e0, e1, e2, e4]
  refine (partIns_c hX hd hm (by omega)).k ?_
  rintro x H3 ⟨rfl, rfl⟩
  simp
theorem len64b_c (hX : CxOk (cx W G)) (n : Nat) (hn : n ≤ 80) (H : Hp) : CC Tryz.prog W 122 [.int .u64 n] H fun x H' => (∃ m : Int, x = .ret (ci m) ∧ (0 < n → m ≠ 0)) ∧ H' = H := by
  refine CC.of_cw hX Tryz.func122 rfl rfl (Nat.le_of_ble_eq_true rfl) ?_
  refine CW.walk hX mixed d122 rfl ?_
  simp
  refine CW.walk hX mixed d122 rfl ?_
  simp [show ¬ (4294967296 : Int) ≤ n by omega]
  refine CW.walk hX mixed d122 rfl ?_
  simp [show ¬ (65536 : Int) ≤ n by omega]
  refine CW.walk hX mixed d122 rfl ?_
  simp [show ¬ (256 : Int) ≤ n by omega]
  refine CW.walk1 hX mixed d122 rfl ?_
  simp
  obtain ⟨k, rfl⟩ : ∃ k : Fin 81, k.val = n := ⟨⟨n, by omega⟩, rfl⟩
  clear hn
  revert k
  decide +kernel
theorem lenb_c (hX : CxOk (cx W G)) (n : Nat) (hn : n ≤ 80) (H : Hp) : CC Tryz.prog W 96 [.int .u64 n] H fun x H' => (∃ m : Int, x = .ret (ci m) ∧ (0 < n → m ≠ 0)) ∧ H' = H := by
  refine CC.of_ev hX mixed d96 Tryz.func96 rfl rfl (Nat.le_of_ble_eq_true rfl) d96_ok ?_
  simp [Tryz.f96, d96]
  refine (len64b_c hX n hn H).k ?_
  rintro x H1 ⟨⟨m, rfl, hm⟩, rfl⟩
  simp
  exact hm
theorem insFnil_c (hX : CxOk (cx W G)) (H : Hp) : CC Tryz.prog W 113 [.nilsl, ci 0, ci 0, .func (.func 75) [] []] H fun x H' => x = .ret (.tuple []) ∧ H' = H := by
  refine CC.of_cw hX Tryz.func113 rfl rfl (Nat.le_of_ble_eq_true rfl) ?_
  refine CW.walk hX mixed d113 rfl ?_
  simp
  refine CW.block ?_
  refine CW.loop (fun j s' H' => s'.env 2 = ci 0 ∧ s'.env 8 = ci 1 ∧ s'.ds = [] ∧ H' = H) ?_ (m := 0) ⟨by simp, by simp; exact wrapI (by omega) (by omega), rfl, rfl⟩
  rintro j ⟨e, ds⟩ H1 ⟨e2, e8, rfl, rfl⟩
  dsimp only at e2 e8
  refine CW.walk hX mixed d113 rfl ?_
  simp [e2, e8]
theorem pdqFnil_c (hX : CxOk (cx W G)) (lim : Int) (H : Hp) : CC Tryz.prog W 95 [.nilsl, ci 0, ci 0, ci lim, .func (.func 75) [] []] H fun x H' => x = .ret (.tuple []) ∧ H' = H := by
  refine CC.of_cw hX Tryz.func95 rfl rfl (Nat.le_of_ble_eq_true rfl) ?_
  refine CW.walk hX mixed d95 rfl ?_
  simp
  refine CW.walk hX mixed d95 rfl ?_
  simp
  refine CW.block ?_
  refine CW.loop (fun j s' H' => s'.env 0 = .nilsl ∧ s'.env 1 = ci 0 ∧ s'.env 2 = ci 0 ∧ s'.env 4 = .func (.func 75) [] [] ∧ s'.ds = [] ∧ H' = H) ?_ (m := 0) ⟨by simp, by simp, by simp, by simp, rfl, rfl⟩
  rintro j ⟨e, ds⟩ H1 ⟨e0, e1, e2, e4, rfl, rfl⟩
  dsimp only at e0 e1 e2 e4
  refine CW.block ?_
  refine CW.walk hX mixed d95 rfl ?_
  have hw : IntKind.i64.wrap (0 : Int) = 0 := wrapI (by omega) (by omega)
  simp [e1, e2, hw]
  refine CW.walk hX mixed d95 rfl ?_
  simp [e0, e1, e2, e4]
  refine (insFnil_c hX H1).k ?_
  rintro x H2 ⟨rfl, rfl⟩
  simp
theorem sortFd_c (hX : CxOk (cx W G)) {H : Hp} {r m c : Nat} {cs : List CV} {hs : Nat → Int} (hd : DataR H r m cs hs) (hm : m ≤ 80) : CC Tryz.prog W 74 [.ref r 0 m c, .func (.func 75) [] []] H fun x H' => x = .ret (.tuple []) ∧ H' = H := by
  refine CC.of_cw hX Tryz.func74 rfl rfl (Nat.le_of_ble_eq_true rfl) ?_
  refine CW.walk hX mixed d74 rfl ?_
  simp
  refine CW.walk1 hX mixed d74 rfl ?_
  simp
  rw [show IntKind.u64.wrap (m : Int) = ((m : Nat) : Int) from u64_wrap (by omega) (by omega)]
  refine (lenb_c hX m hm H).k ?_
  rintro x H1 ⟨⟨l, rfl, hl⟩, rfl⟩
  simp
  refine (pdqF_c hX hd (by omega) l hl).k ?_
  rintro x H2 ⟨rfl, rfl⟩
  simp
theorem sortFnil_c (hX : CxOk (cx W G)) (H : Hp) : CC Tryz.prog W 74 [.nilsl, .func (.func 75) [] []] H fun x H' => x = .ret (.tuple []) ∧ H' = H := by
  refine CC.of_cw hX Tryz.func74 rfl rfl (Nat.le_of_ble_eq_true rfl) ?_
  refine CW.walk hX mixed d74 rfl ?_
  simp
  refine CW.walk1 hX mixed d74 rfl ?_
  simp
  rw [show IntKind.u64.wrap 0 = (((0 : Nat) : Nat) : Int) from u64_wrap (by omega) (by omega)]
  refine (lenb_c hX 0 (by omega) H).k ?_
  rintro x H1 ⟨⟨l, rfl, hl⟩, rfl⟩
  simp
  refine (pdqFnil_c hX l H1).k ?_
  rintro x H2 ⟨rfl, rfl⟩
  simp
end Go.Cl.Gd
set_option linter.unusedSimpArgs false
set_option linter.unusedVariables false
namespace Go.Cl.Gd
open Go.Proofs
variable {W : World} {G : Nat → CV}
set_option maxRecDepth 8000
set_option maxHeartbeats 1000000
/-- A list of numbers, in another block than v's. -/
def SlA (v : CV) (H : Hp) (w : CV) (l : List Int) : Prop := SlF H w l ∧ ∀ q n c n' c', w = .ref q 0 n c → v ≠ .ref q 0 n' c'
/-- Two lists, one by one. -/
inductive F2 {α β : Type} (R : α → β → Prop) : List α → List β → Prop
  | nil : F2 R [] []
  | cons {a : α} {b : β} {l : List α} {m : List β} (h : R a b) (t : F2 R l m) : F2 R (a :: l) (b :: m)
theorem F2.imp {α β : Type} {R S : α → β → Prop} {l : List α} {m : List β} (h : F2 R l m) (k : ∀ a b, R a b → S a b) : F2 S l m := by
  induction h with
  | nil => exact .nil
  | cons h _ ih => exact .cons (k _ _ h) ih
theorem f2_append {α β : Type} {R : α → β → Prop} {l : List α} {m : List β} {a : α} {b : β} (h : F2 R l m) (k : R a b) : F2 R (l ++ [a]) (m ++ [b]) := by
  induction h with
  | nil => exact .cons k .nil
  | cons h _ ih => exact .cons h ih
theorem f2_len {α β : Type} {R : α → β → Prop} {l : List α} {m : List β} (h : F2 R l m) : l.length = m.length := by
  induction h with
  | nil => rfl
  | cons h _ ih => simp [ih]
theorem f2_get {α β : Type} {R : α → β → Prop} {l : List α} {m : List β} (h : F2 R l m) : ∀ {i : Nat} {b : β}, m[i]? = some b → ∃ a, l[i]? = some a ∧ R a b := by
  induction h with
  | nil => intro i b h; simp at h
  | cons h _ ih =>
    intro i b k
    rcases i with _ | i
    · simp at k; subst k; exact ⟨_, rfl, h⟩
    · simp only [List.getElem?_cons_succ] at k ⊢
      exact ih k
def LpRow (v : CV) (H : Hp) (x : List CV) (l : Nat × List Nat × List Nat) : Prop := ∃ vt vb, x = [ci l.1, vt, vb] ∧ SlA v H vt (natL l.2.1) ∧ SlA v H vb (natL l.2.2)
theorem SlA.mono {v : CV} {H H' : Hp} {w : CV} {l : List Int} (h : SlA v H w l) (hl : Le H H') : SlA v H' w l := ⟨h.1.mono hl, h.2⟩
theorem LpRow.mono {v : CV} {H H' : Hp} {x : List CV} {l : Nat × List Nat × List Nat} (h : LpRow v H x l) (hl : Le H H') : LpRow v H' x l := by
  obtain ⟨vt, vb, h1, h2, h3⟩ := h
  exact ⟨vt, vb, h1, h2.mono hl, h3.mono hl⟩
theorem SlA.kept {v v' : CV} {H H' : Hp} {w : CV} {l : List Int} (h : SlA v H w l) (kp : ∀ q o, H q = some o → (∀ n c, v ≠ .ref q 0 n c) → H' q = some o ∧ ∀ n c, v' ≠ .ref q 0 n c) : SlA v' H' w l := by
  obtain ⟨h1, h2⟩ := h
  rcases h1 with ⟨rfl, hl⟩ | ⟨r, c, cs, rfl, hr, hc⟩
  · exact ⟨.inl ⟨rfl, hl⟩, fun q n c n' c' e => by cases e⟩
  · obtain ⟨k1, k2⟩ := kp r _ hr fun n' c' => h2 r _ _ n' c' rfl
    exact ⟨.inr ⟨r, c, cs, rfl, k1, hc⟩, fun q n c n' c' e => by injection e with e; subst e; exact k2 n' c'⟩
/-- Rows of loops that are being built. -/
structure LpO (H0 H : Hp) (v : CV) (ls : List (Nat × List Nat × List Nat)) : Prop where
  ex : ∃ xs, Own H0 H v 3 xs ∧ F2 (LpRow v H) xs ls
theorem LpO.mono {H0 H H' : Hp} {v : CV} {ls : List (Nat × List Nat × List Nat)} (h : LpO H0 H v ls) (hl : Le H H') : LpO H0 H' v ls := by
  obtain ⟨xs, h1, h2⟩ := h
  exact ⟨xs, h1.mono hl, h2.imp fun _ _ k => LpRow.mono k hl⟩
theorem LpO.le {H0 H : Hp} {v : CV} {ls : List (Nat × List Nat × List Nat)} (h : LpO H0 H v ls) : Le H0 H := by
  obtain ⟨xs, h1, h2⟩ := h
  exact h1.le
/-- A list of loops. -/
def LpsR (H : Hp) (v : CV) (ls : List (Nat × List Nat × List Nat)) : Prop := (v = .nilsl ∧ ls = []) ∨ ∃ r c cs, v = .ref r 0 ls.length (ls.length + c) ∧ H r = some (.cells cs) ∧ ls.length * 3 ≤ cs.length ∧ ∀ (k : Nat) l, ls[k]? = some l → ∃ vt vb, (cs.drop (k * 3)).take 3 = [ci l.1, vt, vb] ∧ SlF H vt (natL l.2.1) ∧ SlF H vb (natL l.2.2)
theorem LpO.lps {H0 H : Hp} {v : CV} {ls : List (Nat × List Nat × List Nat)} (h : LpO H0 H v ls) : LpsR H v ls := by
  obtain ⟨xs, h1, h2⟩ := h
  have hlen := f2_len h2
  have hz := h1.len
  rcases h1.2.2 with ⟨rfl, rfl⟩ | ⟨r, c, ex, rfl, _, hr, _, hc⟩
  · exact .inl ⟨rfl, by simpa using hlen.symm⟩
  · refine .inr ⟨r, c - xs.length, _, by rw [← hlen, show xs.length + (c - xs.length) = c by omega], hr, by rw [List.length_append, flat_len hz]; omega, fun k l hk => ?_⟩
    obtain ⟨x, hx, vt, vb, rfl, k1, k2⟩ := f2_get h2 hk
    exact ⟨vt, vb, flat_take hz hx, k1.1, k2.1⟩
theorem LpsR.mono {H H' : Hp} {v : CV} {ls : List (Nat × List Nat × List Nat)} (h : LpsR H v ls) (hl : Le H H') : LpsR H' v ls := by
  rcases h with h | ⟨r, c, cs, h1, h2, h3, h4⟩
  · exact .inl h
  · refine .inr ⟨r, c, cs, h1, hl _ _ h2, h3, fun k l hk => ?_⟩
    obtain ⟨vt, vb, k1, k2, k3⟩ := h4 k l hk
    exact ⟨vt, vb, k1, k2.mono hl, k3.mono hl⟩
theorem SlF.wkC {H : Hp} {v : CV} {l : List Int} (h : SlF H v l) : wkC v = v := by
  rcases h with ⟨rfl, _⟩ | ⟨r, c, cs, rfl, _⟩ <;> rfl
theorem LpsR.wk {H : Hp} {v : CV} {ls : List (Nat × List Nat × List Nat)} (h : LpsR H v ls) : LpsR (wkH H) v ls := by
  rcases h with h | ⟨r, c, cs, h1, h2, h3, h4⟩
  · exact .inl h
  · refine .inr ⟨r, c, _, h1, wkH_at h2, by simpa using h3, fun k l hk => ?_⟩
    obtain ⟨vt, vb, k1, k2, k3⟩ := h4 k l hk
    refine ⟨vt, vb, ?_, k2.wk, k3.wk⟩
    rw [← List.map_drop, ← List.map_take, k1]
    simp [SlF.wkC k2, SlF.wkC k3]
    rfl
theorem LpsR.free {H : Hp} {v : CV} {ls : List (Nat × List Nat × List Nat)} (h : LpsR H v ls) : Free v := by
  rcases h with ⟨rfl, _⟩ | ⟨r, c, cs, rfl, _⟩ <;> constructor
/-- The heads of loops. -/
def hdL (ls : List (Nat × List Nat × List Nat)) (k : Nat) : Int := (((ls.map fun l => l.1).getD k 0 : Nat) : Int)
theorem LpsR.data {H : Hp} {r c : Nat} {ls : List (Nat × List Nat × List Nat)} (h : LpsR H (.ref r 0 ls.length c) ls) (hr : ls.Pairwise fun a b => a.1 < b.1) : ∃ cs, DataR H r ls.length cs (hdL ls) := by
  rcases h with ⟨h, _⟩ | ⟨r', c', cs, h1, h2, h3, h4⟩
  · cases h
  injection h1 with h1
  subst h1
  refine ⟨cs, h2, h3, fun k hk => ?_, fun i k hik hk => ?_⟩
  · obtain ⟨vt, vb, k1, k2, k3⟩ := h4 k _ (List.getElem?_eq_getElem hk)
    refine ⟨vt, vb, SlF.oc k2, SlF.oc k3, ?_⟩
    rw [k1]
    simp [hdL, hk]
  · have := List.pairwise_iff_getElem.1 hr i k (by omega) hk hik
    simp [hdL, hk, show i < ls.length by omega]
    exact this
theorem LpO.sep {H0 B B' H' : Hp} {v w : CV} {ls : List (Nat × List Nat × List Nat)} {sz : Nat} {ys : List (List CV)} (h : LpO H0 B v ls) (hB : Le B B') (hw : Own B' H' w sz ys) : ∀ q n c n' c', w = .ref q 0 n c → v ≠ .ref q 0 n' c' := by
  obtain ⟨xs, h1, _⟩ := h
  rintro q n c n' c' rfl rfl
  rcases h1.2.2 with ⟨e, _⟩ | ⟨r, c2, ex, e, _, hr, _⟩
  · cases e
  · injection e with e1
    subst e1
    have h3 := hB _ _ hr
    rcases hw.2.2 with ⟨e, _⟩ | ⟨r, c3, ex, e, hn, _⟩
    · cases e
    · injection e with e1
      subst e1
      rw [h3] at hn
      cases hn
theorem sortF_c (hX : CxOk (cx W G)) {H : Hp} {v : CV} {ls : List (Nat × List Nat × List Nat)} (h : LpsR H v ls) (hr : ls.Pairwise fun a b => a.1 < b.1) (hm : ls.length ≤ 80) : CC Tryz.prog W 74 [v, .func (.func 75) [] []] H fun x H' => x = .ret (.tuple []) ∧ H' = H := by
  rcases id h with ⟨rfl, _⟩ | ⟨r, c, cs, rfl, _⟩
  · exact sortFnil_c hX H
  · obtain ⟨cs, hd⟩ := h.data hr
    exact sortFd_c hX hd hm
structure lsI (H0 : Hp) (gp n : Nat) (N : Nat → List Nat) (d : Nat) (m : Nat) (s' : CA) (H' : Hp) : Prop where
  ex : ∃ (i i13 : Nat) (v : CV), m = n - i ∧ i ≤ n ∧ i13 + d = i ∧ s'.env 0 = .ptr gp 0 ∧ s'.env 3 = v ∧ s'.env 12 = .int .i64 n ∧ s'.env 13 = .int .i64 i13 ∧ s'.ds = [] ∧ LpO H0 H' v (loopsP N n i)
structure lsX (H0 : Hp) (n : Nat) (N : Nat → List Nat) (s' : CA) (H' : Hp) : Prop where
  ex : ∃ v : CV, s'.env 3 = v ∧ s'.ds = [] ∧ LpO H0 H' v (loopsP N n n)
structure lsT (B : Hp) (gp n i : Nat) (v : CV) (T : List Nat) (s' : CA) (H' : Hp) : Prop where
  ex : ∃ vt, s'.env 0 = .ptr gp 0 ∧ s'.env 3 = v ∧ s'.env 4 = .int .i64 i ∧ s'.env 5 = vt ∧ s'.env 12 = .int .i64 n ∧ s'.env 13 = .int .i64 i ∧ s'.ds = [] ∧ Own B H' vt 1 (ints (natL T))
structure lsJ (B : Hp) (gp n i : Nat) (v w : CV) (L : List Nat) (P : Nat → Bool) (d : Nat) (m : Nat) (s' : CA) (H' : Hp) : Prop where
  ex : ∃ (j j24 : Nat) (vt : CV), m = L.length - j ∧ j ≤ L.length ∧ j24 + d = j ∧ s'.env 0 = .ptr gp 0 ∧ s'.env 3 = v ∧ s'.env 4 = .int .i64 i ∧ s'.env 5 = vt ∧ s'.env 12 = .int .i64 n ∧ s'.env 13 = .int .i64 i ∧ s'.env 22 = w ∧ s'.env 23 = .int .i64 L.length ∧ s'.env 24 = .int .i64 j24 ∧ s'.ds = [] ∧ Own B H' vt 1 (ints (natL ((L.take j).filter P)))
theorem loopsM_c (hX : CxOk (cx W G)) {H0 H : Hp} {gp : Nat} {u : UUnit} {N : Nat → List Nat} {rn rb ro ri rk co : Nat} {ns bs ex : List CV} {I : Nat → Option Nat} (h : GrOk H0 H gp u N rn rb ro ri rk co ns bs ex I) (hN : ∀ b, b < u.blocks.length → ∀ k ∈ N b, k < u.blocks.length) (h0 : 0 < u.blocks.length) (hn : u.blocks.length ≤ 80) :
    CC Tryz.prog W 47 [.ptr gp 0] H fun x H' => ∃ v, x = .ret v ∧ Le H H' ∧ LpsR H' v (loopsP N u.blocks.length u.blocks.length) := by
  refine CC.of_cw hX Tryz.func47 rfl rfl (Nat.le_of_ble_eq_true rfl) ?_
  refine CW.walk hX mixed d47 rfl ?_
  simp
  refine CW.walk hX mixed d47 rfl ?_
  simp
  have hg := h.g
  refine CW.cut (lsX H u.blocks.length N) ?_ ?_
  · refine CW.walk hX mixed d47 rfl ?_
    simp [hg]
    refine CW.block ?_
    refine CW.loop (lsI H gp u.blocks.length N 0) ?_ (m := u.blocks.length) ⟨0, 0, .nilsl, rfl, by omega, rfl, by simp, by simp, by simp, by simp, rfl, ⟨[], Own.nil (Le.refl _), .nil⟩⟩
    clear hg
    rintro m ⟨e, ds⟩ B ⟨i, i13, v, rfl, hi, hi13, e0, e3, e12, e13, rfl, hO⟩
    obtain rfl : i13 = i := by omega
    dsimp only at e0 e3 e12 e13
    by_cases hin : i13 < u.blocks.length
    rotate_left
    · obtain rfl : i13 = u.blocks.length := by omega
      refine CW.walk hX mixed d47 rfl ?_
      simp [e12, e13]
      refine CW.walk hX mixed d47 rfl ?_
      simp
      exact ⟨v, by simp [e3], rfl, hO⟩
    refine CW.walk hX mixed d47 rfl ?_
    simp [e12, e13, hin]
    refine CW.walk hX mixed d47 rfl ?_
    simp
    refine CW.cut (lsI H gp u.blocks.length N 1 (u.blocks.length - (i13 + 1))) ?_ ?_
    · refine CW.block ?_
      refine CW.walk hX mixed d47 rfl ?_
      simp [e13]
      refine CW.walk hX mixed d47 rfl ?_
      simp
      have gr := h.more hO.le
      refine CW.cut (lsT B gp u.blocks.length i13 v (tailsP N u.blocks.length i13)) ?_ ?_
      · have mg := gr.g
        have mb := gr.b
        obtain ⟨w, hw, hsl⟩ := gr.bb i13 hin
        have hbl : ∀ k ∈ befL N u.blocks.length i13, k < u.blocks.length := fun k hk => by
          have := (List.mem_filter.1 hk).1
          simpa using this
        rcases hsl with ⟨rfl, hl⟩ | ⟨r, c, cs, rfl, hr, hc⟩
        · have hl0 : befL N u.blocks.length i13 = [] := by simpa [natL] using hl
          refine CW.walk hX mixed d47 rfl ?_
          simp [e0, mg, mb, hin, hw]
          refine CW.block ?_
          refine CW.loop (fun m s' H' => s'.env 0 = .ptr gp 0 ∧ s'.env 3 = v ∧ s'.env 4 = .int .i64 i13 ∧ s'.env 5 = .nilsl ∧ s'.env 12 = .int .i64 u.blocks.length ∧ s'.env 13 = .int .i64 i13 ∧ s'.env 23 = ci 0 ∧ s'.env 24 = ci 0 ∧ s'.ds = [] ∧ H' = B) ?_ (m := 0) ⟨by simp [e0], by simp [e3], by simp [e13], by simp, by simp [e12], by simp [e13], by simp, by simp, rfl, rfl⟩
          rintro m ⟨e', ds⟩ H2 ⟨e0, e3, e4, e5, e12, e13, e23, e24, rfl, rfl⟩
          dsimp only at e0 e3 e4 e5 e12 e13 e23 e24
          refine CW.walk hX mixed d47 rfl ?_
          simp [e23, e24]
          refine CW.walk hX mixed d47 rfl ?_
          simp
          exact ⟨.nilsl, by simp [e0], by simp [e3], by simp [e4], by simp [e5], by simp [e12], by simp [e13], rfl, by simp [tailsP, hl0]; exact Own.nil (Le.refl _)⟩
        · obtain ⟨P, hP⟩ : ∃ P : Nat → Bool, (open Classical in fun k => decide (Dom N i13 k)) = P := ⟨_, rfl⟩
          obtain ⟨L, hL⟩ : ∃ L, befL N u.blocks.length i13 = L := ⟨_, rfl⟩
          have htp : tailsP N u.blocks.length i13 = L.filter P := by rw [← hL, ← hP]; rfl
          have hPd : ∀ k, P k = true ↔ Dom N i13 k := fun k => by rw [← hP]; simp
          have hLl : L.length ≤ u.blocks.length := by
            rw [← hL]
            have := List.length_filter_le (fun a => decide (i13 ∈ N a)) (List.range u.blocks.length)
            rw [List.length_range] at this
            exact this
          rw [hL, natL_len] at hw
          rw [hL] at hc hbl
          rw [htp]
          clear hP hL
          refine CW.walk hX mixed d47 rfl ?_
          simp [e0, mg, mb, hin, hw]
          refine CW.block ?_
          refine CW.loop (lsJ B gp u.blocks.length i13 v (.ref r 0 L.length (L.length + c)) L P 0) ?_ (m := L.length) ⟨0, 0, .nilsl, rfl, by omega, rfl, by simp [e0], by simp [e3], by simp [e13], by simp, by simp [e12], by simp [e13], by simp, by simp, by simp, rfl, by simp; exact Own.nil (Le.refl _)⟩
          clear e0 e3 e12 e13
          rintro m ⟨e', ds⟩ H2 ⟨j, j24, vt, rfl, hj, hj24, e0, e3, e4, e5, e12, e13, e22, e23, e24, rfl, hown⟩
          obtain rfl : j24 = j := by omega
          dsimp only at e0 e3 e4 e5 e12 e13 e22 e23 e24
          by_cases hjl : j24 < L.length
          rotate_left
          · have htk : L.take j24 = L := List.take_of_length_le (by omega)
            rw [htk] at hown
            refine CW.walk hX mixed d47 rfl ?_
            simp [e23, e24, show ¬ j24 < L.length from hjl]
            refine CW.walk hX mixed d47 rfl ?_
            simp
            exact ⟨vt, by simp [e0], by simp [e3], by simp [e4], by simp [e5], by simp [e12], by simp [e13], rfl, hown⟩
          obtain ⟨k, hk⟩ : ∃ k, L[j24]? = some k := ⟨_, List.getElem?_eq_getElem hjl⟩
          have htk : L.take (j24 + 1) = L.take j24 ++ [k] := by
            rw [List.take_succ_eq_append_getElem hjl]
            rw [List.getElem?_eq_getElem hjl] at hk
            injection hk with hk
            rw [hk]
          have hkn := hbl k (List.mem_of_getElem? hk)
          have hck : cs[j24]? = some (ci (k : Int)) := hc j24 k (by simp [natL, hk])
          have hr2 := hown.1 _ _ hr
          have htl : ((L.take j24).filter P).length ≤ 80 := by
            have h1 := List.length_filter_le P (L.take j24)
            have h2 := List.length_take_le j24 L
            omega
          refine CW.walk hX mixed d47 rfl ?_
          simp [e23, e24, hjl]
          refine CW.walk hX mixed d47 rfl ?_
          simp
          refine CW.cut (lsJ B gp u.blocks.length i13 v (.ref r 0 L.length (L.length + c)) L P 1 (L.length - (j24 + 1))) ?_ ?_
          · refine CW.block ?_
            refine CW.walk hX mixed d47 rfl ?_
            simp [e22, e24, hjl, hr2, hck]
            refine CW.walk hX mixed d47 rfl ?_
            simp [e0, e4]
            refine (over_c hX (gr.more hown.1) hN hin hkn).k ?_
            rintro x H3 ⟨⟨t, rfl, ht⟩, rfl⟩
            rw [← hPd k] at ht
            cases t with
            | false =>
              have hPk : P k = false := by cases h : P k with | false => rfl | true => exact absurd (ht.2 h) (by simp)
              simp
              refine CW.walk1 hX mixed d47 rfl ?_
              simp
              exact ⟨j24 + 1, j24, vt, rfl, by omega, rfl, by simp [e0], by simp [e3], by simp [e4], by simp [e5], by simp [e12], by simp [e13], by simp [e22], by simp [e23], by simp [e24], rfl, by rw [htk, List.filter_append]; simpa [hPk] using hown⟩
            | true =>
              have hPk := ht.1 rfl
              simp
              refine CW.walk1 hX mixed d47 rfl ?_
              simp [e5, cfill, -vcAppend]
              intro qx hqx
              refine (hown.more hqx).append2 (ys := [[.int .i64 (k : Int)]]) (by simp) (by simp [ints, natL]; omega) (src_one set_at rfl) fun v' H5 how5 _ => ?_
              simp
              refine ⟨j24 + 1, j24, v', rfl, by omega, rfl, by simp [e0], by simp [e3], by simp [e4], by simp, by simp [e12], by simp [e13], by simp [e22], by simp [e23], by simp [e24], rfl, ?_⟩
              rw [htk, List.filter_append]
              have e9 : ints (natL (List.filter P (L.take j24) ++ List.filter P [k])) = ints (natL (List.filter P (L.take j24))) ++ [[.int .i64 (k : Int)]] := by simp [ints, natL, hPk]
              rw [e9]; exact how5
          clear e0 e3 e4 e5 e12 e13 e22 e23 e24 hown hr2 htl
          rintro ⟨e', ds⟩ H3 ⟨j, j24', vt, hjj, hj, hj24, e0, e3, e4, e5, e12, e13, e22, e23, e24, rfl, hown⟩
          dsimp only at e0 e3 e4 e5 e12 e13 e22 e23 e24
          obtain rfl : j = j24 + 1 := by omega
          obtain rfl : j24' = j24 := by omega
          refine CW.walk1 hX mixed d47 rfl ?_
          simp [e24]
          exact ⟨L.length - (j24' + 1), by omega, j24' + 1, j24' + 1, vt, rfl, hj, rfl, by simp [e0], by simp [e3], by simp [e4], by simp [e5], by simp [e12], by simp [e13], by simp [e22], by simp [e23], by simp; exact wrapI (by omega) (by omega), rfl, hown⟩
      clear e0 e3 e12 e13
      rintro ⟨e, ds⟩ H2 ⟨vt, e0, e3, e4, e5, e12, e13, rfl, hown⟩
      dsimp only at e0 e3 e4 e5 e12 e13
      have hO2 := hO.mono hown.1
      have hvt0 : vt = .nilsl ∨ ∃ r n c, vt = .ref r 0 n c := by
        rcases hown.2.2 with ⟨h1, _⟩ | ⟨r, c, ex, h1, _⟩
        · exact .inl h1
        · exact .inr ⟨r, _, c, h1⟩
      by_cases ht0 : tailsP N u.blocks.length i13 = []
      · have hls : loopsP N u.blocks.length (i13 + 1) = loopsP N u.blocks.length i13 := by rw [loopsP, if_pos ht0]; simp
        have hfin : ∀ en : Env, en 0 = .ptr gp 0 → en 3 = v → en 12 = .int .i64 u.blocks.length → en 13 = .int .i64 i13 → lsI H gp u.blocks.length N 1 (u.blocks.length - (i13 + 1)) ⟨en, []⟩ H2 := fun en g0 g3 g12 g13 => ⟨i13 + 1, i13, v, rfl, by omega, rfl, g0, g3, g12, g13, rfl, by rw [hls]; exact hO2⟩
        rw [ht0] at hown
        rcases hown.2.2 with ⟨rfl, _⟩ | ⟨r, c, ex, rfl, _⟩
        · refine CW.walk1 hX mixed d47 rfl ?_
          simp [e5, ints, natL]
          exact hfin _ (by simp [e0]) (by simp [e3]) (by simp [e12]) (by simp [e13])
        · refine CW.walk1 hX mixed d47 rfl ?_
          simp [e5, ints, natL]
          exact hfin _ (by simp [e0]) (by simp [e3]) (by simp [e12]) (by simp [e13])
      obtain ⟨r, c, rfl⟩ : ∃ r c, vt = .ref r 0 (tailsP N u.blocks.length i13).length c := by
        rcases hown.2.2 with ⟨_, h1⟩ | ⟨r, c, ex, h1, _⟩
        · have := congrArg List.length h1; rw [ints_len, natL_len] at this
          exact absurd (List.length_eq_zero_iff.1 (by simpa using this)) ht0
        · rw [ints_len, natL_len] at h1; exact ⟨r, c, h1⟩
      have htp : 0 < (tailsP N u.blocks.length i13).length := List.length_pos_iff.2 ht0
      refine CW.walk hX mixed d47 rfl ?_
      simp [e5, htp]
      refine CW.walk1 hX mixed d47 rfl ?_
      simp [e0, e3, e4, e5]
      refine (loop_c hX (gr.more hown.1) hN (by omega) hin tailsP_lt tailsP_len hown).k ?_
      rintro x H3 ⟨vb, rfl, hvb⟩
      obtain ⟨hs1, hs2⟩ := Own.oneCell hvb
      have sp1 := hO.sep (Le.refl _) hown
      have sp2 := hO.sep hown.1 hvb
      obtain ⟨xs, hxs, hf⟩ := hO2.mono hvb.1
      have hxl : xs.length ≤ 80 := by
        have h1 := f2_len hf
        have h2 := loopsP_len (N := N) (n := u.blocks.length) (m := i13)
        omega
      simp [cfill, -vcAppend, hs1, hs2]
      intro qx hqx
      have hlq : Le H3 (H3.set qx (.cells [ci i13, .ref r 0 (tailsP N u.blocks.length i13).length c, vb])) := Le.set_new hqx
      refine (hxs.more hqx).append2 (ys := [[ci i13, .ref r 0 (tailsP N u.blocks.length i13).length c, vb]]) (by simp) (by simp; omega) (src_one set_at rfl) fun v' H5 how5 kp => ?_
      simp
      refine ⟨i13 + 1, i13, v', rfl, by omega, rfl, by simp [e0], by simp, by simp [e12], by simp [e13], rfl, ?_⟩
      rw [loopsP, if_neg ht0]
      refine ⟨_, how5, f2_append (hf.imp fun a b k => ?_) ⟨_, vb, rfl, SlA.kept ⟨((Own.slF hown).mono hvb.1).mono hlq, sp1⟩ kp, SlA.kept ⟨(Own.slF hvb).mono hlq, sp2⟩ kp⟩⟩
      obtain ⟨vt', vb', k1, k2, k3⟩ := k
      exact ⟨vt', vb', k1, (k2.mono hlq).kept kp, (k3.mono hlq).kept kp⟩
    clear e0 e3 e12 e13
    rintro ⟨e, ds⟩ H2 ⟨i, i13', v', hii, hi, hi13, e0, e3, e12, e13, rfl, hO2⟩
    dsimp only at e0 e3 e12 e13
    obtain rfl : i = i13 + 1 := by omega
    obtain rfl : i13' = i13 := by omega
    refine CW.walk1 hX mixed d47 rfl ?_
    simp [e13]
    exact ⟨u.blocks.length - (i13' + 1), by omega, i13' + 1, i13' + 1, v', rfl, hi, rfl, by simp [e0], by simp [e3], by simp [e12], by simp; exact wrapI (by omega) (by omega), rfl, hO2⟩
  rintro ⟨e, ds⟩ H2 ⟨v, e3, rfl, hO⟩
  dsimp only at e3
  have hL := hO.lps
  have hle := hO.le
  refine CW.walk hX mixed d47 rfl ?_
  simp [e3]
  refine (sortF_c hX hL loopsP_rise (by have := loopsP_len (N := N) (n := u.blocks.length) (m := u.blocks.length); omega)).k ?_
  rintro x H3 ⟨rfl, rfl⟩
  simp
  refine CW.walk1 hX mixed d47 rfl ?_
  simp [e3]
  exact ⟨hle, hL⟩
end Go.Cl.Gd
set_option linter.unusedSimpArgs false
set_option linter.unusedVariables false
namespace Go.Cl.Gd
open Go.Proofs
variable {W : World} {G : Nat → CV}
set_option maxRecDepth 8000
set_option maxHeartbeats 1000000
/-- What graph.Loops answers. -/
structure LpsA (u : UUnit) (x : CE) (H' : Hp) : Prop where
  er : errU u ≠ 0 → x = .ret (.tuple [.nilsl, ci (errU u)])
  ok : errU u = 0 → ∃ p c v, PLeast (opsOf u) p c ∧ x = .ret (.tuple [v, ci 0]) ∧ LpsR H' v (loopsP (nextN u p) u.blocks.length u.blocks.length)
theorem loops_c (hX : CxOk (cx W G)) (hG : G 0 = .iptr formsC) (u : UUnit) (hu : UOk u) (hn : u.blocks.length ≤ 80) (H : Hp) : CC Tryz.prog W 20 [.agg (unitC u)] H fun x H' => LpsA u x H' := by
  refine CC.of_cw hX Tryz.func20 rfl rfl (Nat.le_of_ble_eq_true rfl) ?_
  refine CW.walk hX mixed d20 rfl ?_
  simp
  intro q1 hq1
  by_cases he : errU u = 0
  · have hw : wfU u = true := errU_wf.1 he
    have hc := gof_c hX hG u hw (H.set q1 (.cells (unitC u)))
    refine CW.walk hX mixed d20 rfl ?_
    simp [unitC]
    simp only [unitC] at hc
    refine hc.k ?_
    rintro x H3 ⟨gp, p, c, rn, rb, ro, ri, rk, co, ns, bs, ex, I, rfl, hp, h⟩
    simp
    have h0 : 0 < u.blocks.length := by obtain ⟨f1, f2, f3, f4, f5, f6, f7, f8, f9, f10, f11⟩ := wfU_facts hw; omega
    refine CW.walk hX mixed d20 rfl ?_
    simp
    refine CW.walk1 hX mixed d20 rfl ?_
    simp
    refine (loopsM_c hX h nextN_lt h0 hn).k ?_
    rintro x H4 ⟨v, rfl, hle, hL⟩
    simp
    exact ⟨fun q => absurd he q, fun _ => ⟨p, c, _, hp, rfl, hL⟩⟩
  · have hc := gof_e hX hG u hu he (H.set q1 (.cells (unitC u)))
    refine CW.walk hX mixed d20 rfl ?_
    simp [unitC]
    simp only [unitC] at hc
    refine hc.k ?_
    rintro x H2 ⟨rfl, rfl⟩
    simp
    refine CW.walk hX mixed d20 rfl ?_
    simp [he]
    exact ⟨fun _ => rfl, fun q => absurd q he⟩
theorem LpsA.free {u : UUnit} {x : CE} {H' : Hp} (h : LpsA u x H') : FreeEnd x := by
  by_cases he : errU u = 0
  · obtain ⟨p, c, v, _, rfl, h5⟩ := h.ok he
    exact tup2_free h5.free
  · rw [h.er he]; exact tup2_free .nilsl
theorem LpsA.wkm {u : UUnit} {x : CE} {H' H2 : Hp} (h : LpsA u x H') (hl : Le (wkH H') H2) : LpsA u x H2 :=
  ⟨h.er, fun he => by
    obtain ⟨p, c, v, a1, a4, a5⟩ := h.ok he
    exact ⟨p, c, v, a1, a4, a5.wk.mono hl⟩⟩
theorem loops_f (hX : CxOk (cx W G)) (hG : G 0 = .iptr formsC) {u : UUnit} (hu : UOk u) (hn : u.blocks.length ≤ 80) {H : Hp} {cs : List CV} (hf : Fz H (.agg cs) (.agg (unitC u))) : CC Tryz.prog W 20 [.agg cs] H fun x H' => LpsA u x H' ∧ Le H H' := by
  refine (CC.freeze3 (args' := [.agg (unitC u)]) (R := LpsA u) (by rfl) (fz1 hf) (fun x H' h => h.free) fun w hw => ?_).mono ?_
  · exact loops_c (W := w) (CxOk.later hX hw) hG u hu hn _
  · rintro x H2 ⟨H', h1, h2, h3, _⟩
    exact ⟨h1.wkm h3, h2⟩
theorem exJ_c (hX : CxOk (cx W G)) (n : Int) (H : Hp) : CC Tryz.prog W 65 [ci n] H fun x H' => x = .ret (.agg [.nilsl, ci 1, ci 0, ci n, ci 0, ci (-1)]) ∧ H' = H := by
  refine CC.shrink ?_
  refine CC.of_cw hX Tryz.func65 rfl rfl (Nat.le_of_ble_eq_true rfl) ?_
  refine CW.walk hX mixed d65 rfl ?_
  simp
  intro q hq
  refine CW.walk1 hX mixed d65 rfl ?_
  simp [cfill]
  exact Le.set_new hq
theorem exG_c (hX : CxOk (cx W G)) (H : Hp) : CC Tryz.prog W 38 [] H fun x H' => ∃ cs, x = .ret (.agg cs) ∧ Le H H' ∧ UV H' cs exG := by
  refine CC.of_cw hX Tryz.func38 rfl rfl (Nat.le_of_ble_eq_true rfl) ?_
  refine CW.walk hX mixed d38 rfl ?_
  simp
  intro q0 hq0
  refine CW.walk hX mixed d38 rfl ?_
  simp
  refine CW.walk1 hX mixed d38 rfl ?_
  simp [cfill]
  refine (exJ_c hX 1 _).k ?_
  rintro z H1 ⟨rfl, rfl⟩
  simp [cfill]
  refine (exJ_c hX 1 _).k ?_
  rintro z H1 ⟨rfl, rfl⟩
  simp [cfill]
  intro r hrq hqr hr
  rw [List.drop_of_length_le (by simp)]
  refine ⟨_, by rw [hset_ne hqr]; exact set_at, by simp, (((Le.refl H).put hq0).put hr).put hq0, ?_⟩
  generalize hQ : Hp.set (Hp.set (Hp.set H q0 _) r _) q0 _ = Q
  have m : Q r = some (.cells [[.nilsl, ci 1, ci 0, ci 1, ci 0, ci (-1)], [.nilsl, ci 2, ci 0, ci 2, ci 3, ci (-1)], [.nilsl, ci 1, ci 0, ci 1, ci 0, ci (-1)], [.nilsl, ci 3, ci 0, ci 0, ci 0, ci (-1)]].flatten) := by
    rw [← hQ, hset_ne hrq]
    exact set_at
  clear hQ
  have o2 : Fz Q (.ref r 0 4 4) (.sl 6 (exG.blocks.map blkC)) := (own0 (n := 4) (sz := 6) m rfl (by simp)).fzD rfl (by simp [exG, blkC]) fun i j e f x y h1 h2 h3 h4 => by
    have key : ∀ (k : UBlk), k.ops = [] → e = .nilsl :: blkT k → f = blkC k → Fz Q x y := fun k ko he hf => by
      subst he; subst hf
      rw [blkC_eq, ko] at h4
      rcases j with _|j
      · simp at h3 h4
        subst h3; subst h4
        exact .nil 7
      · have : x = y := by
          simp only [List.getElem?_cons_succ] at h3 h4
          exact Option.some.inj (h3.symm.trans h4)
        rw [this]; exact .same _
    rcases i with _|_|_|_|i
    · simp [exG] at h1 h2; exact key ⟨[], ⟨1, 0, 1, 0⟩, -1⟩ rfl h1.symm h2.symm
    · simp [exG] at h1 h2; exact key ⟨[], ⟨2, 0, 2, 3⟩, -1⟩ rfl h1.symm h2.symm
    · simp [exG] at h1 h2; exact key ⟨[], ⟨1, 0, 1, 0⟩, -1⟩ rfl h1.symm h2.symm
    · simp [exG] at h1 h2; exact key ⟨[], ⟨3, 0, 0, 0⟩, -1⟩ rfl h1.symm h2.symm
    · simp at h1
  refine ⟨rfl, fz_agg6 (.nil 1) (.same _) (.same _) (.same _) (.same _) o2, ⟨_, _, rfl, .inr ⟨r, 4, _, rfl, m, fun j k hk => ?_⟩⟩, Own.nil fun _ _ h => by cases h⟩
  rcases j with _|_|_|_|j
  all_goals
    simp [exG] at hk
    try
      subst hk
      exact ⟨_, rfl, Own.nil fun _ _ h => by cases h⟩
theorem alive_c (hX : CxOk (cx W G)) (hG : G 0 = .iptr formsC) (H : Hp) : CC Tryz.prog W 12 [] H fun x H' => x = .ret (.bool true) ∧ H' = H := by
  refine CC.shrink ?_
  refine CC.of_cw hX Tryz.func12 rfl rfl (Nat.le_of_ble_eq_true rfl) ?_
  have he : errU exG = 0 := errU_wf.2 exG_wf
  have hu := wf_uok exG_wf
  refine CW.walk hX mixed d12 rfl ?_
  simp
  refine CW.walk hX mixed d12 rfl ?_
  simp
  refine (exG_c hX H).k ?_
  rintro x H1 ⟨cs1, rfl, hle1, hu1⟩
  simp
  refine (order_f hX hG hu hu1.f).k ?_
  rintro x H2 ⟨hA, hle2⟩
  obtain ⟨p, c, v1, hp, rfl, hv1⟩ := hA.ok he
  rw [exG_nx hp, show exG.blocks.length = 4 from rfl, exN_ord] at hv1
  simp
  refine CW.walk hX mixed d12 rfl ?_
  simp
  refine (exG_c hX H2).k ?_
  rintro x H3 ⟨cs3, rfl, hle3, hu3⟩
  simp
  refine (loops_f hX hG hu (by decide) hu3.f).k ?_
  rintro x H4 ⟨hA4, hle4⟩
  obtain ⟨p4, c4, v4, hp4, rfl, hv4⟩ := hA4.ok he
  rw [exG_nx hp4, show exG.blocks.length = 4 from rfl, exN_loops] at hv4
  simp
  have hle := ((hle1.trans hle2).trans hle3).trans hle4
  have hv1 := (hv1.mono hle3).mono hle4
  rcases hv4 with ⟨_, h⟩ | ⟨r, c5, cs, rfl, hr, hl, hc⟩
  · cases h
  obtain ⟨vt, vb, hcs, hvt, hvb⟩ := hc 0 _ rfl
  simp at hl
  obtain ⟨t0, t1, t2, tl, rfl⟩ : ∃ a b c d, cs = a :: b :: c :: d := by
    rcases cs with _ | ⟨a, _ | ⟨b, _ | ⟨c, d⟩⟩⟩
    · simp at hl
    · simp at hl
    · simp at hl
    · exact ⟨a, b, c, d, rfl⟩
  simp at hcs
  obtain ⟨rfl, rfl, rfl⟩ := hcs
  refine CW.walk1 hX mixed d12 rfl ?_
  simp [hr]
  have hv1 : SlF H4 v1 [0, 1, 3, 2] := hv1
  have hvt : SlF H4 t1 [2] := hvt
  have hvb : SlF H4 t2 [1, 2] := hvb
  clear hc hA4 hA
  refine ⟨_, rfl, fun r1 h1 => ?_⟩
  have l1 : Le H4 (H4.set r1 (.cells [ci 0, ci 1, ci 3, ci 2])) := Le.set_new h1
  refine (same_f hX (hv1.mono l1) (slF_of (l := [0, 1, 3, 2]) set_at) (by decide)).k ?_
  rintro x H5 ⟨rfl, rfl⟩
  have hr5 := l1 _ _ hr
  have hvt5 := hvt.mono l1
  have hvb5 := hvb.mono l1
  have hle5 := hle.trans l1
  generalize H4.set r1 _ = H5 at hr5 hvt5 hvb5 hle5 ⊢
  simp [hr5]
  refine ⟨_, rfl, fun r2 h2 => ?_⟩
  have l2 : Le H5 (H5.set r2 (.cells [ci 2])) := Le.set_new h2
  refine (same_f hX (hvt5.mono l2) (slF_of (l := [2]) set_at) (by decide)).k ?_
  rintro x H6 ⟨rfl, rfl⟩
  have hr6 := l2 _ _ hr5
  have hvb6 := hvb5.mono l2
  have hle6 := hle5.trans l2
  generalize H5.set r2 _ = H6 at hr6 hvb6 hle6 ⊢
  simp [hr6]
  refine ⟨_, rfl, fun r3 h3 => ?_⟩
  have l3 : Le H6 (H6.set r3 (.cells [ci 1, ci 2])) := Le.set_new h3
  refine (same_f hX (hvb6.mono l3) (slF_of (l := [1, 2]) set_at) (by decide)).k ?_
  rintro x H7 ⟨rfl, rfl⟩
  simp
  exact hle6.trans l3
end Go.Cl.Gd
