/- DERIVED HERE. The reference's Poisons. -/
import Derived.Test.YtdoifdjodafakaaGreatDoorRD
import Derived.Test.YtdoifdjodafakaaGreatDoorPD
set_option linter.unusedSimpArgs false
set_option linter.unusedVariables false
namespace Go.Cl
open Go.Proofs Dd
variable {W : World} {G : Nat → CV}
set_option maxRecDepth 8000
set_option maxHeartbeats 4000000
/-- What one look at all operations has made so far. -/
structure PV (u : UUnit) (p c : Nat → Bool) (D : List UOp) (p' c' : Nat → Bool) (a : Bool) : Prop where
  low : PLow (opsOf u) p' c'
  gt : a = true → gapP u.regs.toNat u.spill.toNat p' c' < gapP u.regs.toNat u.spill.toNat p c
  same : a = false → p' = p ∧ c' = c ∧ ∀ o ∈ D, spreadN o p c = false
theorem PV.step {u : UUnit} (hu : wfU u = true) {p c : Nat → Bool} {D : List UOp} {p' c' : Nat → Bool} {a : Bool} (h : PV u p c D p' c' a) {o : UOp} (ho : o ∈ opsOf u) : PV u p c (D ++ [o]) (spreadR o p' c') (spreadC o p' c') (a || spreadN o p' c') := by
  have hge : gapP u.regs.toNat u.spill.toNat p' c' ≤ gapP u.regs.toNat u.spill.toNat p c := by
    cases a with
    | true => exact Nat.le_of_lt (h.gt rfl)
    | false => obtain ⟨rfl, rfl, _⟩ := h.same rfl; exact Nat.le_refl _
  refine ⟨h.low.spread ho, fun ha => ?_, fun ha => ?_⟩
  · cases hs : spreadN o p' c' with
    | true => have := spread_gap hu (wf_ops hu ho) hs; omega
    | false => rw [spreadR_same hs, spreadC_same hs]; rw [hs, Bool.or_false] at ha; exact h.gt ha
  · simp only [Bool.or_eq_false_iff] at ha
    obtain ⟨h1, h2, h3⟩ := h.same ha.1
    rw [spreadR_same ha.2, spreadC_same ha.2]
    refine ⟨h1, h2, fun o' ho' => ?_⟩
    rcases List.mem_append.1 ho' with h4 | h4
    · exact h3 o' h4
    · simp at h4; subst h4; rw [← h1, ← h2]; exact ha.2
/-- Where the sets lie. -/
structure psS (H : Hp) (u : UUnit) (r1 rr rc : Nat) (p c : Nat → Bool) (a : Bool) (s' : CA) (H' : Hp) : Prop where
  ex : s'.env 1 = .ptr r1 0 ∧ s'.env 3 = .ref rr 0 u.regs.toNat u.regs.toNat ∧ s'.env 4 = .ref rc 0 u.spill.toNat u.spill.toNat ∧ s'.env 5 = .bool a ∧ s'.ds = [] ∧ Le H H' ∧ H rr = none ∧ H rc = none ∧ rr ≠ rc ∧ H' rr = some (.cells (boolC u.regs.toNat p)) ∧ H' rc = some (.cells (boolC u.spill.toNat c)) ∧ H' r1 = some (.cells (unitC u)) ∧ r1 ≠ rr ∧ r1 ≠ rc
structure psL (H : Hp) (u : UUnit) (r1 rr rc : Nat) (j : Nat) (s' : CA) (H' : Hp) : Prop where
  ex : ∃ p c a, j = 2 * gapP u.regs.toNat u.spill.toNat p c + (if a = true then 1 else 0) ∧ psS H u r1 rr rc p c a s' H' ∧ PLow (opsOf u) p c ∧ (a = false → PCl (opsOf u) p c)
structure psI (H : Hp) (u : UUnit) (r1 rr rc : Nat) (p c : Nat → Bool) (d : Nat) (j : Nat) (s' : CA) (H' : Hp) : Prop where
  ex : ∃ (i i6 : Nat) (p' c' : Nat → Bool) (a : Bool), i ≤ u.blocks.length ∧ j = u.blocks.length - i ∧ psS H u r1 rr rc p' c' a s' H' ∧ s'.env 6 = .int .i64 i6 ∧ i6 + d = i ∧ PV u p c ((u.blocks.take i).flatMap (·.ops)) p' c' a
structure psK (H : Hp) (u : UUnit) (k : UBlk) (r1 rr rc i : Nat) (p c : Nat → Bool) (d : Nat) (j : Nat) (s' : CA) (H' : Hp) : Prop where
  ex : ∃ (t t7 : Nat) (p' c' : Nat → Bool) (a : Bool), t ≤ k.ops.length ∧ j = k.ops.length - t ∧ psS H u r1 rr rc p' c' a s' H' ∧ s'.env 6 = .int .i64 i ∧ s'.env 7 = .int .i64 t7 ∧ t7 + d = t ∧ PV u p c ((u.blocks.take i).flatMap (·.ops) ++ k.ops.take t) p' c' a
structure psO (H : Hp) (u : UUnit) (r1 rr rc : Nat) (p c : Nat → Bool) (s' : CA) (H' : Hp) : Prop where
  ex : ∃ p' c' a, psS H u r1 rr rc p' c' a s' H' ∧ PV u p c (opsOf u) p' c' a
structure psF (H : Hp) (u : UUnit) (r1 rr rc : Nat) (s' : CA) (H' : Hp) : Prop where
  ex : ∃ p c, psS H u r1 rr rc p c false s' H' ∧ PLow (opsOf u) p c ∧ PCl (opsOf u) p c
structure psX (u : UUnit) (r1 rr rc r8 i t : Nat) (a b : Bool) (H6 : Hp) (s' : CA) (H' : Hp) : Prop where
  ex : s'.env 1 = .ptr r1 0 ∧ s'.env 3 = .ref rr 0 u.regs.toNat u.regs.toNat ∧ s'.env 4 = .ref rc 0 u.spill.toNat u.spill.toNat ∧ s'.env 5 = .bool a ∧ s'.env 6 = .int .i64 i ∧ s'.env 7 = .int .i64 t ∧ s'.env 8 = .ptr r8 0 ∧ s'.env 9 = .bool b ∧ s'.ds = [] ∧ H' = H6
structure psY (u : UUnit) (r1 rr rc r8 i t : Nat) (a : Bool) (p : Nat → Bool) (v : CV) (l : List Int) (H6 : Hp) (d : Nat) (j : Nat) (s' : CA) (H' : Hp) : Prop where
  ex : ∃ m m' : Nat, m ≤ l.length ∧ j = l.length - m ∧ psX u r1 rr rc r8 i t a ((l.take m).any fun r => p r.toNat) H6 s' H' ∧ s'.env 10 = v ∧ s'.env 11 = .int .i64 m' ∧ m' + d = m
theorem poisons61_c (hX : CxOk (cx W G)) (u : UUnit) (hu : wfU u = true) (H : Hp) : CC Tryz.prog W 56 [.agg (unitC u)] H fun x H' => ∃ p c rr, x = .ret (.ref rr 0 u.regs.toNat u.regs.toNat) ∧ H rr = none ∧ H' rr = some (.cells (boolC u.regs.toNat p)) ∧ Le H H' ∧ PLeast (opsOf u) p c := by
  obtain ⟨f1, f2, f3, f4, f5, f6, f7, f8, f9, f10, f11⟩ := wfU_facts hu
  refine CC.of_cw hX Tryz.func56 rfl rfl (Nat.le_of_ble_eq_true rfl) ?_
  refine CW.walk hX mixed d56 rfl ?_
  simp [unitC]
  intro r1 n1
  refine CW.walk hX mixed d56 rfl ?_
  simp
  refine ⟨by omega, by omega, by omega, fun rr q1 q2 n2 => ?_⟩
  refine CW.walk hX mixed d56 rfl ?_
  simp [q1, q2]
  refine ⟨by omega, by omega, by omega, fun rc q3 q4 q5 q6 n3 => ?_⟩
  rw [zeroB, zeroB]
  generalize hH1 : Hp.set _ rc _ = H1
  have b1 : (H.set r1 (.cells (unitC u))) rr = none := by rw [hset_ne q1]; exact n2
  have hle : Le H H1 := by rw [← hH1]; exact ((Le.set_new n1).trans (Le.set_new b1)).trans (Le.set_new (by rw [hset_ne q3, hset_ne q5]; exact n3))
  have m1 : H1 r1 = some (.cells (unitC u)) := by rw [← hH1]; simp [Hp.set, q2, q6, unitC]
  have mr : H1 rr = some (.cells (boolC u.regs.toNat fun _ => false)) := by rw [← hH1]; simp [Hp.set, q4]
  have mc : H1 rc = some (.cells (boolC u.spill.toNat fun _ => false)) := by rw [← hH1]; exact set_at
  clear hH1
  refine CW.cut (psF H u r1 rr rc) ?_ ?_
  · refine CW.walk hX mixed d56 rfl ?_
    simp
    refine CW.block ?_
    refine CW.loop (psL H u r1 rr rc) ?_ (m := 2 * gapP u.regs.toNat u.spill.toNat (fun _ => false) (fun _ => false) + 1) ⟨fun _ => false, fun _ => false, true, by simp, ⟨by simp, by simp, by simp, by simp, rfl, hle, n2, n3, Ne.symm q3, mr, mc, m1, q2, q6⟩, PLow.empty _, by simp⟩
    clear mr mc m1 hle
    rintro j ⟨en, ds⟩ H2 ⟨p, c, a, rfl, ⟨e1, e3, e4, e5, rfl, hle, _, _, _, mr, mc, m1, _, _⟩, hlow, hcl⟩
    dsimp only at e1 e3 e4 e5
    cases a with
    | false =>
      refine CW.walk hX mixed d56 rfl ?_
      simp [e5]
      exact ⟨p, c, ⟨by simp [e1], by simp [e3], by simp [e4], by simp [e5], rfl, hle, n2, n3, Ne.symm q3, mr, mc, m1, q2, q6⟩, hlow, hcl rfl⟩
    | true =>
    refine CW.walk hX mixed d56 rfl ?_
    simp [e5]
    refine CW.mono (Q := fun x s' H' => x = .normal ∧ psO H u r1 rr rc p c s' H') ?_ ?_
    · refine CW.block ?_
      refine CW.walk hX mixed d56 rfl ?_
      simp
      refine CW.walk hX mixed d56 rfl ?_
      simp
      refine CW.block ?_
      refine CW.loop (psI H u r1 rr rc p c 0) ?_ (m := u.blocks.length) ⟨0, 0, p, c, false, by omega, rfl, ⟨by simp [e1], by simp [e3], by simp [e4], by simp, rfl, hle, n2, n3, Ne.symm q3, mr, mc, m1, q2, q6⟩, by simp, rfl, ⟨hlow, by simp, fun _ => ⟨rfl, rfl, by simp⟩⟩⟩
      clear e1 e3 e4 e5 mr mc m1 hle
      rintro j ⟨en, ds⟩ H3 ⟨i, i6, p', c', a, hi, rfl, hS, e6, hi6, hV⟩
      obtain rfl : i = i6 := by omega
      obtain ⟨e1, e3, e4, e5, rfl, hle, _, _, _, mr, mc, m1, _, _⟩ := hS.ex
      dsimp only at e1 e3 e4 e5 e6
      have m1' := m1
      simp only [unitC] at m1'
      by_cases hlt : i < u.blocks.length
      rotate_left
      · refine CW.walk hX mixed d56 rfl ?_
        simp [e1, e6, m1', hlt]
        have hil : i = u.blocks.length := by omega
        rw [hil, List.take_length] at hV
        exact ⟨p', c', a, ⟨by simp [e1], by simp [e3], by simp [e4], by simp [e5], rfl, hle, n2, n3, Ne.symm q3, mr, mc, m1, q2, q6⟩, hV⟩
      obtain ⟨k, hke⟩ : ∃ k, u.blocks[i] = k := ⟨_, rfl⟩
      have hk : u.blocks[i]? = some k := by rw [List.getElem?_eq_getElem hlt, hke]
      refine CW.walk hX mixed d56 rfl ?_
      simp [e1, e6, m1', hlt]
      refine CW.cut (psI H u r1 rr rc p c 1 (u.blocks.length - (i + 1))) ?_ ?_
      · refine CW.block ?_
        obtain ⟨_, hlen, hwo, _⟩ := wfB_facts hu hk
        refine CW.walk hX mixed d56 rfl ?_
        simp
        refine CW.block ?_
        refine CW.loop (psK H u k r1 rr rc i p c 0) ?_ (m := k.ops.length) ⟨0, 0, p', c', a, by omega, rfl, ⟨by simp [e1], by simp [e3], by simp [e4], by simp [e5], rfl, hle, n2, n3, Ne.symm q3, mr, mc, m1, q2, q6⟩, by simp [e6], by simp, rfl, by simpa using hV⟩
        clear hS hV e1 e3 e4 e5 e6 mr mc m1 m1' hle
        clear p' c' a
        rintro j ⟨en, ds⟩ H4 ⟨t, t7, p', c', a, ht, rfl, hS, e6, e7, ht7, hV⟩
        obtain rfl : t = t7 := by omega
        obtain ⟨e1, e3, e4, e5, rfl, hle, _, _, _, mr, mc, m1, _, _⟩ := hS.ex
        dsimp only at e1 e3 e4 e5 e6 e7
        have m1' := m1
        simp only [unitC] at m1'
        by_cases htl : t < k.ops.length
        rotate_left
        · refine CW.walk hX mixed d56 rfl ?_
          simp [e1, e6, e7, m1', hlt, hke, blkC, htl]
          have htt : t = k.ops.length := by omega
          rw [htt, List.take_length] at hV
          refine ⟨i + 1, i, p', c', a, hlt, rfl, ⟨by simp [e1], by simp [e3], by simp [e4], by simp [e5], rfl, hle, n2, n3, Ne.symm q3, mr, mc, m1, q2, q6⟩, by simp [e6], rfl, ?_⟩
          rw [List.take_add_one, hk, List.flatMap_append]
          simpa using hV
        obtain ⟨o, hoe⟩ : ∃ o, k.ops[t] = o := ⟨_, rfl⟩
        have ho : k.ops[t]? = some o := by rw [List.getElem?_eq_getElem htl, hoe]
        have hom := List.mem_of_getElem? ho
        have hwo' := hwo o hom
        have hoo : o ∈ opsOf u := List.mem_flatMap.2 ⟨k, List.mem_of_getElem? hk, hom⟩
        have hVs := hV.step hu hoo
        refine CW.walk hX mixed d56 rfl ?_
        simp [e1, e6, e7, m1', hlt, hke, blkC, htl]
        refine CW.cut (psK H u k r1 rr rc i p c 1 (k.ops.length - (t + 1))) ?_ ?_
        · refine CW.block ?_
          obtain ⟨w1, w2, w3, w4, w5, w6, w7, w8, w9⟩ := wfO_facts hwo' f3
          refine CW.walk hX mixed d56 rfl ?_
          simp [e1, e6, e7, m1', hlt, hke, blkC, htl, hoe, opC]
          intro r8 n8
          have l8 : Le H4 (H4.set r8 (.cells (opC o))) := Le.set_new n8
          have m8 : (H4.set r8 (.cells (opC o))) r8 = some (.cells (opC o)) := set_at
          have d5 : ∀ {x y}, H4 x = some y → x ≠ r8 := fun hx q => by rw [q, n8] at hx; cases hx
          simp only [opC] at l8 m8
          generalize H4.set r8 _ = H5 at l8 m8 ⊢
          refine CW.walk hX mixed d56 rfl ?_
          simp
          have hop := operands_c hX o w1 H5
          simp only [opC] at hop
          refine CW.walk hX mixed d56 rfl ?_
          simp [m8]
          refine hop.k ?_
          rintro x H6 ⟨v, rfl, l6, hv⟩
          simp
          have m8 := l6 _ _ m8
          have l46 := l8.trans l6
          have mr6 := l46 _ _ mr
          have mc6 := l46 _ _ mc
          have m16 := l46 _ _ m1
          have hrl := reads_len o
          refine CW.cut (psX u r1 rr rc r8 i t a ((reads o).any fun r => p' r.toNat) H6) ?_ ?_
          · refine CW.walk hX mixed d56 rfl ?_
            simp
            refine CW.block ?_
            refine CW.loop (psY u r1 rr rc r8 i t a p' v (reads o) H6 0) ?_ (m := (reads o).length) ⟨0, 0, by omega, rfl, ⟨by simp [e1], by simp [e3], by simp [e4], by simp [e5], by simp [e6], by simp [e7], by simp, by simp, rfl, rfl⟩, by simp, by simp, rfl⟩
            clear e1 e3 e4 e5 e6 e7
            rintro j ⟨en, ds⟩ H7 ⟨m, m', hm, rfl, ⟨e1, e3, e4, e5, e6, e7, e8, e9, rfl, rfl⟩, e10, e11, hmm⟩
            obtain rfl : m = m' := by omega
            dsimp only at e1 e3 e4 e5 e6 e7 e8 e9 e10 e11
            have fin : ∀ (en : Env) (b : Bool), b = ((reads o).any fun r => p' r.toNat) → en 1 = .ptr r1 0 → en 3 = .ref rr 0 u.regs.toNat u.regs.toNat → en 4 = .ref rc 0 u.spill.toNat u.spill.toNat → en 5 = .bool a → en 6 = .int .i64 i → en 7 = .int .i64 t → en 8 = .ptr r8 0 → en 9 = .bool b → psX u r1 rr rc r8 i t a ((reads o).any fun r => p' r.toNat) H7 ⟨en, []⟩ H7 := fun en b hb g1 g3 g4 g5 g6 g7 g8 g9 => ⟨g1, g3, g4, g5, g6, g7, g8, by rw [← hb]; exact g9, rfl, rfl⟩
            by_cases hml : m < (reads o).length
            rotate_left
            · have hmt : m = (reads o).length := by omega
              have hbb : ((reads o).take m).any (fun r => p' r.toNat) = (reads o).any fun r => p' r.toNat := by rw [hmt, List.take_length]
              refine CW.walk hX mixed d56 rfl ?_
              rcases hv with ⟨rfl, hnil⟩ | ⟨rl, cl, csl, rfl, nl, ml, hcl⟩
              · have h0 : m = 0 := by rw [hmt, hnil]; rfl
                subst h0
                simp [e10, e11]
                exact fin _ _ hbb (by simp [e1]) (by simp [e3]) (by simp [e4]) (by simp [e5]) (by simp [e6]) (by simp [e7]) (by simp [e8]) (by simp [e9])
              · simp [e10, e11, hml]
                exact fin _ _ hbb (by simp [e1]) (by simp [e3]) (by simp [e4]) (by simp [e5]) (by simp [e6]) (by simp [e7]) (by simp [e8]) (by simp [e9])
            rcases hv with ⟨rfl, hnil⟩ | ⟨rl, cl, csl, rfl, nl, ml, hcl⟩
            · rw [hnil] at hml; simp at hml
            obtain ⟨y, hy⟩ : ∃ y, (reads o)[m] = y := ⟨_, rfl⟩
            have hy' : (reads o)[m]? = some y := by rw [List.getElem?_eq_getElem hml, hy]
            have hcy := hcl m y hy'
            obtain ⟨y0, y1⟩ := w3 y (reads_all (List.mem_of_getElem? hy'))
            have y2 : y.toNat < u.regs.toNat := by omega
            refine CW.walk hX mixed d56 rfl ?_
            simp [e10, e11, hml]
            have htk : ((reads o).take (m + 1)).any (fun r => p' r.toNat) = (((reads o).take m).any (fun r => p' r.toNat) || p' y.toNat) := by rw [List.take_add_one, hy', List.any_append]; simp
            refine CW.cut (psY u r1 rr rc r8 i t a p' (.ref rl 0 (reads o).length ((reads o).length + cl)) (reads o) H7 1 ((reads o).length - (m + 1))) ?_ ?_
            · refine CW.block ?_
              refine CW.walk1 hX mixed d56 rfl ?_
              by_cases hb : ((reads o).take m).any (fun r => p' r.toNat) = true
              · rw [hb] at e9
                simp [e9]
                exact ⟨m + 1, m, hml, rfl, ⟨by simp [e1], by simp [e3], by simp [e4], by simp [e5], by simp [e6], by simp [e7], by simp [e8], by simp [htk, hb], rfl, rfl⟩, by simp [e10], by simp [e11], rfl⟩
              · have hb' : ((reads o).take m).any (fun r => p' r.toNat) = false := by simpa using hb
                rw [hb'] at e9
                simp [e3, e9, e10, e11, hml, ml, hcy, y0, y2, mr6, boolC_get]
                exact ⟨by omega, by omega, m + 1, m, hml, rfl, ⟨by simp [e1], by simp [e3], by simp [e4], by simp [e5], by simp [e6], by simp [e7], by simp [e8], by simp [htk, hb'], rfl, rfl⟩, by simp [e10], by simp [e11], rfl⟩
            · rintro ⟨en, ds⟩ H8 ⟨m', m2, hm', hj', ⟨g1, g3, g4, g5, g6, g7, g8, g9, rfl, rfl⟩, g10, g11, hm2⟩
              dsimp only at g1 g3 g4 g5 g6 g7 g8 g9 g10 g11
              refine CW.walk1 hX mixed d56 rfl ?_
              simp [g11]
              exact ⟨(reads o).length - (m + 1), by omega, m', m', hm', hj', ⟨by simp [g1], by simp [g3], by simp [g4], by simp [g5], by simp [g6], by simp [g7], by simp [g8], by simp [g9], rfl, rfl⟩, by simp [g10], by simp; rw [wrapI (by omega) (by omega)]; omega, rfl⟩
          clear e1 e3 e4 e5 e6 e7
          rintro ⟨en, ds⟩ H7 ⟨e1, e3, e4, e5, e6, e7, e8, e9, rfl, rfl⟩
          dsimp only at e1 e3 e4 e5 e6 e7 e8 e9
          have hle7 := hle.trans l46
          generalize hB1 : ((reads o).any fun r => p' r.toNat) = B1 at e9
          have hVs' : PV u p c ((u.blocks.take i).flatMap (·.ops) ++ k.ops.take (t + 1)) (spreadR o p' c') (spreadC o p' c') (a || spreadN o p' c') := by
            rw [List.take_add_one, ho, ← List.append_assoc]; exact hVs
          have fin : ∀ (en : Env) (H' : Hp) (a2 : Bool), en 1 = .ptr r1 0 → en 3 = .ref rr 0 u.regs.toNat u.regs.toNat → en 4 = .ref rc 0 u.spill.toNat u.spill.toNat → en 5 = .bool a2 → en 6 = .int .i64 i → en 7 = .int .i64 t → a2 = (a || spreadN o p' c') → Le H H' → H' rr = some (.cells (boolC u.regs.toNat (spreadR o p' c'))) → H' rc = some (.cells (boolC u.spill.toNat (spreadC o p' c'))) → H' r1 = some (.cells (unitC u)) → psK H u k r1 rr rc i p c 1 (k.ops.length - (t + 1)) ⟨en, []⟩ H' := fun en H' a2 g1 g3 g4 g5 g6 g7 ha h1 h2 h3 h4 =>
            ⟨t + 1, t, _, _, a2, htl, rfl, ⟨g1, g3, g4, g5, rfl, h1, n2, n3, Ne.symm q3, h2, h3, h4, q2, q6⟩, g6, g7, rfl, by rw [ha]; exact hVs'⟩
          by_cases h19 : o.kind = 19
          · have hn7 := w7 (.inr h19)
            have hn2 : o.n.toNat < u.spill.toNat := by omega
            have hbp : badP o p' c' = B1 := by simp [badP, h19, ← hB1]
            have hsR : spreadR o p' c' = p' := by funext r; simp [spreadR, h19]
            have hsC : ∀ b : Bool, b = (c' o.n.toNat || B1) → (boolC u.spill.toNat c').take o.n.toNat ++ CV.bool b :: (boolC u.spill.toNat c').drop (o.n.toNat + 1) = boolC u.spill.toNat (spreadC o p' c') := fun b hb => by
              rw [boolC_put _ _ hn2]
              refine boolC_congr fun x _ => ?_
              simp only [spreadC, hbp, h19]
              by_cases hx : x = o.n.toNat
              · subst hx; simp [hb]
              · have hx2 : (x == o.n.toNat) = false := by simpa using hx
                simp [hx, hx2]
            have hsN : spreadN o p' c' = (B1 && !c' o.n.toNat) := by simp [spreadN, hbp, h19]
            have fin2 : ∀ (en : Env) (H' : Hp) (a2 b : Bool), en 1 = .ptr r1 0 → en 3 = .ref rr 0 u.regs.toNat u.regs.toNat → en 4 = .ref rc 0 u.spill.toNat u.spill.toNat → en 5 = .bool a2 → en 6 = .int .i64 i → en 7 = .int .i64 t → a2 = (a || (B1 && !c' o.n.toNat)) → b = (c' o.n.toNat || B1) → H' = H7.set rc (.cells ((boolC u.spill.toNat c').take o.n.toNat ++ CV.bool b :: (boolC u.spill.toNat c').drop (o.n.toNat + 1))) → psK H u k r1 rr rc i p c 1 (k.ops.length - (t + 1)) ⟨en, []⟩ H' := fun en H' a2 b g1 g3 g4 g5 g6 g7 ha hb hH => by
              rw [hsC b hb] at hH
              refine fin en H' a2 g1 g3 g4 g5 g6 g7 (by rw [hsN]; exact ha) (by rw [hH]; exact hle7.put n3) ?_ (by rw [hH]; exact set_at) ?_
              · rw [hH, hset_ne (Ne.symm q3), hsR]; exact mr6
              · rw [hH, hset_ne q6]; exact m16
            refine CW.walk hX mixed d56 rfl ?_
            have z1 : o.n < max u.spill 0 := by omega
            have z2 : max o.n 0 < u.spill := by omega
            have z3 : o.n.toNat + 1 ≤ u.spill.toNat := by omega
            cases a <;> cases B1 <;> cases hcn : c' o.n.toNat <;> simp [d56, e4, e5, e8, e9, m8, h19, hn7.1, hn2, mc6, boolC_get, hcn, z1, z2, z3]
            all_goals
              exact fin2 _ _ _ _ (by simp [e1]) (by simp [e3]) (by simp [e4]) (by simp [e5]; rfl) (by simp [e6]) (by simp [e7]) (by simp [hcn]) (by simp [hcn]) rfl
          refine CW.cut (psX u r1 rr rc r8 i t a (badP o p' c') H7) ?_ ?_
          · have fin3 : ∀ (en : Env) (b : Bool), b = badP o p' c' → en 1 = .ptr r1 0 → en 3 = .ref rr 0 u.regs.toNat u.regs.toNat → en 4 = .ref rc 0 u.spill.toNat u.spill.toNat → en 5 = .bool a → en 6 = .int .i64 i → en 7 = .int .i64 t → en 8 = .ptr r8 0 → en 9 = .bool b → psX u r1 rr rc r8 i t a (badP o p' c') H7 ⟨en, []⟩ H7 := fun en b hb g1 g3 g4 g5 g6 g7 g8 g9 => ⟨g1, g3, g4, g5, g6, g7, g8, by rw [← hb]; exact g9, rfl, rfl⟩
            refine CW.walk1 hX mixed d56 rfl ?_
            by_cases h23 : 23 ≤ o.kind
            · simp [e8, m8, h23]
              exact fin3 _ _ (by simp only [badP]; rw [if_pos (by omega)]) (by simp [e1]) (by simp [e3]) (by simp [e4]) (by simp [e5]) (by simp [e6]) (by simp [e7]) (by simp [e8]) (by simp)
            by_cases h2 : 2 ≤ o.kind ∧ o.kind ≤ 13
            · simp [e8, m8, h23, h2.1, h2.2]
              exact fin3 _ B1 (by simp only [badP]; rw [if_neg (by omega), if_neg (by omega), if_pos (by omega), hB1]) (by simp [e1]) (by simp [e3]) (by simp [e4]) (by simp [e5]) (by simp [e6]) (by simp [e7]) (by simp [e8]) (by simp [e9])
            by_cases h18 : o.kind = 18
            · have hn7 := w7 (.inl h18)
              have hn2 : o.n.toNat < u.spill.toNat := by omega
              simp [e4, e8, m8, h18, hn7.1, hn2, mc6, boolC_get]
              refine ⟨by omega, by omega, ?_⟩
              exact fin3 _ _ (by simp only [badP]; rw [if_neg (by omega), if_pos h18]) (by simp [e1]) (by simp [e3]) (by simp [e4]) (by simp [e5]) (by simp [e6]) (by simp [e7]) (by simp [e8]) (by simp)
            · have hbz : badP o p' c' = false := by simp only [badP]; rw [if_neg (by omega), if_neg h18, if_neg (by omega)]
              by_cases h2' : 2 ≤ o.kind
              · have h13 : ¬ o.kind ≤ 13 := fun q => h2 ⟨h2', q⟩
                simp [e8, m8, h23, h2', h13, h18, h19]
                exact fin3 _ _ hbz.symm (by simp [e1]) (by simp [e3]) (by simp [e4]) (by simp [e5]) (by simp [e6]) (by simp [e7]) (by simp [e8]) (by simp)
              · simp [e8, m8, h23, h2', h18, h19]
                exact fin3 _ _ hbz.symm (by simp [e1]) (by simp [e3]) (by simp [e4]) (by simp [e5]) (by simp [e6]) (by simp [e7]) (by simp [e8]) (by simp)
          clear e1 e3 e4 e5 e6 e7 e8 e9
          rintro ⟨en, ds⟩ H8 ⟨e1, e3, e4, e5, e6, e7, e8, e9, rfl, rfl⟩
          dsimp only at e1 e3 e4 e5 e6 e7 e8 e9
          have hsN : spreadN o p' c' = (badP o p' c' && !p' o.dst.toNat) := by simp [spreadN, h19]
          have hsC : spreadC o p' c' = c' := by funext r; simp [spreadC, h19]
          by_cases hbp : badP o p' c' = true
          · have hd := w4 (uBit_dst (by
              simp only [badP] at hbp
              split at hbp
              · omega
              split at hbp
              · omega
              split at hbp
              · omega
              · cases hbp))
            have hdn : o.dst.toNat < u.regs.toNat := by omega
            rw [hbp] at e9
            refine CW.walk1 hX mixed d56 rfl ?_
            by_cases hpd : p' o.dst.toNat = true
            · have hs0 : spreadN o p' c' = false := by rw [hsN, hpd]; simp
              simp [e3, e8, e9, m8, hd.1, hdn, mr6, boolC_get, hpd]
              refine ⟨by omega, by omega, ?_⟩
              exact fin _ _ a (by simp [e1]) (by simp [e3]) (by simp [e4]) (by simp [e5]) (by simp [e6]) (by simp [e7]) (by rw [hs0, Bool.or_false]) hle7 (by rw [spreadR_same hs0]; exact mr6) (by rw [hsC]; exact mc6) m16
            · have hs1 : spreadN o p' c' = true := by rw [hsN, hbp]; simp [hpd]
              have hput : (boolC u.regs.toNat p').take o.dst.toNat ++ CV.bool true :: (boolC u.regs.toNat p').drop (o.dst.toNat + 1) = boolC u.regs.toNat (spreadR o p' c') := by
                rw [boolC_put _ _ hdn]
                refine boolC_congr fun x _ => ?_
                simp only [spreadR, hbp]
                by_cases hx : x = o.dst.toNat
                · subst hx; simp [h19]
                · have hx2 : (x == o.dst.toNat) = false := by simpa using hx
                  simp [hx, hx2]
              simp [e3, e8, e9, m8, hd.1, hdn, mr6, boolC_get, hpd]
              refine ⟨by omega, by omega, by omega, by omega, ?_⟩
              rw [hput]
              exact fin _ _ true (by simp [e1]) (by simp [e3]) (by simp [e4]) (by simp) (by simp [e6]) (by simp [e7]) (by rw [hs1, Bool.or_true]) (hle7.put n2) set_at (by rw [hset_ne q3, hsC]; exact mc6) (by rw [hset_ne q2]; exact m16)
          · have hbp' : badP o p' c' = false := by simpa using hbp
            have hs0 : spreadN o p' c' = false := by rw [hsN, hbp']; rfl
            rw [hbp'] at e9
            refine CW.walk1 hX mixed d56 rfl ?_
            simp [e9]
            exact fin _ _ a (by simp [e1]) (by simp [e3]) (by simp [e4]) (by simp [e5]) (by simp [e6]) (by simp [e7]) (by rw [hs0, Bool.or_false]) hle7 (by rw [spreadR_same hs0]; exact mr6) (by rw [hsC]; exact mc6) m16
        · rintro ⟨en, ds⟩ H5 ⟨t', t7, p', c', a, ht', hj', ⟨g1, g3, g4, g5, rfl, hle', _, _, _, mr', mc', m1', _, _⟩, g6, g7, ht7, hV'⟩
          dsimp only at g1 g3 g4 g5 g6 g7
          refine CW.walk1 hX mixed d56 rfl ?_
          simp [g7]
          exact ⟨k.ops.length - (t + 1), by omega, t', t', p', c', a, ht', hj', ⟨by simp [g1], by simp [g3], by simp [g4], by simp [g5], rfl, hle', n2, n3, Ne.symm q3, mr', mc', m1', q2, q6⟩, by simp [g6], by simp; rw [wrapI (by omega) (by omega)]; omega, rfl, hV'⟩
      · rintro ⟨en, ds⟩ H4 ⟨i', i6, p', c', a, hi', hj', ⟨g1, g3, g4, g5, rfl, hle', _, _, _, mr', mc', m1', _, _⟩, g6, hi6, hV'⟩
        dsimp only at g1 g3 g4 g5 g6
        refine CW.walk1 hX mixed d56 rfl ?_
        simp [g6]
        exact ⟨u.blocks.length - (i + 1), by omega, i', i', p', c', a, hi', hj', ⟨by simp [g1], by simp [g3], by simp [g4], by simp [g5], rfl, hle', n2, n3, Ne.symm q3, mr', mc', m1', q2, q6⟩, by simp; rw [wrapI (by omega) (by omega)]; omega, rfl, hV'⟩
    · rintro x s' H' ⟨rfl, ⟨p', c', a, hS, hV⟩⟩
      refine ⟨2 * gapP u.regs.toNat u.spill.toNat p' c' + (if a = true then 1 else 0), ?_, p', c', a, rfl, hS, hV.low, fun ha => ?_⟩
      · cases a with
        | true => have := hV.gt rfl; simp; omega
        | false => obtain ⟨rfl, rfl, _⟩ := hV.same rfl; simp
      · obtain ⟨rfl, rfl, h⟩ := hV.same ha
        exact h
  rintro ⟨en, ds⟩ H2 ⟨p, c, ⟨e1, e3, e4, e5, rfl, hle2, _, _, _, mr2, mc2, _, _, _⟩, hlow, hcl⟩
  dsimp only at e3
  refine CW.walk1 hX mixed d56 rfl ?_
  simp [e3]
  exact ⟨n2, p, mr2, hle2, c, hcl, hlow⟩
end Go.Cl
