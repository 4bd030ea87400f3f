/- DERIVED HERE. The reference's Operands. -/
import Derived.Test.YtfkdjajpopocpaaDoorEA
set_option linter.unusedSimpArgs false
set_option linter.unusedVariables false
namespace Go.Cl
open Go.Proofs Dd
variable {W : World} {G : Nat → CV}
set_option maxRecDepth 8000
theorem Own.slN {H0 H : Hp} {v : CV} {l : List Int} (h : Own H0 H v 1 (ints l)) : SlN H0 H v l := by
  obtain ⟨_, _, ⟨rfl, hx⟩ | ⟨q, c, ex, rfl, hq, hq2, _, hqc⟩⟩ := h
  · exact .inl ⟨rfl, by simpa [ints] using hx⟩
  · refine .inr ⟨q, c - l.length, _, by simp [ints] at hqc ⊢; omega, hq, hq2, fun k x hk => ?_⟩
    have := (List.getElem?_eq_some_iff.1 hk).1
    rw [ints_flat, List.getElem?_append_left (by simpa using this), List.getElem?_map, hk]
    rfl
structure oM (H1 : Hp) (r0 : Nat) (L : List Int) (s' : CA) (H' : Hp) : Prop where
  ex : ∃ v, s'.env 1 = .ptr r0 0 ∧ s'.env 3 = v ∧ s'.ds = [] ∧ Own H1 H' v 1 (ints L)
theorem operands_c (hX : CxOk (cx W G)) (o : UOp) (hk : isKind o.kind = true) (H : Hp) : CC Tryd.prog W 44 [.agg (opC o)] H fun x H' => ∃ v, x = .ret v ∧ Le H H' ∧ SlN H H' v (reads o) := by
  obtain ⟨kA, kB, kC⟩ := has_bits hk
  refine CC.of_cw hX Tryd.func44 rfl rfl (Nat.le_of_ble_eq_true rfl) ?_
  refine CW.walk hX mixed d44 rfl ?_
  simp [opC]
  intro r0 n0
  generalize hH1 : H.set r0 _ = H1
  have hle : Le H H1 := by rw [← hH1]; exact Le.set_new n0
  have m0 : H1 r0 = some (.cells (opC o)) := by rw [← hH1]; simp [opC]
  clear hH1
  simp only [opC] at m0
  refine CW.walk hX mixed d44 rfl ?_
  simp
  refine CW.cut (oM H1 r0 (if uBit o.kind 1 then [o.a] else [])) ?_ ?_
  · refine CW.walk1 hX mixed d44 rfl ?_
    simp [m0]
    refine (hasA_c hX _ _).k ?_
    rintro x H2 ⟨rfl, rfl⟩
    rw [kA]
    cases hu : uBit o.kind 1
    · simp
      exact ⟨.nilsl, by simp, by simp, rfl, Own.nil (Le.refl _)⟩
    · simp [m0, cfill, -vcAppend]
      intro r hr
      refine ((Own.nil (sz := 1) (Le.refl _)).more hr).append2 (ys := [[ci o.a]]) (by simp) (by simp) (src_one set_at rfl) fun v' H4 how4 _ => ?_
      simp
      exact ⟨v', by simp, by simp, rfl, by simpa [ints] using how4⟩
  rintro ⟨e, ds⟩ H2 ⟨v, e1, e3, rfl, how⟩
  dsimp only at e1 e3
  have m2 := how.le _ _ m0
  refine CW.cut (oM H1 r0 ((if uBit o.kind 1 then [o.a] else []) ++ (if uBit o.kind 2 then [o.b] else []))) ?_ ?_
  · refine CW.walk1 hX mixed d44 rfl ?_
    simp [e1, m2]
    refine (hasB_c hX _ _).k ?_
    rintro x H3 ⟨rfl, rfl⟩
    rw [kB]
    cases hu : uBit o.kind 2
    · simp
      exact ⟨v, by simp [e1], by simp [e3], rfl, by simpa using how⟩
    · simp [e1, e3, m2, cfill, -vcAppend]
      intro r hr
      refine (how.more hr).append2 (ys := [[ci o.b]]) (by simp) (by cases uBit o.kind 1 <;> simp [ints]) (src_one set_at rfl) fun v' H4 how4 _ => ?_
      simp
      exact ⟨v', by simp [e1], by simp, rfl, by simpa [ints] using how4⟩
  clear e1 e3 how m2
  rintro ⟨e, ds⟩ H2 ⟨v, e1, e3, rfl, how⟩
  dsimp only at e1 e3
  have m2 := how.le _ _ m0
  refine CW.cut (oM H1 r0 (reads o)) ?_ ?_
  · refine CW.walk1 hX mixed d44 rfl ?_
    simp [e1, m2]
    refine (hasC_c hX _ _).k ?_
    rintro x H3 ⟨rfl, rfl⟩
    rw [kC]
    cases hu : uBit o.kind 3
    · simp
      exact ⟨v, by simp [e1], by simp [e3], rfl, by simpa [reads, hu] using how⟩
    · simp [e1, e3, m2, cfill, -vcAppend]
      intro r hr
      refine (how.more hr).append2 (ys := [[ci o.c]]) (by simp) (by cases uBit o.kind 1 <;> cases uBit o.kind 2 <;> simp [ints]) (src_one set_at rfl) fun v' H4 how4 _ => ?_
      simp
      exact ⟨v', by simp [e1], by simp, rfl, by simpa [ints, reads, hu, List.append_assoc] using how4⟩
  clear e1 e3 how m2
  rintro ⟨e, ds⟩ H2 ⟨v, e1, e3, rfl, how⟩
  dsimp only at e1 e3
  refine CW.walk1 hX mixed d44 rfl ?_
  simp [e3]
  exact ⟨hle.trans how.le, (how.base hle).slN⟩
end Go.Cl
