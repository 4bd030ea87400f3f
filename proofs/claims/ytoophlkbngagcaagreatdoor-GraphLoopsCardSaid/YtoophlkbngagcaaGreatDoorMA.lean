/- DERIVED HERE. The program's May.Any, clash. -/
import Derived.Test.YtoophlkbngagcaaGreatDoorPT
import Derived.Test.YtoophlkbngagcaaGreatDoorRApP
set_option linter.unusedSimpArgs false
set_option linter.unusedVariables false
namespace Go.Cl
open Go.Proofs
variable {W : World} {G : Nat → CV}
set_option maxRecDepth 8000
set_option maxHeartbeats 4000000
structure ixI (ops : List UOp) (p : Nat → Bool) (fv : CV) (H : Hp) (d : Nat) (j : Nat) (s' : CA) (H' : Hp) : Prop where
  ex : ∃ i i8 : Nat, i ≤ ops.length ∧ j = ops.length - i ∧ s'.env 0 = .sl 7 (ops.map opC) ∧ s'.env 1 = fv ∧ s'.env 7 = .int .i64 ops.length ∧ s'.env 8 = .int .i64 i8 ∧ i8 + d = i ∧ s'.ds = [] ∧ H' = H ∧ (ops.take i).any (mayTrap p) = false
structure ixR (ops : List UOp) (p : Nat → Bool) (H : Hp) (x : CE) (H' : Hp) : Prop where
  ex : ∃ z : Int, x = .ret (.int .i64 z) ∧ H' = H ∧ decide (0 ≤ z) = ops.any (mayTrap p)
theorem index109_c (hX : CxOk (cx W G)) (n : Nat) (cc : CV) (hcc : cc.stor = true ∧ cc.cells = [cc]) (p : Nat → Bool) (ops : List UOp) (hlen : ops.length ≤ 400) (hops : ∀ o ∈ ops, (o.guard ≠ -1 → 0 ≤ o.guard ∧ o.guard < n) ∧ (o.kind = 20 ∨ o.kind = 21 ∨ o.kind = 22 → 0 ≤ o.a ∧ o.a < n)) (H : Hp) :
    CC Tryz.prog W 129 [.sl 7 (ops.map opC), .func (.func 105) [.agg [.sl 1 (boolS n p), cc]] []] H (ixR ops p H) := by
  refine CC.of_cw hX Tryz.func129 rfl rfl (Nat.le_of_ble_eq_true rfl) ?_
  obtain ⟨fv, hfv⟩ : ∃ fv, fv = CV.func (.func 105) [.agg [.sl 1 (boolS n p), cc]] [] := ⟨_, rfl⟩
  rw [← hfv]
  refine CW.walk hX mixed d129 rfl ?_
  simp
  refine CW.cut (fun s' H' => s'.ds = [] ∧ H' = H ∧ ops.any (mayTrap p) = false) ?_ ?_
  · refine CW.walk hX mixed d129 rfl ?_
    simp
    refine CW.block ?_
    refine CW.loop (ixI ops p fv H 0) ?_ (m := ops.length) ⟨0, 0, by omega, rfl, by simp, by simp, by simp, by simp, rfl, rfl, rfl, by simp⟩
    rintro j ⟨e, ds⟩ H1 ⟨i, i8, hi, rfl, e0, e1, e7, e8, hd, rfl, rfl, hno⟩
    obtain rfl : i8 = i := by omega
    dsimp only at e0 e1 e7 e8
    by_cases hil : i8 < ops.length
    rotate_left
    · refine CW.walk hX mixed d129 rfl ?_
      simp [e7, e8, hil]
      refine CW.walk hX mixed d129 rfl ?_
      simp
      have : i8 = ops.length := by omega
      rw [this, List.take_length] at hno
      simpa using hno
    obtain ⟨o, hoe⟩ : ∃ o, ops[i8] = o := ⟨_, rfl⟩
    have ho : ops[i8]? = some o := by rw [List.getElem?_eq_getElem hil, hoe]
    obtain ⟨w1, w2⟩ := hops o (List.mem_of_getElem? ho)
    have htk : (ops.take (i8 + 1)).any (mayTrap p) = ((ops.take i8).any (mayTrap p) || mayTrap p o) := by rw [List.take_add_one, ho, List.any_append]; simp
    refine CW.walk hX mixed d129 rfl ?_
    simp [e7, e8, hil]
    refine CW.walk hX mixed d129 rfl ?_
    simp
    refine CW.cut (ixI ops p fv H1 1 (ops.length - (i8 + 1))) ?_ ?_
    · refine CW.block ?_
      refine CW.walk hX mixed d129 rfl ?_
      simp [e8]
      refine CW.walk1 hX mixed d129 rfl ?_
      simp [e0, e1, hil, hoe, hfv, opC]
      have htc := trap_c hX o n cc hcc p H1 w1 w2
      simp only [opC] at htc
      refine htc.k ?_
      rintro x H2 ⟨rfl, rfl⟩
      cases hm : mayTrap p o with
      | true =>
        simp
        exact ⟨i8, rfl, rfl, by
          have : ops.any (mayTrap p) = true := List.any_eq_true.2 ⟨o, List.mem_of_getElem? ho, hm⟩
          rw [this]; simp⟩
      | false =>
        simp
        exact ⟨i8 + 1, i8, hil, rfl, by simp [e0], by simp [e1, hfv], by simp [e7], by simp [e8], rfl, rfl, rfl, by rw [htk, hno, hm]; rfl⟩
    · rintro ⟨e, ds⟩ H2 ⟨i', i8', hi', hj', g0, g1, g7, g8, hd', rfl, rfl, hno'⟩
      dsimp only at g0 g1 g7 g8
      refine CW.walk1 hX mixed d129 rfl ?_
      simp [g8]
      exact ⟨ops.length - (i8 + 1), by omega, i', i', hi', hj', by simp [g0], by simp [g1], by simp [g7], by simp; rw [wrapI (by omega) (by omega)]; omega, rfl, rfl, rfl, hno'⟩
  rintro ⟨e, ds⟩ H1 ⟨rfl, rfl, hno⟩
  refine CW.walk1 hX mixed d129 rfl ?_
  simp
  exact ⟨-1, rfl, rfl, by rw [hno]; rfl⟩
theorem contains90_c (hX : CxOk (cx W G)) (n : Nat) (cc : CV) (hcc : cc.stor = true ∧ cc.cells = [cc]) (p : Nat → Bool) (ops : List UOp) (hlen : ops.length ≤ 400) (hops : ∀ o ∈ ops, (o.guard ≠ -1 → 0 ≤ o.guard ∧ o.guard < n) ∧ (o.kind = 20 ∨ o.kind = 21 ∨ o.kind = 22 → 0 ≤ o.a ∧ o.a < n)) (H : Hp) :
    CC Tryz.prog W 104 [.sl 7 (ops.map opC), .func (.func 105) [.agg [.sl 1 (boolS n p), cc]] []] H fun x H' => x = .ret (.bool (ops.any (mayTrap p))) ∧ H' = H := by
  refine CC.of_ev hX mixed d104 Tryz.func104 rfl rfl (Nat.le_of_ble_eq_true rfl) d104_ok ?_
  simp [Tryz.f104, d104]
  refine (index109_c hX n cc hcc p ops hlen hops H).k ?_
  rintro x H' ⟨z, rfl, rfl, hz⟩
  simp [hz]
theorem any55_c (hX : CxOk (cx W G)) (n : Nat) (cc : CV) (hcc : cc.stor = true ∧ cc.cells = [cc]) (p : Nat → Bool) (k : UBlk) (hlen : k.ops.length ≤ 400) (hops : ∀ o ∈ k.ops, (o.guard ≠ -1 → 0 ≤ o.guard ∧ o.guard < n) ∧ (o.kind = 20 ∨ o.kind = 21 ∨ o.kind = 22 → 0 ≤ o.a ∧ o.a < n)) (ha : k.en.kind ≠ 1 → 0 ≤ k.en.a ∧ k.en.a < n) (H : Hp) :
    CC Tryz.prog W 80 [.agg [.sl 1 (boolS n p), cc], .agg (blkC k)] H fun x H' => x = .ret (.bool (throwsB p k)) ∧ H' = H := by
  refine CC.shrink ?_
  refine CC.of_ev hX mixed d80 Tryz.func80 rfl rfl (Nat.le_of_ble_eq_true rfl) d80_ok ?_
  simp (config := {contextual := true}) [Tryz.f80, d80, blkC]
  intro q1 n1 q2 h21 h12 n2
  have m2 : Le H ((H.set q1 (.cells [.sl 1 (boolS n p), cc])).set q2 (.cells [.sl 7 (k.ops.map opC), ci k.en.kind, ci k.en.a, ci k.en.to, ci k.en.els, ci k.catch_])) := (Le.set_new n1).trans (Le.set_new (by rw [hset_none_iff]; exact ⟨h21, n2⟩))
  have me := endTrap_c hX k.en n cc hcc p ((H.set q1 (.cells [.sl 1 (boolS n p), cc])).set q2 (.cells [.sl 7 (k.ops.map opC), ci k.en.kind, ci k.en.a, ci k.en.to, ci k.en.els, ci k.catch_])) ha
  simp only [endC] at me
  refine me.k ?_
  rintro x H2 ⟨rfl, rfl⟩
  cases hm : mayEnd p k.en with
  | true =>
    simp [h12, throwsB, hm]
    exact m2
  | false =>
    simp [h12, throwsB, hm]
    refine (contains90_c hX n cc hcc p k.ops hlen hops _).k ?_
    rintro x H2 ⟨rfl, rfl⟩
    simp
    exact ⟨m2, by simp [hm]⟩
end Go.Cl
