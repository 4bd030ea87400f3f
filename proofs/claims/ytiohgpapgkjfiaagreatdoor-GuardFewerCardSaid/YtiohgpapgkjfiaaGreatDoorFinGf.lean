/- DERIVED HERE. GuardFewer answers true at every input. Condition: bireme/code.forms holds what the program's text lays there (tied by the card). -/
import Derived.Test.YtiohgpapgkjfiaaGreatDoorFinC
import Derived.Test.YtiohgpapgkjfiaaGreatDoorGTf
set_option linter.unusedSimpArgs false
set_option linter.unusedVariables false
namespace Go.Proofs.YtiohgpapgkjfiaaGreatDoor
open Go.ChangeShapes Go.WideShapes Go.RowKit Go.Cl
set_option maxRecDepth 100000
theorem guardFewer_lifted (os : Os) (started : os.Started) (H : Type) (enc : TypeId × Value → H) :
    ReturnsInHanded {} Tryz.checked os 9 .any (fun w args => (Rows.guardFewerSpec.pre enc Tryz.prog Tryz.f9 [] false w args ∧ laidMetH Tryz.prog [("bireme/code.forms", Rows.laid_bireme_code_forms)] w) ∧ sizedMet enc Tryz.prog Tryz.f9 (OpenSpec.ofChange Rows.guardFewerSpec) false w args)
      (Rows.guardFewerSpec.post enc Tryz.prog Tryz.f9 false true false false) := by
  refine returnsInHanded_of_change_and (C := Tryz.checked) (X := fun w _ => laidMetH Tryz.prog [("bireme/code.forms", Rows.laid_bireme_code_forms)] w) (fun _ _ _ hh h => h.of_heap hh) own started (by kernel_rfl) Tryz.func9
    (ChangeSpec.witness_shaped (enc := enc) (C := Tryz.checked) (os := os) (X := fun w _ => laidMetH Tryz.prog [("bireme/code.forms", Rows.laid_bireme_code_forms)] w) false (World.doorLaid Tryz.prog 400 os) #[.agg #[.slice none 0 0, .int .i64 0, .int .i64 0, .int .i64 0, .int .i64 0, .slice none 0 0], .int .i64 0, .int .i64 0] 8 rfl (World.shaped_of_RefB (by kernel_rfl) (by kernel_rfl)) (by kernel_rfl) (by kernel_rfl) (by kernel_rfl) (met_here os _)) ?_
  intro W base args ds gs before hok hW _ _ hL _
  have hW' := hW
  obtain ⟨p, q, hA0, hV, rfl, hfz, hnd⟩ := hW
  have hA : DataW.TrodAll enc Tryz.prog W 0 (fun _ => true) true [25, 3, 3] args.toList ds p := hA0
  obtain ⟨v0, v1, v2, d0, d1, d2, p0, p1, p2, rfl, rfl, rfl, h0, h1, h2⟩ := trodAll_three hA
  obtain ⟨rfl, rfl⟩ := trodVars_none hV
  obtain ⟨u, hu⟩ := unit_in h0
  obtain ⟨n1, rfl⟩ := okWide_int (k := .i64) (by kernel_rfl) (hok 1 3 v1 (by kernel_rfl) rfl)
  obtain ⟨n2, rfl⟩ := okWide_int (k := .i64) (by kernel_rfl) (hok 2 3 v2 (by kernel_rfl) rfl)
  have hX := hX_of gs0 (gs0_rep (forms_in hL))
  refine (calls_of (Gu.guardFewer_c hX rfl u n1 n2 _) ⟨rfl, fun i x v hx hv => ?_⟩).mono ?_
  · rcases i with _|_|_|i
    · simp at hx hv; subst hx; subst hv; exact hu
    · simp at hx hv; subst hx; subst hv; exact .int _ _
    · simp at hx hv; subst hx; subst hv; exact .int _ _
    · simp at hx
  · rintro e W' ⟨rfl, hb⟩
    have keep : ∀ {t v d p}, Tryz.prog.readableRec t = true → t < Tryz.prog.types.size → DataW.Trod enc Tryz.prog W 0 (fun _ => true) true t v d p → DataW.Trod enc Tryz.prog W' 0 (fun b => decide (b < W.heap.size)) true t v d p := fun {t v d p} hr ht h => by
      refine Below.trod laidOut hr ht h hb ?_
      obtain ⟨n, h1⟩ := h
      exact DataW.trod_lt n _ _ _ h1
    refine ⟨_, rfl, _, _, _, [], p0 ++ (p1 ++ p2), [], hW', ?_, ?_, rfl, hb.frame _, fun h => by cases h⟩
    · exact trodAll_mk1 (shut_bool under4 true)
    · exact trodAll_mk3 (keep (by kernel_rfl) (of_decide_eq_true (by kernel_rfl)) h0) (keep (by kernel_rfl) (of_decide_eq_true (by kernel_rfl)) h1) (keep (by kernel_rfl) (of_decide_eq_true (by kernel_rfl)) h2)
theorem guardFewer_holds : Rows.GuardFewerSaid :=
  OpenClaim.holds_of_wide 9 Tryz.f9 rfl rfl rfl rfl rfl rfl rfl ⟨rfl, rfl, rfl, rfl, rfl⟩ rfl rfl rfl rfl rfl (by kernel_rfl) Tryz.func9 (by kernel_rfl)
    (of_decide_eq_true (by kernel_rfl)) (by unfold Func.isWrapper; first | (rw [if_pos (by decide +kernel)]; kernel_rfl) | (rw [if_neg (by decide +kernel)]; exact ⟨rfl, rfl⟩))
    (fun os started H enc _ => guardFewer_lifted os started H enc)
theorem guardFewer_card : Rows.GuardFewerCardSaid :=
  Claim7.holds_tied_plain_at .later [] [.widerDeep] true (true, "5e673db485cc00b4f7bb8d7a5f347f39e14babb2af9ffe0ed9e74edf012f200b") true
    guardFewer_holds (fun _ h => by cases h) (by kernel_rfl) (fun _ h => by cases h) guardFewer_row_tie rfl ⟨rfl, rfl⟩ (by kernel_rfl) rfl
    (fun f fn hf hfn => by
      obtain rfl : f = 9 := Option.some.inj ((show Tryz.prog.funcNamed "bireme/biremelaw16.GuardFewer" = some 9 by kernel_rfl).symm.trans hf) |>.symm
      obtain rfl : fn = Tryz.f9 := (Option.some.inj (Tryz.func9.symm.trans hfn)).symm
      exact ⟨by kernel_rfl, fun j t ht => by
        have ht : [25, 3, 3][j]? = some t := by simpa using ht
        have h3 : t = 25 ∨ t = 3 := by
          rcases j with _ | _ | _ | j
          · exact .inl (by simpa using ht.symm)
          · exact .inr (by simpa using ht.symm)
          · exact .inr (by simpa using ht.symm)
          · simp at ht
        rcases h3 with rfl | rfl
        · exact (show Tryz.prog.wantsStandIn 25 = false by kernel_rfl)
        · exact (show Tryz.prog.wantsStandIn 3 = false by kernel_rfl)⟩)
    (by kernel_rfl)
#print axioms guardFewer_card
end Go.Proofs.YtiohgpapgkjfiaaGreatDoor
