/- DERIVED HERE. GraphLoops answers true at every input. Condition: bireme/code.forms holds what the program's text lays there (tied by the card). -/
import Derived.Test.YtoophlkbngagcaaGreatDoorFinC
import Derived.Test.YtoophlkbngagcaaGreatDoorGTl
set_option linter.unusedSimpArgs false
set_option linter.unusedVariables false
namespace Go.Proofs.YtoophlkbngagcaaGreatDoor
open Go.ChangeShapes Go.WideShapes Go.RowKit Go.Cl
set_option maxRecDepth 100000
theorem graphLoops_lifted (os : Os) (started : os.Started) (H : Type) (enc : TypeId × Value → H) :
    ReturnsInHanded {} Tryz.checked os 5 .any (fun w args => (Rows.graphLoopsSpec.pre enc Tryz.prog Tryz.f5 [] false w args ∧ laidMetH Tryz.prog [("bireme/code.forms", Rows.laid_bireme_code_forms)] w) ∧ sizedMet enc Tryz.prog Tryz.f5 (OpenSpec.ofChange Rows.graphLoopsSpec) false w args)
      (Rows.graphLoopsSpec.post enc Tryz.prog Tryz.f5 false true false false) := by
  refine returnsInHanded_of_change_and (C := Tryz.checked) (X := fun w _ => laidMetH Tryz.prog [("bireme/code.forms", Rows.laid_bireme_code_forms)] w) (fun _ _ _ hh h => h.of_heap hh) own started (by kernel_rfl) Tryz.func5
    (ChangeSpec.witness_shaped (enc := enc) (C := Tryz.checked) (os := os) (X := fun w _ => laidMetH Tryz.prog [("bireme/code.forms", Rows.laid_bireme_code_forms)] w) false (World.doorLaid Tryz.prog 400 os) #[.agg #[.slice none 0 0, .int .i64 0, .int .i64 0, .int .i64 0, .int .i64 0, .slice none 0 0]] 8 rfl (World.shaped_of_RefB (by kernel_rfl) (by kernel_rfl)) (by kernel_rfl) (by kernel_rfl) (by kernel_rfl) (met_here os _)) ?_
  intro W base args ds gs before hok hW _ _ hL _
  have hW' := hW
  obtain ⟨p, q, hA0, hV, rfl, hfz, hnd⟩ := hW
  have hA : DataW.TrodAll enc Tryz.prog W 0 (fun _ => true) true [25] args.toList ds p := hA0
  obtain ⟨v0, d0, rfl, rfl, h0⟩ := trodAll_one hA
  obtain ⟨rfl, rfl⟩ := trodVars_none hV
  obtain ⟨u, hu⟩ := unit_in h0
  have hX := hX_of gs0 (gs0_rep (forms_in hL))
  refine (calls_of (Gd.graphLoops_c hX rfl u  _) ⟨rfl, fun i x v hx hv => ?_⟩).mono ?_
  · rcases i with _|i
    · simp at hx hv; subst hx; subst hv; exact hu
    · simp at hx
  · rintro e W' ⟨rfl, hb⟩
    have keep : ∀ {t v d p}, Tryz.prog.readableRec t = true → t < Tryz.prog.types.size → DataW.Trod enc Tryz.prog W 0 (fun _ => true) true t v d p → DataW.Trod enc Tryz.prog W' 0 (fun b => decide (b < W.heap.size)) true t v d p := fun {t v d p} hr ht h => by
      refine Below.trod laidOut hr ht h hb ?_
      obtain ⟨n, h1⟩ := h
      exact DataW.trod_lt n _ _ _ h1
    refine ⟨_, rfl, _, _, _, [], p, [], hW', ?_, ?_, rfl, hb.frame _, fun h => by cases h⟩
    · exact trodAll_mk1 (shut_bool under4 true)
    · exact trodAll_mk1 (keep (by kernel_rfl) (of_decide_eq_true (by kernel_rfl)) h0)
theorem graphLoops_holds : Rows.GraphLoopsSaid :=
  OpenClaim.holds_of_wide 5 Tryz.f5 rfl rfl rfl rfl rfl rfl rfl ⟨rfl, rfl, rfl, rfl, rfl⟩ rfl rfl rfl rfl rfl (by kernel_rfl) Tryz.func5 (by kernel_rfl)
    (of_decide_eq_true (by kernel_rfl)) (by unfold Func.isWrapper; first | (rw [if_pos (by decide +kernel)]; kernel_rfl) | (rw [if_neg (by decide +kernel)]; exact ⟨rfl, rfl⟩))
    (fun os started H enc _ => graphLoops_lifted os started H enc)
theorem graphLoops_card : Rows.GraphLoopsCardSaid :=
  Claim7.holds_tied_plain_at .later [] [.widerDeep] true (true, "f88b9d8a49037a4b05f0050bb53ae83200767092b6bd918ddc55635075415b72") true
    graphLoops_holds (fun _ h => by cases h) (by kernel_rfl) (fun _ h => by cases h) graphLoops_row_tie rfl ⟨rfl, rfl⟩ (by kernel_rfl) rfl
    (fun f fn hf hfn => by
      obtain rfl : f = 5 := Option.some.inj ((show Tryz.prog.funcNamed "bireme/biremelaw10.GraphLoops" = some 5 by kernel_rfl).symm.trans hf) |>.symm
      obtain rfl : fn = Tryz.f5 := (Option.some.inj (Tryz.func5.symm.trans hfn)).symm
      exact ⟨by kernel_rfl, fun j t ht => by
        have ht : [25][j]? = some t := by simpa using ht
        have h3 : t = 25 := by
          rcases j with _ | j
          · simpa using ht.symm
          · simp at ht
        subst h3
        exact (show Tryz.prog.wantsStandIn 25 = false by kernel_rfl)⟩)
    (by kernel_rfl)
#print axioms graphLoops_card
end Go.Proofs.YtoophlkbngagcaaGreatDoor
