/- DERIVED HERE. GraphEntered answers true at every input. Condition: bireme/code.forms holds what the program's text lays there (tied by the card). -/
import Derived.Test.YtoophlkbngagcaaDoorFinC
import Derived.Test.YtoophlkbngagcaaDoorGTe
set_option linter.unusedSimpArgs false
set_option linter.unusedVariables false
namespace Go.Proofs.YtoophlkbngagcaaDoor
open Go.ChangeShapes Go.WideShapes Go.RowKit Go.Cl
set_option maxRecDepth 100000
theorem graphEntered_lifted (os : Os) (started : os.Started) (H : Type) (enc : TypeId × Value → H) :
    ReturnsInHanded {} Tryd.checked os 4 .any (fun w args => (Rows.graphEnteredSpec.pre enc Tryd.prog Tryd.f4 [] false w args ∧ laidMetH Tryd.prog [("bireme/code.forms", Rows.laid_bireme_code_forms)] w) ∧ sizedMet enc Tryd.prog Tryd.f4 (OpenSpec.ofChange Rows.graphEnteredSpec) false w args)
      (Rows.graphEnteredSpec.post enc Tryd.prog Tryd.f4 false true false false) := by
  refine returnsInHanded_of_change_and (C := Tryd.checked) (X := fun w _ => laidMetH Tryd.prog [("bireme/code.forms", Rows.laid_bireme_code_forms)] w) (fun _ _ _ hh h => h.of_heap hh) own started (by kernel_rfl) Tryd.func4
    (ChangeSpec.witness_shaped (enc := enc) (C := Tryd.checked) (os := os) (X := fun w _ => laidMetH Tryd.prog [("bireme/code.forms", Rows.laid_bireme_code_forms)] w) false (World.doorLaid Tryd.prog 400 os) #[.agg #[.slice none 0 0, .int .i64 0, .int .i64 0, .int .i64 0, .int .i64 0, .slice none 0 0]] 8 rfl (World.shaped_of_RefB (by kernel_rfl) (by kernel_rfl)) (by kernel_rfl) (by kernel_rfl) (by kernel_rfl) (met_here os _)) ?_
  intro W base args ds gs before hok hW _ _ hL _
  have hW' := hW
  obtain ⟨p, q, hA0, hV, rfl, hfz, hnd⟩ := hW
  have hA : DataW.TrodAll enc Tryd.prog W 0 (fun _ => true) true [25] args.toList ds p := hA0
  obtain ⟨v0, d0, rfl, rfl, h0⟩ := trodAll_one hA
  obtain ⟨rfl, rfl⟩ := trodVars_none hV
  obtain ⟨u, hu⟩ := unit_in h0
  have hX := hX_of gs0 (gs0_rep (forms_in hL))
  refine (calls_of (Gd.graphEntered_c hX rfl u  _) ⟨rfl, fun i x v hx hv => ?_⟩).mono ?_
  · rcases i with _|i
    · simp at hx hv; subst hx; subst hv; exact hu
    · simp at hx
  · rintro e W' ⟨rfl, hb⟩
    have keep : ∀ {t v d p}, Tryd.prog.readableRec t = true → t < Tryd.prog.types.size → DataW.Trod enc Tryd.prog W 0 (fun _ => true) true t v d p → DataW.Trod enc Tryd.prog W' 0 (fun b => decide (b < W.heap.size)) true t v d p := fun {t v d p} hr ht h => by
      refine Below.trod laidOut hr ht h hb ?_
      obtain ⟨n, h1⟩ := h
      exact DataW.trod_lt n _ _ _ h1
    refine ⟨_, rfl, _, _, _, [], p, [], hW', ?_, ?_, rfl, hb.frame _, fun h => by cases h⟩
    · exact trodAll_mk1 (shut_bool under4 true)
    · exact trodAll_mk1 (keep (by kernel_rfl) (of_decide_eq_true (by kernel_rfl)) h0)
theorem graphEntered_holds : Rows.GraphEnteredSaid :=
  OpenClaim.holds_of_wide 4 Tryd.f4 rfl rfl rfl rfl rfl rfl rfl ⟨rfl, rfl, rfl, rfl, rfl⟩ rfl rfl rfl rfl rfl (by kernel_rfl) Tryd.func4 (by kernel_rfl)
    (of_decide_eq_true (by kernel_rfl)) (by unfold Func.isWrapper; first | (rw [if_pos (by decide +kernel)]; kernel_rfl) | (rw [if_neg (by decide +kernel)]; exact ⟨rfl, rfl⟩))
    (fun os started H enc _ => graphEntered_lifted os started H enc)
theorem graphEntered_card : Rows.GraphEnteredCardSaid :=
  Claim7.holds_tied_plain_at .later [] [.widerDeep] true (true, "4b02b7231c8297838866c34e745af86aba5092bcd8b28a04d716e531903cc623") true
    graphEntered_holds (fun _ h => by cases h) (by kernel_rfl) (fun _ h => by cases h) graphEntered_row_tie rfl ⟨rfl, rfl⟩ (by kernel_rfl) rfl
    (fun f fn hf hfn => by
      obtain rfl : f = 4 := Option.some.inj ((show Tryd.prog.funcNamed "bireme/biremelaw10.GraphEntered" = some 4 by kernel_rfl).symm.trans hf) |>.symm
      obtain rfl : fn = Tryd.f4 := (Option.some.inj (Tryd.func4.symm.trans hfn)).symm
      exact ⟨by kernel_rfl, fun j t ht => by
        have ht : [25][j]? = some t := by simpa using ht
        have h3 : t = 25 := by
          rcases j with _ | j
          · simpa using ht.symm
          · simp at ht
        subst h3
        exact (show Tryd.prog.wantsStandIn 25 = false by kernel_rfl)⟩)
    (by kernel_rfl)
#print axioms graphEntered_card
end Go.Proofs.YtoophlkbngagcaaDoor
