/- DERIVED HERE. LiveEdges answers true at every input. Condition: bireme/code.forms holds what the program's text lays there (tied by the card). -/
import Derived.Test.YtfkdjajpopocpaaDoorOpU
import Derived.Test.YtfkdjajpopocpaaDoorTie
import Derived.Test.YtfkdjajpopocpaaDoorCards
import Derived.ChangeSame
import Derived.ChangeVars
import Derived.JoinedOf
import Derived.Carry
import Derived.LaidMore
import Derived.SevenTiedAt
set_option linter.unusedSimpArgs false
set_option linter.unusedVariables false
namespace Go.Proofs.YtfkdjajpopocpaaDoor
open Go.ChangeShapes Go.WideShapes Go.RowKit Go.Cl
set_option maxRecDepth 100000
theorem own : ownKnob Tryd.prog.godebug = none := by kernel_rfl
theorem laidOut : laidOutB Tryd.prog = true := by kernel_rfl
theorem under4 : Tryd.prog.underlying 4 = some .bool := by kernel_rfl
theorem met_here (os : Os) (args : Array Value) : laidMetH Tryd.prog [("bireme/code.forms", Rows.laid_bireme_code_forms)] ((World.doorLaid Tryd.prog 400 os).forCall (fun _ _ => 0) ⟨#[], args, []⟩).memory :=
  laidMetH_of_parts3 (fuel := 8) (laidMet_of_run' 8 (by kernel_rfl) (by kernel_rfl)) (by kernel_rfl) (by kernel_rfl)
def gs0 : Nat → CV := fun g => if g = 0 then .iptr formsC else .any
theorem gs0_rep {W : World} (h : Rep W (.iptr formsC) (.pointer (some ⟨0, 0, none⟩))) : ∀ g, Rep W (gs0 g) (.pointer (some ⟨g, 0, none⟩)) := fun g => by
  simp only [gs0]
  split
  · rename_i e; subst e; exact h
  · exact .any _
/-- From the contract of a call on what came in to a call of the machine: it says true, and nothing that was there has turned. -/
theorem calls_of {W : World} {f : FuncId} {args : List CV} {av : Array Value} (h : CC Tryd.prog W f args (fun _ => none) fun x H' => x = .ret (.bool true) ∧ H' = fun _ => none) (hr : RepL W args av.toList) :
    Calls Tryd.prog f av W fun e W' => e = .returned (.bool true) ∧ Below W.heap.size W W' := by
  refine ((h.out (fun _ => none) av W (fun i => .inl rfl) hr (held_self W)).calls (fun k => by simp [Fence.room, fen])).mono ?_
  rintro e W' ⟨x, H', hx, hd, hh, rfl, rfl⟩
  refine ⟨?_, hh.below⟩
  cases e with
  | returned v => simp only [RepEnd] at hx; cases hx; rfl
  | _ => simp [RepEnd] at hx
theorem liveEdges_lifted (os : Os) (started : os.Started) (H : Type) (enc : TypeId × Value → H) :
    ReturnsInHanded {} Tryd.checked os 4 .any (fun w args => (Rows.liveEdgesSpec.pre enc Tryd.prog Tryd.f4 [] false w args ∧ laidMetH Tryd.prog [("bireme/code.forms", Rows.laid_bireme_code_forms)] w) ∧ sizedMet enc Tryd.prog Tryd.f4 (OpenSpec.ofChange Rows.liveEdgesSpec) false w args)
      (Rows.liveEdgesSpec.post enc Tryd.prog Tryd.f4 false true false false) := by
  refine returnsInHanded_of_change_and (C := Tryd.checked) (X := fun w _ => laidMetH Tryd.prog [("bireme/code.forms", Rows.laid_bireme_code_forms)] w) (fun _ _ _ hh h => h.of_heap hh) own started (by kernel_rfl) Tryd.func4
    (ChangeSpec.witness_shaped (enc := enc) (C := Tryd.checked) (os := os) (X := fun w _ => laidMetH Tryd.prog [("bireme/code.forms", Rows.laid_bireme_code_forms)] w) false (World.doorLaid Tryd.prog 400 os) #[.agg #[.slice none 0 0, .int .i64 0, .int .i64 0, .int .i64 0, .int .i64 0, .slice none 0 0]] 8 rfl (World.shaped_of_RefB (by kernel_rfl) (by kernel_rfl)) (by kernel_rfl) (by kernel_rfl) (by kernel_rfl) (met_here os _)) ?_
  intro W base args ds gs before _ hW _ _ hL _
  have hW' := hW
  obtain ⟨p, q, hA0, hV, rfl, hfz, hnd⟩ := hW
  have hA : DataW.TrodAll enc Tryd.prog W 0 (fun _ => true) true [25] args.toList ds p := hA0
  obtain ⟨v0, d0, rfl, rfl, h0⟩ := trodAll_one hA
  obtain ⟨rfl, rfl⟩ := trodVars_none hV
  obtain ⟨u, hu⟩ := unit_in h0
  have hX := hX_of gs0 (gs0_rep (forms_in hL))
  refine (calls_of (liveEdges_c hX rfl u _) ⟨rfl, fun i x v hx hv => ?_⟩).mono ?_
  · cases i with
    | zero => simp at hx hv; subst hx; subst hv; exact hu
    | succ i => simp at hx
  · rintro e W' ⟨rfl, hb⟩
    refine ⟨_, rfl, _, _, _, [], p, [], hW', ?_, ?_, rfl, hb.frame _, fun h => by cases h⟩
    · exact trodAll_mk1 (shut_bool under4 true)
    · refine trodAll_mk1 (Below.trod laidOut (by kernel_rfl) (of_decide_eq_true (by kernel_rfl)) h0 hb ?_)
      obtain ⟨n, h1⟩ := h0
      exact DataW.trod_lt n _ _ _ h1
theorem liveEdges_holds : Rows.LiveEdgesSaid :=
  OpenClaim.holds_of_wide 4 Tryd.f4 rfl rfl rfl rfl rfl rfl rfl ⟨rfl, rfl, rfl, rfl, rfl⟩ rfl rfl rfl rfl rfl (by kernel_rfl) Tryd.func4 (by kernel_rfl)
    (of_decide_eq_true (by kernel_rfl)) (by unfold Func.isWrapper; first | (rw [if_pos (by decide +kernel)]; kernel_rfl) | (rw [if_neg (by decide +kernel)]; exact ⟨rfl, rfl⟩))
    (fun os started H enc _ => liveEdges_lifted os started H enc)
theorem liveEdges_card : Rows.LiveEdgesCardSaid :=
  Claim7.holds_tied_plain_at .later [] [.widerDeep] true (true, "90518f0db556333bd2b7241b667f52ba12ccce210fa8dfe3161bd3b9b362c6a2") true
    liveEdges_holds (fun _ h => by cases h) (by kernel_rfl) (fun _ h => by cases h) liveEdges_row_tie rfl ⟨rfl, rfl⟩ (by kernel_rfl) rfl
    (fun f fn hf hfn => by
      obtain rfl : f = 4 := Option.some.inj ((show Tryd.prog.funcNamed "bireme/biremelaw11.LiveEdges" = some 4 by kernel_rfl).symm.trans hf) |>.symm
      obtain rfl : fn = Tryd.f4 := (Option.some.inj (Tryd.func4.symm.trans hfn)).symm
      exact ⟨by kernel_rfl, fun j t ht => by
        have ht : [25][j]? = some t := by simpa using ht
        have h3 : t = 25 := by
          rcases j with _ | j
          · simpa using ht.symm
          · simp at ht
        subst h3
        exact (show Tryd.prog.wantsStandIn 25 = false by kernel_rfl)⟩)
    (by kernel_rfl)
#print axioms liveEdges_card
end Go.Proofs.YtfkdjajpopocpaaDoor
