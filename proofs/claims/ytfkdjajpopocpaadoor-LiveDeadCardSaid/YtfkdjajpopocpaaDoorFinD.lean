/- DERIVED HERE. LiveDead answers true at every input. Condition: bireme/code.forms holds what the program's text lays there (tied by the card). -/
import Derived.Test.YtfkdjajpopocpaaDoorFinC
import Derived.Test.YtfkdjajpopocpaaDoorEK
set_option linter.unusedSimpArgs false
set_option linter.unusedVariables false
namespace Go.Proofs.YtfkdjajpopocpaaDoor
open Go.ChangeShapes Go.WideShapes Go.RowKit Go.Cl
set_option maxRecDepth 100000
theorem u16_lt {n : Int} (h : (Lit.int IntKind.u16 n).wf = true) : 0 ≤ n ∧ n < 65536 := by
  have h0 : IntKind.u16.min = 0 := by decide
  have h1 : IntKind.u16.max = 65535 := by decide
  simp only [Lit.wf, Bool.and_eq_true, decide_eq_true_eq, h0, h1] at h
  omega
theorem dec_change {W : World} : Dec Tryd.prog W 29 3 fun xs => ∃ a b n : Int, xs = [.int .u16 a, .int .u16 b, ci n] ∧ (0 ≤ a ∧ a < 65536) ∧ (0 ≤ b ∧ b < 65536) :=
  (dec_struct [(27, 1, RIntW .u16), (27, 1, RIntW .u16), (2, 1, RInt .i64)] (by kernel_rfl) (by kernel_rfl) rfl (fun x hx => by
    simp only [List.mem_cons, List.not_mem_nil, or_false] at hx
    rcases hx with rfl | rfl | rfl <;> first | exact dec_intW (by kernel_rfl) (by kernel_rfl) | exact dI2)).mono (by
    rintro xs ⟨_, _, rfl, ⟨n0, rfl, w0⟩, _, _, rfl, ⟨n1, rfl, w1⟩, _, _, rfl, ⟨n2, rfl⟩, h⟩
    cases h
    exact ⟨n0, n1, n2, rfl, u16_lt w0, u16_lt w1⟩)
theorem liveDead_lifted (os : Os) (started : os.Started) (H : Type) (enc : TypeId × Value → H) :
    ReturnsInHanded {} Tryd.checked os 3 .any (fun w args => (Rows.liveDeadSpec.pre enc Tryd.prog Tryd.f3 [] false w args ∧ laidMetH Tryd.prog [("bireme/code.forms", Rows.laid_bireme_code_forms)] w) ∧ sizedMet enc Tryd.prog Tryd.f3 (OpenSpec.ofChange Rows.liveDeadSpec) false w args)
      (Rows.liveDeadSpec.post enc Tryd.prog Tryd.f3 false true false false) := by
  refine returnsInHanded_of_change_and (C := Tryd.checked) (X := fun w _ => laidMetH Tryd.prog [("bireme/code.forms", Rows.laid_bireme_code_forms)] w) (fun _ _ _ hh h => h.of_heap hh) own started (by kernel_rfl) Tryd.func3
    (ChangeSpec.witness_shaped (enc := enc) (C := Tryd.checked) (os := os) (X := fun w _ => laidMetH Tryd.prog [("bireme/code.forms", Rows.laid_bireme_code_forms)] w) false (World.doorLaid Tryd.prog 400 os) #[.agg #[.slice none 0 0, .int .i64 0, .int .i64 0, .int .i64 0, .int .i64 0, .slice none 0 0], .slice none 0 0, .agg #[.int .u16 0, .int .u16 0, .int .i64 0]] 8 rfl (World.shaped_of_RefB (by kernel_rfl) (by kernel_rfl)) (by kernel_rfl) (by kernel_rfl) (by kernel_rfl) (met_here os _)) ?_
  intro W base args ds gs before hok hW _ _ hL _
  have hW' := hW
  obtain ⟨p, q, hA0, hV, rfl, hfz, hnd⟩ := hW
  have hA : DataW.TrodAll enc Tryd.prog W 0 (fun _ => true) true [25, 26, 29] args.toList ds p := hA0
  obtain ⟨v0, v1, v2, d0, d1, d2, p0, p1, p2, rfl, rfl, rfl, h0, h1, h2⟩ := trodAll_three hA
  obtain ⟨rfl, rfl⟩ := trodVars_none hV
  obtain ⟨u, hu⟩ := unit_in h0
  obtain ⟨a1, l1, c1, hv1⟩ := okWide_slice (e := 2) (by kernel_rfl) (hok 1 26 v1 (by kernel_rfl) rfl)
  obtain ⟨x1, ⟨A, hx1⟩, hr1⟩ := one_in dec_args h1 (by rw [hv1]; rfl)
  obtain ⟨_, ⟨wh, rg, num, rfl, hwh, hrg⟩, hr2⟩ := agg_in dec_change (by decide) h2
  injection hx1 with hx1
  subst hx1
  have hX := hX_of gs0 (gs0_rep (forms_in hL))
  refine (calls_of (liveDead_c hX rfl u A wh rg num hwh hrg _) ⟨rfl, fun i x v hx hv => ?_⟩).mono ?_
  · rcases i with _|_|_|i
    · simp at hx hv; subst hx; subst hv; exact hu
    · simp at hx hv; subst hx; subst hv; exact hr1
    · simp at hx hv; subst hx; subst hv; exact hr2
    · simp at hx
  · rintro e W' ⟨rfl, hb⟩
    have keep : ∀ {t v d p}, Tryd.prog.readableRec t = true → t < Tryd.prog.types.size → DataW.Trod enc Tryd.prog W 0 (fun _ => true) true t v d p → DataW.Trod enc Tryd.prog W' 0 (fun b => decide (b < W.heap.size)) true t v d p := fun {t v d p} hr ht h => by
      refine Below.trod laidOut hr ht h hb ?_
      obtain ⟨n, h1⟩ := h
      exact DataW.trod_lt n _ _ _ h1
    refine ⟨_, rfl, _, _, _, [], p0 ++ (p1 ++ p2), [], hW', ?_, ?_, rfl, hb.frame _, fun h => by cases h⟩
    · exact trodAll_mk1 (shut_bool under4 true)
    · exact trodAll_mk3 (keep (by kernel_rfl) (of_decide_eq_true (by kernel_rfl)) h0) (keep (by kernel_rfl) (of_decide_eq_true (by kernel_rfl)) h1) (keep (by kernel_rfl) (of_decide_eq_true (by kernel_rfl)) h2)
theorem liveDead_holds : Rows.LiveDeadSaid :=
  OpenClaim.holds_of_wide 3 Tryd.f3 rfl rfl rfl rfl rfl rfl rfl ⟨rfl, rfl, rfl, rfl, rfl⟩ rfl rfl rfl rfl rfl (by kernel_rfl) Tryd.func3 (by kernel_rfl)
    (of_decide_eq_true (by kernel_rfl)) (by unfold Func.isWrapper; first | (rw [if_pos (by decide +kernel)]; kernel_rfl) | (rw [if_neg (by decide +kernel)]; exact ⟨rfl, rfl⟩))
    (fun os started H enc _ => liveDead_lifted os started H enc)
theorem liveDead_card : Rows.LiveDeadCardSaid :=
  Claim7.holds_tied_plain_at .later [] [.widerDeep] true (true, "90518f0db556333bd2b7241b667f52ba12ccce210fa8dfe3161bd3b9b362c6a2") true
    liveDead_holds (fun _ h => by cases h) (by kernel_rfl) (fun _ h => by cases h) liveDead_row_tie rfl ⟨rfl, rfl⟩ (by kernel_rfl) rfl
    (fun f fn hf hfn => by
      obtain rfl : f = 3 := Option.some.inj ((show Tryd.prog.funcNamed "bireme/biremelaw11.LiveDead" = some 3 by kernel_rfl).symm.trans hf) |>.symm
      obtain rfl : fn = Tryd.f3 := (Option.some.inj (Tryd.func3.symm.trans hfn)).symm
      exact ⟨by kernel_rfl, fun j t ht => by
        have ht : [25, 26, 29][j]? = some t := by simpa using ht
        have h3 : t = 25 ∨ t = 26 ∨ t = 29 := by
          rcases j with _ | _ | _ | j
          · exact .inl (by simpa using ht.symm)
          · exact .inr (.inl (by simpa using ht.symm))
          · exact .inr (.inr (by simpa using ht.symm))
          · simp at ht
        rcases h3 with rfl | rfl | rfl
        · exact (show Tryd.prog.wantsStandIn 25 = false by kernel_rfl)
        · exact (show Tryd.prog.wantsStandIn 26 = false by kernel_rfl)
        · exact (show Tryd.prog.wantsStandIn 29 = false by kernel_rfl)⟩)
    (by kernel_rfl)
#print axioms liveDead_card
end Go.Proofs.YtfkdjajpopocpaaDoor
