/- DERIVED HERE. What the rows' proofs share. -/
import Derived.Test.YtoophlkbngagcaaGreatDoorOpU
import Derived.Test.YtoophlkbngagcaaGreatDoorTie
import Derived.Test.YtoophlkbngagcaaGreatDoorCards
import Derived.ChangeSame
import Derived.ChangeVars
import Derived.JoinedOf
import Derived.Carry
import Derived.LaidMore
import Derived.SevenTiedAt
set_option linter.unusedSimpArgs false
set_option linter.unusedVariables false
namespace Go.Proofs.YtoophlkbngagcaaGreatDoor
open Go.ChangeShapes Go.WideShapes Go.RowKit Go.Cl
set_option maxRecDepth 100000
theorem own : ownKnob Tryz.prog.godebug = none := by kernel_rfl
theorem laidOut : laidOutB Tryz.prog = true := by kernel_rfl
theorem under4 : Tryz.prog.underlying 4 = some .bool := by kernel_rfl
theorem met_here (os : Os) (args : Array Value) : laidMetH Tryz.prog [("bireme/code.forms", Rows.laid_bireme_code_forms)] ((World.doorLaid Tryz.prog 400 os).forCall (fun _ _ => 0) ⟨#[], args, []⟩).memory :=
  laidMetH_of_parts3 (fuel := 8) (laidMet_of_run' 8 (by kernel_rfl) (by kernel_rfl)) (by kernel_rfl) (by kernel_rfl)
def gs0 : Nat → CV := fun g => if g = 0 then .iptr formsC else .any
theorem gs0_rep {W : World} (h : Rep W (.iptr formsC) (.pointer (some ⟨0, 0, none⟩))) : ∀ g, Rep W (gs0 g) (.pointer (some ⟨g, 0, none⟩)) := fun g => by
  simp only [gs0]
  split
  · rename_i e; subst e; exact h
  · exact .any _
/-- From the contract of a call on what came in to a call of the machine: it says true, and nothing that was there has turned. -/
theorem calls_of {W : World} {f : FuncId} {args : List CV} {av : Array Value} (h : CC Tryz.prog W f args (fun _ => none) fun x H' => x = .ret (.bool true) ∧ H' = fun _ => none) (hr : RepL W args av.toList) :
    Calls Tryz.prog f av W fun e W' => e = .returned (.bool true) ∧ Below W.heap.size W W' := by
  refine ((h.out (fun _ => none) av W (fun i => .inl rfl) hr (held_self W)).calls (fun k => by simp [Fence.room, fen])).mono ?_
  rintro e W' ⟨x, H', hx, hd, hh, rfl, rfl⟩
  refine ⟨?_, hh.below⟩
  cases e with
  | returned v => simp only [RepEnd] at hx; cases hx; rfl
  | _ => simp [RepEnd] at hx
/-- As dec_int, with the number's bounds. -/
def RIntW (k : IntKind) (xs : List CV) : Prop := ∃ n, xs = [.int k n] ∧ (Lit.int k n).wf = true
theorem dec_intW {P : Program} {W : World} {t : TypeId} {k : IntKind} (ht : P.underlying t = some (.int k)) (hc : P.cellsOf t = 1) : Dec P W t 1 (RIntW k) :=
  ⟨hc, fun enc base spare held fuel cs x h => by
    obtain ⟨n, rfl, _, hw⟩ := DataW.trod_int ht h
    exact ⟨[.int k n], ⟨n, rfl, hw⟩, rfl, RepC.one (.int k n) rfl⟩⟩
/-- A struct that came in. -/
theorem agg_in {W : World} {t : TypeId} {n : Nat} {R : List CV → Prop} (hd : Dec Tryz.prog W t n R) (hn : n ≠ 1) {H : Type} {enc : TypeId × Value → H} {base : Nat} {spare : Nat → Bool} {held : Bool} {v : Value} {d : DataW H} {ps : List MemPlace} (h : DataW.Trod enc Tryz.prog W base spare held t v d ps) : ∃ xs, R xs ∧ Rep W (.agg xs) v := by
  obtain ⟨fuel, h⟩ := h
  obtain ⟨xs, hR, hl, hr⟩ := hd.d _ _ _ _ _ _ _ h
  have hlen : v.cells.toList.length = n := by rw [← hr.1.1]; exact hl
  refine ⟨xs, hR, ?_⟩
  cases v with
  | agg vs => exact .agg _ _ (by simpa [Value.cells] using hr.1.1) (fun i w hw => hr.2 i w (by simpa [Value.cells] using hw)) (fun i x w hx hw => hr.1.2 i x w hx (by simpa [Value.cells] using hw))
  | _ => simp [Value.cells] at hlen; exact absurd hlen.symm hn
/-- A value of one cell that came in. -/
theorem one_in {W : World} {t : TypeId} {R : List CV → Prop} (hd : Dec Tryz.prog W t 1 R) {H : Type} {enc : TypeId × Value → H} {base : Nat} {spare : Nat → Bool} {held : Bool} {v : Value} {d : DataW H} {ps : List MemPlace} (h : DataW.Trod enc Tryz.prog W base spare held t v d ps) (hv : v.cells = #[v]) : ∃ x, R [x] ∧ Rep W x v := by
  obtain ⟨fuel, h⟩ := h
  obtain ⟨xs, hR, hl, hr⟩ := hd.d _ _ _ _ _ _ _ h
  match xs, hl with
  | [x], _ => exact ⟨x, hR, hr.1.2 0 x v rfl (by rw [hv]; rfl)⟩
end Go.Proofs.YtoophlkbngagcaaGreatDoor
