/-
  DERIVED. GIVEN WITH THE SEED: THE CARDS: each row of YtdoifdjodafakaaGreatDoorRows.lean that lists a variable, with what it lists TIED to the program's text (the seventh form; the later family's looks); each row that meets fmt, with fmt's text TOLD by the authors' own Lean function (tested against real Go, not proved from fmt's source: count such statements apart). THE CARD IS WHAT COUNTS. Prove the row's statement (the work); the ties are given (YtdoifdjodafakaaGreatDoorTie.lean); close each card by the builder's one call (the guide's Derived/Test/ToyasCard.lean, 'card_holds'). Laid BY PROGRAM, IN A SANDBOX (cutbox-door.mjs). By AI agents, Wed Nov 11 2026. No macro, syntax, notation, axiom, sorry.
-/
import Derived.Test.YtdoifdjodafakaaGreatDoorRows
import GoSem.ClaimSeven
namespace Go.Proofs.YtdoifdjodafakaaGreatDoor
namespace Rows

/-- THE TIED CARD OF 'biremelaw11.LiveAt'. -/
def liveAtCard : Claim7 := { stood := { row := liveAtRow, standIns := [], harness := (true, "2f09587031a3da4013f6a24eab848889709f0a8d88cbbd8d5a4ade61bfcb5d48"), looks := true }, kinds := [], alts := [], laidByText := true, laidKinds := [.widerDeep], laidTests := true, laidLooks := .later }
def LiveAtCardSaid : Prop := Claim7.holds Tryz.pinned (.plain (OpenSpec.ofChange liveAtSpec)) liveAtCard

/-- THE SECOND FORM's CARD OF 'biremelaw11.LiveAt'. -/
def liveAtUptoCard : Claim7 := { stood := { row := liveAtUptoRow, standIns := [], harness := (true, "2f09587031a3da4013f6a24eab848889709f0a8d88cbbd8d5a4ade61bfcb5d48"), looks := true }, kinds := [], alts := [], laidByText := true, laidKinds := [.widerDeep], laidTests := true, laidLooks := .later }
def LiveAtUptoCardSaid : Prop := Claim7.holds Tryz.pinned (.plain (OpenSpec.upto liveAtSpec)) liveAtUptoCard
end Rows
end Go.Proofs.YtdoifdjodafakaaGreatDoor
