/-
  DERIVED. GIVEN WITH THE SEED: THE CARDS: each row of YtjofhmdjaijgcaaGreatDoorRows.lean that lists a variable, with what it lists TIED to the program's text (the seventh form; the later family's looks); each row that meets fmt, with fmt's text TOLD by the authors' own Lean function (tested against real Go, not proved from fmt's source: count such statements apart). THE CARD IS WHAT COUNTS. Prove the row's statement (the work); the ties are given (YtjofhmdjaijgcaaGreatDoorTie.lean); close each card by the builder's one call (the guide's Derived/Test/ToyasCard.lean, 'card_holds'). Laid BY PROGRAM, IN A SANDBOX (cutbox-door.mjs). By AI agents, Wed Nov 11 2026. No macro, syntax, notation, axiom, sorry.
-/
import Derived.Test.YtjofhmdjaijgcaaGreatDoorRows
import GoSem.ClaimSeven
namespace Go.Proofs.YtjofhmdjaijgcaaGreatDoor
namespace Rows

/-- THE TIED CARD OF 'biremelaw11.LiveLeast'. -/
def liveLeastCard : Claim7 := { stood := { row := liveLeastRow, standIns := [], harness := (true, "93000cc5b1c8d9e89ba04365f5f27ccbc268fb68a80629091d1405a0bc767433"), looks := true }, kinds := [], alts := [], laidByText := true, laidKinds := [.widerDeep], laidTests := true, laidLooks := .later }
def LiveLeastCardSaid : Prop := Claim7.holds Tryz.pinned (.plain (OpenSpec.ofChange liveLeastSpec)) liveLeastCard

/-- THE TIED CARD OF 'biremelaw11.LiveAll'. -/
def liveAllCard : Claim7 := { stood := { row := liveAllRow, standIns := [], harness := (true, "93000cc5b1c8d9e89ba04365f5f27ccbc268fb68a80629091d1405a0bc767433"), looks := true }, kinds := [], alts := [], laidByText := true, laidKinds := [.widerDeep], laidTests := true, laidLooks := .later }
def LiveAllCardSaid : Prop := Claim7.holds Tryz.pinned (.plain (OpenSpec.ofChange liveAllSpec)) liveAllCard

/-- THE TIED CARD OF 'biremelaw11.LiveMost'. -/
def liveMostCard : Claim7 := { stood := { row := liveMostRow, standIns := [], harness := (true, "93000cc5b1c8d9e89ba04365f5f27ccbc268fb68a80629091d1405a0bc767433"), looks := true }, kinds := [], alts := [], laidByText := true, laidKinds := [.widerDeep], laidTests := true, laidLooks := .later }
def LiveMostCardSaid : Prop := Claim7.holds Tryz.pinned (.plain (OpenSpec.ofChange liveMostSpec)) liveMostCard

/-- THE SECOND FORM's CARD OF 'biremelaw11.LiveLeast'. -/
def liveLeastUptoCard : Claim7 := { stood := { row := liveLeastUptoRow, standIns := [], harness := (true, "93000cc5b1c8d9e89ba04365f5f27ccbc268fb68a80629091d1405a0bc767433"), looks := true }, kinds := [], alts := [], laidByText := true, laidKinds := [.widerDeep], laidTests := true, laidLooks := .later }
def LiveLeastUptoCardSaid : Prop := Claim7.holds Tryz.pinned (.plain (OpenSpec.upto liveLeastSpec)) liveLeastUptoCard

/-- THE SECOND FORM's CARD OF 'biremelaw11.LiveAll'. -/
def liveAllUptoCard : Claim7 := { stood := { row := liveAllUptoRow, standIns := [], harness := (true, "93000cc5b1c8d9e89ba04365f5f27ccbc268fb68a80629091d1405a0bc767433"), looks := true }, kinds := [], alts := [], laidByText := true, laidKinds := [.widerDeep], laidTests := true, laidLooks := .later }
def LiveAllUptoCardSaid : Prop := Claim7.holds Tryz.pinned (.plain (OpenSpec.upto liveAllSpec)) liveAllUptoCard

/-- THE SECOND FORM's CARD OF 'biremelaw11.LiveMost'. -/
def liveMostUptoCard : Claim7 := { stood := { row := liveMostUptoRow, standIns := [], harness := (true, "93000cc5b1c8d9e89ba04365f5f27ccbc268fb68a80629091d1405a0bc767433"), looks := true }, kinds := [], alts := [], laidByText := true, laidKinds := [.widerDeep], laidTests := true, laidLooks := .later }
def LiveMostUptoCardSaid : Prop := Claim7.holds Tryz.pinned (.plain (OpenSpec.upto liveMostSpec)) liveMostUptoCard
end Rows
end Go.Proofs.YtjofhmdjaijgcaaGreatDoor
