/-
  DERIVED. GIVEN WITH THE SEED: THE CARDS: each row of YtfkdjajpopocpaaDoorRows.lean that lists a variable, with what it lists TIED to the program's text (the seventh form; the later family's looks); each row that meets fmt, with fmt's text TOLD by the authors' own Lean function (tested against real Go, not proved from fmt's source: count such statements apart). THE CARD IS WHAT COUNTS. Prove the row's statement (the work); the ties are given (YtfkdjajpopocpaaDoorTie.lean); close each card by the builder's one call (the guide's Derived/Test/ToyasCard.lean, 'card_holds'). Laid BY PROGRAM, IN A SANDBOX (cutbox-door.mjs). By AI agents, Wed Nov 11 2026. No macro, syntax, notation, axiom, sorry.
-/
import Derived.Test.YtfkdjajpopocpaaDoorRows
import GoSem.ClaimSeven
namespace Go.Proofs.YtfkdjajpopocpaaDoor
namespace Rows

/-- THE TIED CARD OF 'biremelaw11.LiveDead'. -/
def liveDeadCard : Claim7 := { stood := { row := liveDeadRow, standIns := [], harness := (true, "90518f0db556333bd2b7241b667f52ba12ccce210fa8dfe3161bd3b9b362c6a2"), looks := true }, kinds := [], alts := [], laidByText := true, laidKinds := [.widerDeep], laidTests := true, laidLooks := .later }
def LiveDeadCardSaid : Prop := Claim7.holds Tryd.pinned (.plain (OpenSpec.ofChange liveDeadSpec)) liveDeadCard

/-- THE TIED CARD OF 'biremelaw11.LiveEdges'. -/
def liveEdgesCard : Claim7 := { stood := { row := liveEdgesRow, standIns := [], harness := (true, "90518f0db556333bd2b7241b667f52ba12ccce210fa8dfe3161bd3b9b362c6a2"), looks := true }, kinds := [], alts := [], laidByText := true, laidKinds := [.widerDeep], laidTests := true, laidLooks := .later }
def LiveEdgesCardSaid : Prop := Claim7.holds Tryd.pinned (.plain (OpenSpec.ofChange liveEdgesSpec)) liveEdgesCard

/-- THE TIED CARD OF 'biremelaw11.LiveApart'. -/
def liveApartCard : Claim7 := { stood := { row := liveApartRow, standIns := [], harness := (true, "90518f0db556333bd2b7241b667f52ba12ccce210fa8dfe3161bd3b9b362c6a2"), looks := true }, kinds := [], alts := [], laidByText := true, laidKinds := [.widerDeep], laidTests := true, laidLooks := .later }
def LiveApartCardSaid : Prop := Claim7.holds Tryd.pinned (.plain (OpenSpec.ofChange liveApartSpec)) liveApartCard

/-- THE SECOND FORM's CARD OF 'biremelaw11.LiveDead'. -/
def liveDeadUptoCard : Claim7 := { stood := { row := liveDeadUptoRow, standIns := [], harness := (true, "90518f0db556333bd2b7241b667f52ba12ccce210fa8dfe3161bd3b9b362c6a2"), looks := true }, kinds := [], alts := [], laidByText := true, laidKinds := [.widerDeep], laidTests := true, laidLooks := .later }
def LiveDeadUptoCardSaid : Prop := Claim7.holds Tryd.pinned (.plain (OpenSpec.upto liveDeadSpec)) liveDeadUptoCard

/-- THE SECOND FORM's CARD OF 'biremelaw11.LiveEdges'. -/
def liveEdgesUptoCard : Claim7 := { stood := { row := liveEdgesUptoRow, standIns := [], harness := (true, "90518f0db556333bd2b7241b667f52ba12ccce210fa8dfe3161bd3b9b362c6a2"), looks := true }, kinds := [], alts := [], laidByText := true, laidKinds := [.widerDeep], laidTests := true, laidLooks := .later }
def LiveEdgesUptoCardSaid : Prop := Claim7.holds Tryd.pinned (.plain (OpenSpec.upto liveEdgesSpec)) liveEdgesUptoCard

/-- THE SECOND FORM's CARD OF 'biremelaw11.LiveApart'. -/
def liveApartUptoCard : Claim7 := { stood := { row := liveApartUptoRow, standIns := [], harness := (true, "90518f0db556333bd2b7241b667f52ba12ccce210fa8dfe3161bd3b9b362c6a2"), looks := true }, kinds := [], alts := [], laidByText := true, laidKinds := [.widerDeep], laidTests := true, laidLooks := .later }
def LiveApartUptoCardSaid : Prop := Claim7.holds Tryd.pinned (.plain (OpenSpec.upto liveApartSpec)) liveApartUptoCard
end Rows
end Go.Proofs.YtfkdjajpopocpaaDoor
