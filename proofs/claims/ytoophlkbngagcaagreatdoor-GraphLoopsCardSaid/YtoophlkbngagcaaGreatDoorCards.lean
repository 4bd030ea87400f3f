/-
  DERIVED. GIVEN WITH THE SEED: THE CARDS: each row of YtoophlkbngagcaaGreatDoorRows.lean that lists a variable, with what it lists TIED to the program's text (the seventh form; the later family's looks); each row that meets fmt, with fmt's text TOLD by the authors' own Lean function (tested against real Go, not proved from fmt's source: count such statements apart). THE CARD IS WHAT COUNTS. Prove the row's statement (the work); the ties are given (YtoophlkbngagcaaGreatDoorTie.lean); close each card by the builder's one call (the guide's Derived/Test/ToyasCard.lean, 'card_holds'). Laid BY PROGRAM, IN A SANDBOX (cutbox-door.mjs). By AI agents, Wed Nov 11 2026. No macro, syntax, notation, axiom, sorry.
-/
import Derived.Test.YtoophlkbngagcaaGreatDoorRows
import GoSem.ClaimSeven
namespace Go.Proofs.YtoophlkbngagcaaGreatDoor
namespace Rows

/-- THE TIED CARD OF 'biremelaw10.GraphOrder'. -/
def graphOrderCard : Claim7 := { stood := { row := graphOrderRow, standIns := [], harness := (true, "f88b9d8a49037a4b05f0050bb53ae83200767092b6bd918ddc55635075415b72"), looks := true }, kinds := [], alts := [], laidByText := true, laidKinds := [.widerDeep], laidTests := true, laidLooks := .later }
def GraphOrderCardSaid : Prop := Claim7.holds Tryz.pinned (.plain (OpenSpec.ofChange graphOrderSpec)) graphOrderCard

/-- THE TIED CARD OF 'biremelaw10.GraphDominates'. -/
def graphDominatesCard : Claim7 := { stood := { row := graphDominatesRow, standIns := [], harness := (true, "f88b9d8a49037a4b05f0050bb53ae83200767092b6bd918ddc55635075415b72"), looks := true }, kinds := [], alts := [], laidByText := true, laidKinds := [.widerDeep], laidTests := true, laidLooks := .later }
def GraphDominatesCardSaid : Prop := Claim7.holds Tryz.pinned (.plain (OpenSpec.ofChange graphDominatesSpec)) graphDominatesCard

/-- THE TIED CARD OF 'biremelaw10.GraphLoops'. -/
def graphLoopsCard : Claim7 := { stood := { row := graphLoopsRow, standIns := [], harness := (true, "f88b9d8a49037a4b05f0050bb53ae83200767092b6bd918ddc55635075415b72"), looks := true }, kinds := [], alts := [], laidByText := true, laidKinds := [.widerDeep], laidTests := true, laidLooks := .later }
def GraphLoopsCardSaid : Prop := Claim7.holds Tryz.pinned (.plain (OpenSpec.ofChange graphLoopsSpec)) graphLoopsCard

/-- THE TIED CARD OF 'biremelaw10.GraphMoved'. -/
def graphMovedCard : Claim7 := { stood := { row := graphMovedRow, standIns := [], harness := (true, "f88b9d8a49037a4b05f0050bb53ae83200767092b6bd918ddc55635075415b72"), looks := true }, kinds := [], alts := [], laidByText := true, laidKinds := [.widerDeep], laidTests := true, laidLooks := .later }
def GraphMovedCardSaid : Prop := Claim7.holds Tryz.pinned (.plain (OpenSpec.ofChange graphMovedSpec)) graphMovedCard

/-- THE TIED CARD OF 'biremelaw10.GraphNext'. -/
def graphNextCard : Claim7 := { stood := { row := graphNextRow, standIns := [], harness := (true, "f88b9d8a49037a4b05f0050bb53ae83200767092b6bd918ddc55635075415b72"), looks := true }, kinds := [], alts := [], laidByText := true, laidKinds := [.widerDeep], laidTests := true, laidLooks := .later }
def GraphNextCardSaid : Prop := Claim7.holds Tryz.pinned (.plain (OpenSpec.ofChange graphNextSpec)) graphNextCard

/-- THE SECOND FORM's CARD OF 'biremelaw10.GraphOrder'. -/
def graphOrderUptoCard : Claim7 := { stood := { row := graphOrderUptoRow, standIns := [], harness := (true, "f88b9d8a49037a4b05f0050bb53ae83200767092b6bd918ddc55635075415b72"), looks := true }, kinds := [], alts := [], laidByText := true, laidKinds := [.widerDeep], laidTests := true, laidLooks := .later }
def GraphOrderUptoCardSaid : Prop := Claim7.holds Tryz.pinned (.plain (OpenSpec.upto graphOrderSpec)) graphOrderUptoCard

/-- THE SECOND FORM's CARD OF 'biremelaw10.GraphDominates'. -/
def graphDominatesUptoCard : Claim7 := { stood := { row := graphDominatesUptoRow, standIns := [], harness := (true, "f88b9d8a49037a4b05f0050bb53ae83200767092b6bd918ddc55635075415b72"), looks := true }, kinds := [], alts := [], laidByText := true, laidKinds := [.widerDeep], laidTests := true, laidLooks := .later }
def GraphDominatesUptoCardSaid : Prop := Claim7.holds Tryz.pinned (.plain (OpenSpec.upto graphDominatesSpec)) graphDominatesUptoCard

/-- THE SECOND FORM's CARD OF 'biremelaw10.GraphLoops'. -/
def graphLoopsUptoCard : Claim7 := { stood := { row := graphLoopsUptoRow, standIns := [], harness := (true, "f88b9d8a49037a4b05f0050bb53ae83200767092b6bd918ddc55635075415b72"), looks := true }, kinds := [], alts := [], laidByText := true, laidKinds := [.widerDeep], laidTests := true, laidLooks := .later }
def GraphLoopsUptoCardSaid : Prop := Claim7.holds Tryz.pinned (.plain (OpenSpec.upto graphLoopsSpec)) graphLoopsUptoCard

/-- THE SECOND FORM's CARD OF 'biremelaw10.GraphMoved'. -/
def graphMovedUptoCard : Claim7 := { stood := { row := graphMovedUptoRow, standIns := [], harness := (true, "f88b9d8a49037a4b05f0050bb53ae83200767092b6bd918ddc55635075415b72"), looks := true }, kinds := [], alts := [], laidByText := true, laidKinds := [.widerDeep], laidTests := true, laidLooks := .later }
def GraphMovedUptoCardSaid : Prop := Claim7.holds Tryz.pinned (.plain (OpenSpec.upto graphMovedSpec)) graphMovedUptoCard

/-- THE SECOND FORM's CARD OF 'biremelaw10.GraphNext'. -/
def graphNextUptoCard : Claim7 := { stood := { row := graphNextUptoRow, standIns := [], harness := (true, "f88b9d8a49037a4b05f0050bb53ae83200767092b6bd918ddc55635075415b72"), looks := true }, kinds := [], alts := [], laidByText := true, laidKinds := [.widerDeep], laidTests := true, laidLooks := .later }
def GraphNextUptoCardSaid : Prop := Claim7.holds Tryz.pinned (.plain (OpenSpec.upto graphNextSpec)) graphNextUptoCard
end Rows
end Go.Proofs.YtoophlkbngagcaaGreatDoor
