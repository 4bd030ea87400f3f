/-
  DERIVED. GIVEN WITH THE SEED: THE CARDS: each row of YtoophlkbngagcaaDoorRows.lean that lists a variable, with what it lists TIED to the program's text (the seventh form; the later family's looks); each row that meets fmt, with fmt's text TOLD by the authors' own Lean function (tested against real Go, not proved from fmt's source: count such statements apart). THE CARD IS WHAT COUNTS. Prove the row's statement (the work); the ties are given (YtoophlkbngagcaaDoorTie.lean); close each card by the builder's one call (the guide's Derived/Test/ToyasCard.lean, 'card_holds'). Laid BY PROGRAM, IN A SANDBOX (cutbox-door.mjs). By AI agents, Wed Nov 11 2026. No macro, syntax, notation, axiom, sorry.
-/
import Derived.Test.YtoophlkbngagcaaDoorRows
import GoSem.ClaimSeven
namespace Go.Proofs.YtoophlkbngagcaaDoor
namespace Rows

/-- THE TIED CARD OF 'biremelaw10.GraphNested'. -/
def graphNestedCard : Claim7 := { stood := { row := graphNestedRow, standIns := [], harness := (true, "4b02b7231c8297838866c34e745af86aba5092bcd8b28a04d716e531903cc623"), looks := true }, kinds := [], alts := [], laidByText := true, laidKinds := [.widerDeep], laidTests := true, laidLooks := .later }
def GraphNestedCardSaid : Prop := Claim7.holds Tryd.pinned (.plain (OpenSpec.ofChange graphNestedSpec)) graphNestedCard

/-- THE TIED CARD OF 'biremelaw10.GraphEntered'. -/
def graphEnteredCard : Claim7 := { stood := { row := graphEnteredRow, standIns := [], harness := (true, "4b02b7231c8297838866c34e745af86aba5092bcd8b28a04d716e531903cc623"), looks := true }, kinds := [], alts := [], laidByText := true, laidKinds := [.widerDeep], laidTests := true, laidLooks := .later }
def GraphEnteredCardSaid : Prop := Claim7.holds Tryd.pinned (.plain (OpenSpec.ofChange graphEnteredSpec)) graphEnteredCard

/-- THE TIED CARD OF 'biremelaw10.GraphTree'. -/
def graphTreeCard : Claim7 := { stood := { row := graphTreeRow, standIns := [], harness := (true, "4b02b7231c8297838866c34e745af86aba5092bcd8b28a04d716e531903cc623"), looks := true }, kinds := [], alts := [], laidByText := true, laidKinds := [.widerDeep], laidTests := true, laidLooks := .later }
def GraphTreeCardSaid : Prop := Claim7.holds Tryd.pinned (.plain (OpenSpec.ofChange graphTreeSpec)) graphTreeCard

/-- THE SECOND FORM's CARD OF 'biremelaw10.GraphNested'. -/
def graphNestedUptoCard : Claim7 := { stood := { row := graphNestedUptoRow, standIns := [], harness := (true, "4b02b7231c8297838866c34e745af86aba5092bcd8b28a04d716e531903cc623"), looks := true }, kinds := [], alts := [], laidByText := true, laidKinds := [.widerDeep], laidTests := true, laidLooks := .later }
def GraphNestedUptoCardSaid : Prop := Claim7.holds Tryd.pinned (.plain (OpenSpec.upto graphNestedSpec)) graphNestedUptoCard

/-- THE SECOND FORM's CARD OF 'biremelaw10.GraphEntered'. -/
def graphEnteredUptoCard : Claim7 := { stood := { row := graphEnteredUptoRow, standIns := [], harness := (true, "4b02b7231c8297838866c34e745af86aba5092bcd8b28a04d716e531903cc623"), looks := true }, kinds := [], alts := [], laidByText := true, laidKinds := [.widerDeep], laidTests := true, laidLooks := .later }
def GraphEnteredUptoCardSaid : Prop := Claim7.holds Tryd.pinned (.plain (OpenSpec.upto graphEnteredSpec)) graphEnteredUptoCard

/-- THE SECOND FORM's CARD OF 'biremelaw10.GraphTree'. -/
def graphTreeUptoCard : Claim7 := { stood := { row := graphTreeUptoRow, standIns := [], harness := (true, "4b02b7231c8297838866c34e745af86aba5092bcd8b28a04d716e531903cc623"), looks := true }, kinds := [], alts := [], laidByText := true, laidKinds := [.widerDeep], laidTests := true, laidLooks := .later }
def GraphTreeUptoCardSaid : Prop := Claim7.holds Tryd.pinned (.plain (OpenSpec.upto graphTreeSpec)) graphTreeUptoCard
end Rows
end Go.Proofs.YtoophlkbngagcaaDoor
