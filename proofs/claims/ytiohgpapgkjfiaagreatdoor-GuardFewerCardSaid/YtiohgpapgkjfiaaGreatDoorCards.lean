/-
  DERIVED. GIVEN WITH THE SEED: THE CARDS: each row of YtiohgpapgkjfiaaGreatDoorRows.lean that lists a variable, with what it lists TIED to the program's text (the seventh form; the later family's looks); each row that meets fmt, with fmt's text TOLD by the authors' own Lean function (tested against real Go, not proved from fmt's source: count such statements apart). THE CARD IS WHAT COUNTS. Prove the row's statement (the work); the ties are given (YtiohgpapgkjfiaaGreatDoorTie.lean); close each card by the builder's one call (the guide's Derived/Test/ToyasCard.lean, 'card_holds'). Laid BY PROGRAM, IN A SANDBOX (cutbox-door.mjs). By AI agents, Wed Nov 11 2026. No macro, syntax, notation, axiom, sorry.
-/
import Derived.Test.YtiohgpapgkjfiaaGreatDoorRows
import GoSem.ClaimSeven
namespace Go.Proofs.YtiohgpapgkjfiaaGreatDoor
namespace Rows

/-- THE TIED CARD OF 'biremelaw16.GuardShapes'. -/
def guardShapesCard : Claim7 := { stood := { row := guardShapesRow, standIns := [], harness := (true, "5e673db485cc00b4f7bb8d7a5f347f39e14babb2af9ffe0ed9e74edf012f200b"), looks := true }, kinds := [], alts := [], laidByText := true, laidKinds := [.widerDeep], laidTests := true, laidLooks := .later }
def GuardShapesCardSaid : Prop := Claim7.holds Tryz.pinned (.plain (OpenSpec.ofChange guardShapesSpec)) guardShapesCard

/-- THE TIED CARD OF 'biremelaw16.GuardConverts'. -/
def guardConvertsCard : Claim7 := { stood := { row := guardConvertsRow, standIns := [], harness := (true, "5e673db485cc00b4f7bb8d7a5f347f39e14babb2af9ffe0ed9e74edf012f200b"), looks := true }, kinds := [], alts := [], laidByText := true, laidKinds := [.widerDeep], laidTests := true, laidLooks := .later }
def GuardConvertsCardSaid : Prop := Claim7.holds Tryz.pinned (.plain (OpenSpec.ofChange guardConvertsSpec)) guardConvertsCard

/-- THE TIED CARD OF 'biremelaw16.GuardOrder'. -/
def guardOrderCard : Claim7 := { stood := { row := guardOrderRow, standIns := [], harness := (true, "5e673db485cc00b4f7bb8d7a5f347f39e14babb2af9ffe0ed9e74edf012f200b"), looks := true }, kinds := [], alts := [], laidByText := true, laidKinds := [.widerDeep], laidTests := true, laidLooks := .later }
def GuardOrderCardSaid : Prop := Claim7.holds Tryz.pinned (.plain (OpenSpec.ofChange guardOrderSpec)) guardOrderCard

/-- THE TIED CARD OF 'biremelaw16.GuardAlls'. -/
def guardAllsCard : Claim7 := { stood := { row := guardAllsRow, standIns := [], harness := (true, "5e673db485cc00b4f7bb8d7a5f347f39e14babb2af9ffe0ed9e74edf012f200b"), looks := true }, kinds := [], alts := [], laidByText := true, laidKinds := [.widerDeep], laidTests := true, laidLooks := .later }
def GuardAllsCardSaid : Prop := Claim7.holds Tryz.pinned (.plain (OpenSpec.ofChange guardAllsSpec)) guardAllsCard

/-- THE TIED CARD OF 'biremelaw16.GuardJoins'. -/
def guardJoinsCard : Claim7 := { stood := { row := guardJoinsRow, standIns := [], harness := (true, "5e673db485cc00b4f7bb8d7a5f347f39e14babb2af9ffe0ed9e74edf012f200b"), looks := true }, kinds := [], alts := [], laidByText := true, laidKinds := [.widerDeep], laidTests := true, laidLooks := .later }
def GuardJoinsCardSaid : Prop := Claim7.holds Tryz.pinned (.plain (OpenSpec.ofChange guardJoinsSpec)) guardJoinsCard

/-- THE TIED CARD OF 'biremelaw16.GuardKeeps'. -/
def guardKeepsCard : Claim7 := { stood := { row := guardKeepsRow, standIns := [], harness := (true, "5e673db485cc00b4f7bb8d7a5f347f39e14babb2af9ffe0ed9e74edf012f200b"), looks := true }, kinds := [], alts := [], laidByText := true, laidKinds := [.widerDeep], laidTests := true, laidLooks := .later }
def GuardKeepsCardSaid : Prop := Claim7.holds Tryz.pinned (.plain (OpenSpec.ofChange guardKeepsSpec)) guardKeepsCard

/-- THE TIED CARD OF 'biremelaw16.GuardFewer'. -/
def guardFewerCard : Claim7 := { stood := { row := guardFewerRow, standIns := [], harness := (true, "5e673db485cc00b4f7bb8d7a5f347f39e14babb2af9ffe0ed9e74edf012f200b"), looks := true }, kinds := [], alts := [], laidByText := true, laidKinds := [.widerDeep], laidTests := true, laidLooks := .later }
def GuardFewerCardSaid : Prop := Claim7.holds Tryz.pinned (.plain (OpenSpec.ofChange guardFewerSpec)) guardFewerCard

/-- THE SECOND FORM's CARD OF 'biremelaw16.GuardShapes'. -/
def guardShapesUptoCard : Claim7 := { stood := { row := guardShapesUptoRow, standIns := [], harness := (true, "5e673db485cc00b4f7bb8d7a5f347f39e14babb2af9ffe0ed9e74edf012f200b"), looks := true }, kinds := [], alts := [], laidByText := true, laidKinds := [.widerDeep], laidTests := true, laidLooks := .later }
def GuardShapesUptoCardSaid : Prop := Claim7.holds Tryz.pinned (.plain (OpenSpec.upto guardShapesSpec)) guardShapesUptoCard

/-- THE SECOND FORM's CARD OF 'biremelaw16.GuardConverts'. -/
def guardConvertsUptoCard : Claim7 := { stood := { row := guardConvertsUptoRow, standIns := [], harness := (true, "5e673db485cc00b4f7bb8d7a5f347f39e14babb2af9ffe0ed9e74edf012f200b"), looks := true }, kinds := [], alts := [], laidByText := true, laidKinds := [.widerDeep], laidTests := true, laidLooks := .later }
def GuardConvertsUptoCardSaid : Prop := Claim7.holds Tryz.pinned (.plain (OpenSpec.upto guardConvertsSpec)) guardConvertsUptoCard

/-- THE SECOND FORM's CARD OF 'biremelaw16.GuardOrder'. -/
def guardOrderUptoCard : Claim7 := { stood := { row := guardOrderUptoRow, standIns := [], harness := (true, "5e673db485cc00b4f7bb8d7a5f347f39e14babb2af9ffe0ed9e74edf012f200b"), looks := true }, kinds := [], alts := [], laidByText := true, laidKinds := [.widerDeep], laidTests := true, laidLooks := .later }
def GuardOrderUptoCardSaid : Prop := Claim7.holds Tryz.pinned (.plain (OpenSpec.upto guardOrderSpec)) guardOrderUptoCard

/-- THE SECOND FORM's CARD OF 'biremelaw16.GuardAlls'. -/
def guardAllsUptoCard : Claim7 := { stood := { row := guardAllsUptoRow, standIns := [], harness := (true, "5e673db485cc00b4f7bb8d7a5f347f39e14babb2af9ffe0ed9e74edf012f200b"), looks := true }, kinds := [], alts := [], laidByText := true, laidKinds := [.widerDeep], laidTests := true, laidLooks := .later }
def GuardAllsUptoCardSaid : Prop := Claim7.holds Tryz.pinned (.plain (OpenSpec.upto guardAllsSpec)) guardAllsUptoCard

/-- THE SECOND FORM's CARD OF 'biremelaw16.GuardJoins'. -/
def guardJoinsUptoCard : Claim7 := { stood := { row := guardJoinsUptoRow, standIns := [], harness := (true, "5e673db485cc00b4f7bb8d7a5f347f39e14babb2af9ffe0ed9e74edf012f200b"), looks := true }, kinds := [], alts := [], laidByText := true, laidKinds := [.widerDeep], laidTests := true, laidLooks := .later }
def GuardJoinsUptoCardSaid : Prop := Claim7.holds Tryz.pinned (.plain (OpenSpec.upto guardJoinsSpec)) guardJoinsUptoCard

/-- THE SECOND FORM's CARD OF 'biremelaw16.GuardKeeps'. -/
def guardKeepsUptoCard : Claim7 := { stood := { row := guardKeepsUptoRow, standIns := [], harness := (true, "5e673db485cc00b4f7bb8d7a5f347f39e14babb2af9ffe0ed9e74edf012f200b"), looks := true }, kinds := [], alts := [], laidByText := true, laidKinds := [.widerDeep], laidTests := true, laidLooks := .later }
def GuardKeepsUptoCardSaid : Prop := Claim7.holds Tryz.pinned (.plain (OpenSpec.upto guardKeepsSpec)) guardKeepsUptoCard

/-- THE SECOND FORM's CARD OF 'biremelaw16.GuardFewer'. -/
def guardFewerUptoCard : Claim7 := { stood := { row := guardFewerUptoRow, standIns := [], harness := (true, "5e673db485cc00b4f7bb8d7a5f347f39e14babb2af9ffe0ed9e74edf012f200b"), looks := true }, kinds := [], alts := [], laidByText := true, laidKinds := [.widerDeep], laidTests := true, laidLooks := .later }
def GuardFewerUptoCardSaid : Prop := Claim7.holds Tryz.pinned (.plain (OpenSpec.upto guardFewerSpec)) guardFewerUptoCard
end Rows
end Go.Proofs.YtiohgpapgkjfiaaGreatDoor
