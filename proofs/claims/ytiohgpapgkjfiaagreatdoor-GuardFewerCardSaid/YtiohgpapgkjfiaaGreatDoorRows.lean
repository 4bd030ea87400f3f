/-
  NARROWER THAN 'FOR EVERY INPUT', by the rows' own cells (each row's printed sentence says how): GuardShapes: laid · GuardConverts: laid · GuardOrder: laid · GuardAlls: laid · GuardJoins: laid · GuardKeeps: laid · GuardFewer: laid.
  DERIVED. THE GIVEN ROWS OF THIS SEAT. 7 by the template 'for every input the law returns true; each argument reads behind the call as it read before'; 0 by the template 'total and deterministic' (their statements: YtiohgpapgkjfiaaGreatDoorTotals.lean).
  GIVEN WITH THE SEED: the statements are not yours to turn. If you find one false, say at which input.
  Laid BY PROGRAM, IN A SANDBOX (cutbox-rows.mjs): the forced cells as the released guide's own fill.sh prints them over the translation 1f015cda515ca437… (all of the seat's roots in one cut). By AI agents, Wed Nov 11 2026. No macro, syntax, notation, axiom, sorry.
-/
import Derived.Test.YtiohgpapgkjfiaaGreatDoorChecked
import GoSem.Claim
import GoSem.ClaimJoined
import GoSem.ClaimMapViews
import Derived.JoinedTies
import Derived.KernelRfl
namespace Go.Proofs.YtiohgpapgkjfiaaGreatDoor
/- THE CELL 'sum', in the pinned program and in every row, IS THE sha256 OF THE DUMP (.gsa) THAT YtiohgpapgkjfiaaGreatDoorProg.lean LOADS. Nothing in Lean hashes anything: it is a label: what it is worth is what the hold of that sum in a sandbox is worth. -/
noncomputable def Tryz.pinned : Pinned := { name := "ytiohgpapgkjfiaagreatdoor", sum := "1f015cda515ca4371027a7aa05ab5b6fec83ea6d8cea1e384b31f733e16f3efd", checked := Tryz.checked }
namespace Rows
def none {H : Type} : Left H := { results := [], args := [] }

/- WHAT THE LISTED PACKAGE-LEVEL VARIABLES READ AS WHEN THE CALL BEGINS. Each datum BY PROGRAM (the guide's laid-datum.mjs) off the statement by which the dump's own 'gosem.cut.vars' lays the variable. In a bare row this is a premise. The card (YtiohgpapgkjfiaaGreatDoorCards.lean) ties it to the program's text. -/
def laid_bireme_code_forms {H : Type} : DataW H := .agg [.agg [.lit (.int .i64 17), .lit (.int .i64 0), .lit (.string [99, 111, 110, 115, 116])], .agg [.lit (.int .i64 3), .lit (.int .i64 0), .lit (.string [109, 111, 118, 101])], .agg [.lit (.int .i64 7), .lit (.int .i64 0), .lit (.string [97, 100, 100])], .agg [.lit (.int .i64 7), .lit (.int .i64 0), .lit (.string [115, 117, 98])], .agg [.lit (.int .i64 7), .lit (.int .i64 0), .lit (.string [97, 110, 100])], .agg [.lit (.int .i64 7), .lit (.int .i64 0), .lit (.string [111, 114])], .agg [.lit (.int .i64 7), .lit (.int .i64 0), .lit (.string [120, 111, 114])], .agg [.lit (.int .i64 7), .lit (.int .i64 0), .lit (.string [115, 104, 108])], .agg [.lit (.int .i64 7), .lit (.int .i64 0), .lit (.string [115, 104, 114])], .agg [.lit (.int .i64 7), .lit (.int .i64 0), .lit (.string [108, 101, 115, 115])], .agg [.lit (.int .i64 7), .lit (.int .i64 0), .lit (.string [101, 113, 117, 97, 108])], .agg [.lit (.int .i64 15), .lit (.int .i64 0), .lit (.string [112, 105, 99, 107])], .agg [.lit (.int .i64 7), .lit (.int .i64 1), .lit (.string [109, 117, 108])], .agg [.lit (.int .i64 7), .lit (.int .i64 1), .lit (.string [100, 105, 118])], .agg [.lit (.int .i64 7), .lit (.int .i64 1), .lit (.string [114, 101, 109])], .agg [.lit (.int .i64 35), .lit (.int .i64 2), .lit (.string [108, 111, 97, 100])], .agg [.lit (.int .i64 38), .lit (.int .i64 2), .lit (.string [115, 116, 111, 114, 101])], .agg [.lit (.int .i64 65), .lit (.int .i64 2), .lit (.string [102, 101, 116, 99, 104])], .agg [.lit (.int .i64 66), .lit (.int .i64 2), .lit (.string [107, 101, 101, 112])], .agg [.lit (.int .i64 2), .lit (.int .i64 3), .lit (.string [112, 114, 105, 110, 116])], .agg [.lit (.int .i64 130), .lit (.int .i64 3), .lit (.string [101, 120, 105, 116])], .agg [.lit (.int .i64 2), .lit (.int .i64 3), .lit (.string [99, 104, 101, 99, 107])], .agg [.lit (.int .i64 7), .lit (.int .i64 1), .lit (.string [100, 105, 118, 115])], .agg [.lit (.int .i64 7), .lit (.int .i64 1), .lit (.string [114, 101, 109, 115])], .agg [.lit (.int .i64 35), .lit (.int .i64 2), .lit (.string [108, 111, 97, 100, 115])]]

/-- 'biremelaw16.GuardShapes': WHATEVER THE INPUT: true; the input reads as it did. -/
def guardShapesSpec : ChangeSpec := { name := "guardShapes", fn := fun _ => fun
  | [d1, d2] => { results := [.lit (.bool true)], args := [d1, d2] }
  | _ => none }
def guardShapesRow : OpenClaim := { program := "ytiohgpapgkjfiaagreatdoor", sum := "1f015cda515ca4371027a7aa05ab5b6fec83ea6d8cea1e384b31f733e16f3efd", func := "bireme/biremelaw16.GuardShapes", spec := "guardShapes", unfollowed := true, recurses := true, named := ["bireme/code.forms"], apart := false, laid := [("bireme/code.forms", laid_bireme_code_forms)] }
def GuardShapesSaid : Prop := guardShapesRow.holds Tryz.pinned (OpenSpec.ofChange guardShapesSpec)

/-- ITS FALSE NEIGHBOUR: 'it returns false'. Refute it at one input. -/
def guardShapesWrong : ChangeSpec := { name := "guardShapes", fn := fun _ => fun
  | [d1, d2] => { results := [.lit (.bool false)], args := [d1, d2] }
  | _ => none }
def GuardShapesWrongFalsely : Prop := guardShapesRow.holds Tryz.pinned (OpenSpec.ofChange guardShapesWrong)

/-- 'biremelaw16.GuardConverts': WHATEVER THE INPUT: true; the input reads as it did. -/
def guardConvertsSpec : ChangeSpec := { name := "guardConverts", fn := fun _ => fun
  | [d1, d2] => { results := [.lit (.bool true)], args := [d1, d2] }
  | _ => none }
def guardConvertsRow : OpenClaim := { program := "ytiohgpapgkjfiaagreatdoor", sum := "1f015cda515ca4371027a7aa05ab5b6fec83ea6d8cea1e384b31f733e16f3efd", func := "bireme/biremelaw16.GuardConverts", spec := "guardConverts", unfollowed := true, recurses := true, named := ["bireme/code.forms"], apart := false, laid := [("bireme/code.forms", laid_bireme_code_forms)] }
def GuardConvertsSaid : Prop := guardConvertsRow.holds Tryz.pinned (OpenSpec.ofChange guardConvertsSpec)

/-- ITS FALSE NEIGHBOUR: 'it returns false'. Refute it at one input. -/
def guardConvertsWrong : ChangeSpec := { name := "guardConverts", fn := fun _ => fun
  | [d1, d2] => { results := [.lit (.bool false)], args := [d1, d2] }
  | _ => none }
def GuardConvertsWrongFalsely : Prop := guardConvertsRow.holds Tryz.pinned (OpenSpec.ofChange guardConvertsWrong)

/-- 'biremelaw16.GuardOrder': WHATEVER THE INPUT: true; the input reads as it did. -/
def guardOrderSpec : ChangeSpec := { name := "guardOrder", fn := fun _ => fun
  | [d1, d2, d3] => { results := [.lit (.bool true)], args := [d1, d2, d3] }
  | _ => none }
def guardOrderRow : OpenClaim := { program := "ytiohgpapgkjfiaagreatdoor", sum := "1f015cda515ca4371027a7aa05ab5b6fec83ea6d8cea1e384b31f733e16f3efd", func := "bireme/biremelaw16.GuardOrder", spec := "guardOrder", unfollowed := true, recurses := true, named := ["bireme/code.forms"], apart := false, laid := [("bireme/code.forms", laid_bireme_code_forms)] }
def GuardOrderSaid : Prop := guardOrderRow.holds Tryz.pinned (OpenSpec.ofChange guardOrderSpec)

/-- ITS FALSE NEIGHBOUR: 'it returns false'. Refute it at one input. -/
def guardOrderWrong : ChangeSpec := { name := "guardOrder", fn := fun _ => fun
  | [d1, d2, d3] => { results := [.lit (.bool false)], args := [d1, d2, d3] }
  | _ => none }
def GuardOrderWrongFalsely : Prop := guardOrderRow.holds Tryz.pinned (OpenSpec.ofChange guardOrderWrong)

/-- 'biremelaw16.GuardAlls': WHATEVER THE INPUT: true; the input reads as it did. -/
def guardAllsSpec : ChangeSpec := { name := "guardAlls", fn := fun _ => fun
  | [d1, d2] => { results := [.lit (.bool true)], args := [d1, d2] }
  | _ => none }
def guardAllsRow : OpenClaim := { program := "ytiohgpapgkjfiaagreatdoor", sum := "1f015cda515ca4371027a7aa05ab5b6fec83ea6d8cea1e384b31f733e16f3efd", func := "bireme/biremelaw16.GuardAlls", spec := "guardAlls", unfollowed := true, recurses := true, named := ["bireme/code.forms"], apart := false, laid := [("bireme/code.forms", laid_bireme_code_forms)] }
def GuardAllsSaid : Prop := guardAllsRow.holds Tryz.pinned (OpenSpec.ofChange guardAllsSpec)

/-- ITS FALSE NEIGHBOUR: 'it returns false'. Refute it at one input. -/
def guardAllsWrong : ChangeSpec := { name := "guardAlls", fn := fun _ => fun
  | [d1, d2] => { results := [.lit (.bool false)], args := [d1, d2] }
  | _ => none }
def GuardAllsWrongFalsely : Prop := guardAllsRow.holds Tryz.pinned (OpenSpec.ofChange guardAllsWrong)

/-- 'biremelaw16.GuardJoins': WHATEVER THE INPUT: true; the input reads as it did. -/
def guardJoinsSpec : ChangeSpec := { name := "guardJoins", fn := fun _ => fun
  | [d1, d2] => { results := [.lit (.bool true)], args := [d1, d2] }
  | _ => none }
def guardJoinsRow : OpenClaim := { program := "ytiohgpapgkjfiaagreatdoor", sum := "1f015cda515ca4371027a7aa05ab5b6fec83ea6d8cea1e384b31f733e16f3efd", func := "bireme/biremelaw16.GuardJoins", spec := "guardJoins", unfollowed := true, recurses := true, named := ["bireme/code.forms"], apart := false, laid := [("bireme/code.forms", laid_bireme_code_forms)] }
def GuardJoinsSaid : Prop := guardJoinsRow.holds Tryz.pinned (OpenSpec.ofChange guardJoinsSpec)

/-- ITS FALSE NEIGHBOUR: 'it returns false'. Refute it at one input. -/
def guardJoinsWrong : ChangeSpec := { name := "guardJoins", fn := fun _ => fun
  | [d1, d2] => { results := [.lit (.bool false)], args := [d1, d2] }
  | _ => none }
def GuardJoinsWrongFalsely : Prop := guardJoinsRow.holds Tryz.pinned (OpenSpec.ofChange guardJoinsWrong)

/-- 'biremelaw16.GuardKeeps': WHATEVER THE INPUT: true; the input reads as it did. -/
def guardKeepsSpec : ChangeSpec := { name := "guardKeeps", fn := fun _ => fun
  | [d1, d2, d3, d4] => { results := [.lit (.bool true)], args := [d1, d2, d3, d4] }
  | _ => none }
def guardKeepsRow : OpenClaim := { program := "ytiohgpapgkjfiaagreatdoor", sum := "1f015cda515ca4371027a7aa05ab5b6fec83ea6d8cea1e384b31f733e16f3efd", func := "bireme/biremelaw16.GuardKeeps", spec := "guardKeeps", unfollowed := true, recurses := true, named := ["bireme/code.forms"], apart := false, laid := [("bireme/code.forms", laid_bireme_code_forms)] }
def GuardKeepsSaid : Prop := guardKeepsRow.holds Tryz.pinned (OpenSpec.ofChange guardKeepsSpec)

/-- ITS FALSE NEIGHBOUR: 'it returns false'. Refute it at one input. -/
def guardKeepsWrong : ChangeSpec := { name := "guardKeeps", fn := fun _ => fun
  | [d1, d2, d3, d4] => { results := [.lit (.bool false)], args := [d1, d2, d3, d4] }
  | _ => none }
def GuardKeepsWrongFalsely : Prop := guardKeepsRow.holds Tryz.pinned (OpenSpec.ofChange guardKeepsWrong)

/-- 'biremelaw16.GuardFewer': WHATEVER THE INPUT: true; the input reads as it did. -/
def guardFewerSpec : ChangeSpec := { name := "guardFewer", fn := fun _ => fun
  | [d1, d2, d3] => { results := [.lit (.bool true)], args := [d1, d2, d3] }
  | _ => none }
def guardFewerRow : OpenClaim := { program := "ytiohgpapgkjfiaagreatdoor", sum := "1f015cda515ca4371027a7aa05ab5b6fec83ea6d8cea1e384b31f733e16f3efd", func := "bireme/biremelaw16.GuardFewer", spec := "guardFewer", unfollowed := true, recurses := true, named := ["bireme/code.forms"], apart := false, laid := [("bireme/code.forms", laid_bireme_code_forms)] }
def GuardFewerSaid : Prop := guardFewerRow.holds Tryz.pinned (OpenSpec.ofChange guardFewerSpec)

/-- ITS FALSE NEIGHBOUR: 'it returns false'. Refute it at one input. -/
def guardFewerWrong : ChangeSpec := { name := "guardFewer", fn := fun _ => fun
  | [d1, d2, d3] => { results := [.lit (.bool false)], args := [d1, d2, d3] }
  | _ => none }
def GuardFewerWrongFalsely : Prop := guardFewerRow.holds Tryz.pinned (OpenSpec.ofChange guardFewerWrong)

/- THE SECOND FORM. 'bulk': how many values and letters a reading holds, each counted each time it is reached (what is shared counts as often as it is met; a slice's spare places count too). A statement '..UptoSaid' is the law's where the arguments, and the package variables that the reading takes, are together of bulk at most 1048576: NARROWER than '..Said'. Prove '..Said' where nothing that the law and all that it calls make is longer than what came in: it says more and counts as full. Else prove '..UptoSaid'. A law counts once. -/
mutual
def uptoBulk {H : Type} : DataW H → Nat
  | .lit (.string bytes) => bytes.length + 1
  | .lit _ => 1
  | .nil => 1
  | .ptr d => uptoBulk d + 1
  | .slice elems spare => uptoBulkAll elems + uptoBulkAll spare + 1
  | .agg parts => uptoBulkAll parts + 1
  | .iface _ d => uptoBulk d + 1
  | .map entries => uptoBulkEntries entries + 1
  | .held _ => 1
def uptoBulkAll {H : Type} : List (DataW H) → Nat
  | [] => 0
  | d :: r => uptoBulk d + uptoBulkAll r
def uptoBulkEntries {H : Type} : List (Lit × DataW H) → Nat
  | [] => 0
  | x :: r => uptoBulkEntry x + uptoBulkEntries r
def uptoBulkEntry {H : Type} : Lit × DataW H → Nat
  | (.string bytes, d) => bytes.length + uptoBulk d + 1
  | (_, d) => uptoBulk d + 1
 end
def uptoSmall : (H : Type) → List (DataW H) → Bool := fun _ ds => decide (uptoBulkAll ds ≤ 1048576)
def OpenSpec.upto (s : _root_.Go.ChangeSpec) : _root_.Go.OpenSpec := { _root_.Go.OpenSpec.ofChange s with cond := some uptoSmall }

/-- 'biremelaw16.GuardShapes', WHERE WHAT IT READS IS OF BULK AT MOST 1048576: true; the input reads as it did. -/
def guardShapesUptoRow : OpenClaim := { program := "ytiohgpapgkjfiaagreatdoor", sum := "1f015cda515ca4371027a7aa05ab5b6fec83ea6d8cea1e384b31f733e16f3efd", func := "bireme/biremelaw16.GuardShapes", spec := "guardShapes", unfollowed := true, recurses := true, named := ["bireme/code.forms"], apart := false, laid := [("bireme/code.forms", laid_bireme_code_forms)], narrowed := true }
def GuardShapesUptoSaid : Prop := guardShapesUptoRow.holds Tryz.pinned (OpenSpec.upto guardShapesSpec)

/-- 'biremelaw16.GuardConverts', WHERE WHAT IT READS IS OF BULK AT MOST 1048576: true; the input reads as it did. -/
def guardConvertsUptoRow : OpenClaim := { program := "ytiohgpapgkjfiaagreatdoor", sum := "1f015cda515ca4371027a7aa05ab5b6fec83ea6d8cea1e384b31f733e16f3efd", func := "bireme/biremelaw16.GuardConverts", spec := "guardConverts", unfollowed := true, recurses := true, named := ["bireme/code.forms"], apart := false, laid := [("bireme/code.forms", laid_bireme_code_forms)], narrowed := true }
def GuardConvertsUptoSaid : Prop := guardConvertsUptoRow.holds Tryz.pinned (OpenSpec.upto guardConvertsSpec)

/-- 'biremelaw16.GuardOrder', WHERE WHAT IT READS IS OF BULK AT MOST 1048576: true; the input reads as it did. -/
def guardOrderUptoRow : OpenClaim := { program := "ytiohgpapgkjfiaagreatdoor", sum := "1f015cda515ca4371027a7aa05ab5b6fec83ea6d8cea1e384b31f733e16f3efd", func := "bireme/biremelaw16.GuardOrder", spec := "guardOrder", unfollowed := true, recurses := true, named := ["bireme/code.forms"], apart := false, laid := [("bireme/code.forms", laid_bireme_code_forms)], narrowed := true }
def GuardOrderUptoSaid : Prop := guardOrderUptoRow.holds Tryz.pinned (OpenSpec.upto guardOrderSpec)

/-- 'biremelaw16.GuardAlls', WHERE WHAT IT READS IS OF BULK AT MOST 1048576: true; the input reads as it did. -/
def guardAllsUptoRow : OpenClaim := { program := "ytiohgpapgkjfiaagreatdoor", sum := "1f015cda515ca4371027a7aa05ab5b6fec83ea6d8cea1e384b31f733e16f3efd", func := "bireme/biremelaw16.GuardAlls", spec := "guardAlls", unfollowed := true, recurses := true, named := ["bireme/code.forms"], apart := false, laid := [("bireme/code.forms", laid_bireme_code_forms)], narrowed := true }
def GuardAllsUptoSaid : Prop := guardAllsUptoRow.holds Tryz.pinned (OpenSpec.upto guardAllsSpec)

/-- 'biremelaw16.GuardJoins', WHERE WHAT IT READS IS OF BULK AT MOST 1048576: true; the input reads as it did. -/
def guardJoinsUptoRow : OpenClaim := { program := "ytiohgpapgkjfiaagreatdoor", sum := "1f015cda515ca4371027a7aa05ab5b6fec83ea6d8cea1e384b31f733e16f3efd", func := "bireme/biremelaw16.GuardJoins", spec := "guardJoins", unfollowed := true, recurses := true, named := ["bireme/code.forms"], apart := false, laid := [("bireme/code.forms", laid_bireme_code_forms)], narrowed := true }
def GuardJoinsUptoSaid : Prop := guardJoinsUptoRow.holds Tryz.pinned (OpenSpec.upto guardJoinsSpec)

/-- 'biremelaw16.GuardKeeps', WHERE WHAT IT READS IS OF BULK AT MOST 1048576: true; the input reads as it did. -/
def guardKeepsUptoRow : OpenClaim := { program := "ytiohgpapgkjfiaagreatdoor", sum := "1f015cda515ca4371027a7aa05ab5b6fec83ea6d8cea1e384b31f733e16f3efd", func := "bireme/biremelaw16.GuardKeeps", spec := "guardKeeps", unfollowed := true, recurses := true, named := ["bireme/code.forms"], apart := false, laid := [("bireme/code.forms", laid_bireme_code_forms)], narrowed := true }
def GuardKeepsUptoSaid : Prop := guardKeepsUptoRow.holds Tryz.pinned (OpenSpec.upto guardKeepsSpec)

/-- 'biremelaw16.GuardFewer', WHERE WHAT IT READS IS OF BULK AT MOST 1048576: true; the input reads as it did. -/
def guardFewerUptoRow : OpenClaim := { program := "ytiohgpapgkjfiaagreatdoor", sum := "1f015cda515ca4371027a7aa05ab5b6fec83ea6d8cea1e384b31f733e16f3efd", func := "bireme/biremelaw16.GuardFewer", spec := "guardFewer", unfollowed := true, recurses := true, named := ["bireme/code.forms"], apart := false, laid := [("bireme/code.forms", laid_bireme_code_forms)], narrowed := true }
def GuardFewerUptoSaid : Prop := guardFewerUptoRow.holds Tryz.pinned (OpenSpec.upto guardFewerSpec)

end Rows
end Go.Proofs.YtiohgpapgkjfiaaGreatDoor
