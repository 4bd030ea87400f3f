/-
  NARROWER THAN 'FOR EVERY INPUT', by the rows' own cells (each row's printed sentence says how): GraphOrder: laid · GraphDominates: laid · GraphLoops: laid · GraphMoved: laid · GraphNext: laid.
  DERIVED. THE GIVEN ROWS OF THIS SEAT. 5 by the template 'for every input the law returns true; each argument reads behind the call as it read before'; 0 by the template 'total and deterministic' (their statements: YtoophlkbngagcaaGreatDoorTotals.lean).
  GIVEN WITH THE SEED: the statements are not yours to turn. If you find one false, say at which input.
  Laid BY PROGRAM, IN A SANDBOX (cutbox-rows.mjs): the forced cells as the released guide's own fill.sh prints them over the translation b6d3597c932c0cab… (all of the seat's roots in one cut). By AI agents, Wed Nov 11 2026. No macro, syntax, notation, axiom, sorry.
-/
import Derived.Test.YtoophlkbngagcaaGreatDoorChecked
import GoSem.Claim
import GoSem.ClaimJoined
import GoSem.ClaimMapViews
import Derived.JoinedTies
import Derived.KernelRfl
namespace Go.Proofs.YtoophlkbngagcaaGreatDoor
/- THE CELL 'sum', in the pinned program and in every row, IS THE sha256 OF THE DUMP (.gsa) THAT YtoophlkbngagcaaGreatDoorProg.lean LOADS. Nothing in Lean hashes anything: it is a label: what it is worth is what the hold of that sum in a sandbox is worth. -/
noncomputable def Tryz.pinned : Pinned := { name := "ytoophlkbngagcaagreatdoor", sum := "b6d3597c932c0cabf61bae7446707a824869c9060ddaf0be2e696de0f215c114", checked := Tryz.checked }
namespace Rows
def none {H : Type} : Left H := { results := [], args := [] }

/- WHAT THE LISTED PACKAGE-LEVEL VARIABLES READ AS WHEN THE CALL BEGINS. Each datum BY PROGRAM (the guide's laid-datum.mjs) off the statement by which the dump's own 'gosem.cut.vars' lays the variable. In a bare row this is a premise. The card (YtoophlkbngagcaaGreatDoorCards.lean) ties it to the program's text. -/
def laid_bireme_code_forms {H : Type} : DataW H := .agg [.agg [.lit (.int .i64 17), .lit (.int .i64 0), .lit (.string [99, 111, 110, 115, 116])], .agg [.lit (.int .i64 3), .lit (.int .i64 0), .lit (.string [109, 111, 118, 101])], .agg [.lit (.int .i64 7), .lit (.int .i64 0), .lit (.string [97, 100, 100])], .agg [.lit (.int .i64 7), .lit (.int .i64 0), .lit (.string [115, 117, 98])], .agg [.lit (.int .i64 7), .lit (.int .i64 0), .lit (.string [97, 110, 100])], .agg [.lit (.int .i64 7), .lit (.int .i64 0), .lit (.string [111, 114])], .agg [.lit (.int .i64 7), .lit (.int .i64 0), .lit (.string [120, 111, 114])], .agg [.lit (.int .i64 7), .lit (.int .i64 0), .lit (.string [115, 104, 108])], .agg [.lit (.int .i64 7), .lit (.int .i64 0), .lit (.string [115, 104, 114])], .agg [.lit (.int .i64 7), .lit (.int .i64 0), .lit (.string [108, 101, 115, 115])], .agg [.lit (.int .i64 7), .lit (.int .i64 0), .lit (.string [101, 113, 117, 97, 108])], .agg [.lit (.int .i64 15), .lit (.int .i64 0), .lit (.string [112, 105, 99, 107])], .agg [.lit (.int .i64 7), .lit (.int .i64 1), .lit (.string [109, 117, 108])], .agg [.lit (.int .i64 7), .lit (.int .i64 1), .lit (.string [100, 105, 118])], .agg [.lit (.int .i64 7), .lit (.int .i64 1), .lit (.string [114, 101, 109])], .agg [.lit (.int .i64 35), .lit (.int .i64 2), .lit (.string [108, 111, 97, 100])], .agg [.lit (.int .i64 38), .lit (.int .i64 2), .lit (.string [115, 116, 111, 114, 101])], .agg [.lit (.int .i64 65), .lit (.int .i64 2), .lit (.string [102, 101, 116, 99, 104])], .agg [.lit (.int .i64 66), .lit (.int .i64 2), .lit (.string [107, 101, 101, 112])], .agg [.lit (.int .i64 2), .lit (.int .i64 3), .lit (.string [112, 114, 105, 110, 116])], .agg [.lit (.int .i64 130), .lit (.int .i64 3), .lit (.string [101, 120, 105, 116])], .agg [.lit (.int .i64 2), .lit (.int .i64 3), .lit (.string [99, 104, 101, 99, 107])], .agg [.lit (.int .i64 7), .lit (.int .i64 1), .lit (.string [100, 105, 118, 115])], .agg [.lit (.int .i64 7), .lit (.int .i64 1), .lit (.string [114, 101, 109, 115])], .agg [.lit (.int .i64 35), .lit (.int .i64 2), .lit (.string [108, 111, 97, 100, 115])]]

/-- 'biremelaw10.GraphOrder': WHATEVER THE INPUT: true; the input reads as it did. -/
def graphOrderSpec : ChangeSpec := { name := "graphOrder", fn := fun _ => fun
  | [d] => { results := [.lit (.bool true)], args := [d] }
  | _ => none }
def graphOrderRow : OpenClaim := { program := "ytoophlkbngagcaagreatdoor", sum := "b6d3597c932c0cabf61bae7446707a824869c9060ddaf0be2e696de0f215c114", func := "bireme/biremelaw10.GraphOrder", spec := "graphOrder", unfollowed := true, recurses := true, named := ["bireme/code.forms"], apart := false, laid := [("bireme/code.forms", laid_bireme_code_forms)] }
def GraphOrderSaid : Prop := graphOrderRow.holds Tryz.pinned (OpenSpec.ofChange graphOrderSpec)

/-- ITS FALSE NEIGHBOUR: 'it returns false'. Refute it at one input. -/
def graphOrderWrong : ChangeSpec := { name := "graphOrder", fn := fun _ => fun
  | [d] => { results := [.lit (.bool false)], args := [d] }
  | _ => none }
def GraphOrderWrongFalsely : Prop := graphOrderRow.holds Tryz.pinned (OpenSpec.ofChange graphOrderWrong)

/-- 'biremelaw10.GraphDominates': WHATEVER THE INPUT: true; the input reads as it did. -/
def graphDominatesSpec : ChangeSpec := { name := "graphDominates", fn := fun _ => fun
  | [d1, d2, d3] => { results := [.lit (.bool true)], args := [d1, d2, d3] }
  | _ => none }
def graphDominatesRow : OpenClaim := { program := "ytoophlkbngagcaagreatdoor", sum := "b6d3597c932c0cabf61bae7446707a824869c9060ddaf0be2e696de0f215c114", func := "bireme/biremelaw10.GraphDominates", spec := "graphDominates", unfollowed := true, recurses := true, named := ["bireme/code.forms"], apart := false, laid := [("bireme/code.forms", laid_bireme_code_forms)] }
def GraphDominatesSaid : Prop := graphDominatesRow.holds Tryz.pinned (OpenSpec.ofChange graphDominatesSpec)

/-- ITS FALSE NEIGHBOUR: 'it returns false'. Refute it at one input. -/
def graphDominatesWrong : ChangeSpec := { name := "graphDominates", fn := fun _ => fun
  | [d1, d2, d3] => { results := [.lit (.bool false)], args := [d1, d2, d3] }
  | _ => none }
def GraphDominatesWrongFalsely : Prop := graphDominatesRow.holds Tryz.pinned (OpenSpec.ofChange graphDominatesWrong)

/-- 'biremelaw10.GraphLoops': WHATEVER THE INPUT: true; the input reads as it did. -/
def graphLoopsSpec : ChangeSpec := { name := "graphLoops", fn := fun _ => fun
  | [d] => { results := [.lit (.bool true)], args := [d] }
  | _ => none }
def graphLoopsRow : OpenClaim := { program := "ytoophlkbngagcaagreatdoor", sum := "b6d3597c932c0cabf61bae7446707a824869c9060ddaf0be2e696de0f215c114", func := "bireme/biremelaw10.GraphLoops", spec := "graphLoops", unfollowed := true, recurses := true, named := ["bireme/code.forms"], apart := false, laid := [("bireme/code.forms", laid_bireme_code_forms)] }
def GraphLoopsSaid : Prop := graphLoopsRow.holds Tryz.pinned (OpenSpec.ofChange graphLoopsSpec)

/-- ITS FALSE NEIGHBOUR: 'it returns false'. Refute it at one input. -/
def graphLoopsWrong : ChangeSpec := { name := "graphLoops", fn := fun _ => fun
  | [d] => { results := [.lit (.bool false)], args := [d] }
  | _ => none }
def GraphLoopsWrongFalsely : Prop := graphLoopsRow.holds Tryz.pinned (OpenSpec.ofChange graphLoopsWrong)

/-- 'biremelaw10.GraphMoved': WHATEVER THE INPUT: true; the input reads as it did. -/
def graphMovedSpec : ChangeSpec := { name := "graphMoved", fn := fun _ => fun
  | [d1, d2] => { results := [.lit (.bool true)], args := [d1, d2] }
  | _ => none }
def graphMovedRow : OpenClaim := { program := "ytoophlkbngagcaagreatdoor", sum := "b6d3597c932c0cabf61bae7446707a824869c9060ddaf0be2e696de0f215c114", func := "bireme/biremelaw10.GraphMoved", spec := "graphMoved", unfollowed := true, recurses := true, named := ["bireme/code.forms"], apart := false, laid := [("bireme/code.forms", laid_bireme_code_forms)] }
def GraphMovedSaid : Prop := graphMovedRow.holds Tryz.pinned (OpenSpec.ofChange graphMovedSpec)

/-- ITS FALSE NEIGHBOUR: 'it returns false'. Refute it at one input. -/
def graphMovedWrong : ChangeSpec := { name := "graphMoved", fn := fun _ => fun
  | [d1, d2] => { results := [.lit (.bool false)], args := [d1, d2] }
  | _ => none }
def GraphMovedWrongFalsely : Prop := graphMovedRow.holds Tryz.pinned (OpenSpec.ofChange graphMovedWrong)

/-- 'biremelaw10.GraphNext': WHATEVER THE INPUT: true; the input reads as it did. -/
def graphNextSpec : ChangeSpec := { name := "graphNext", fn := fun _ => fun
  | [d1, d2] => { results := [.lit (.bool true)], args := [d1, d2] }
  | _ => none }
def graphNextRow : OpenClaim := { program := "ytoophlkbngagcaagreatdoor", sum := "b6d3597c932c0cabf61bae7446707a824869c9060ddaf0be2e696de0f215c114", func := "bireme/biremelaw10.GraphNext", spec := "graphNext", unfollowed := true, recurses := true, named := ["bireme/code.forms"], apart := false, laid := [("bireme/code.forms", laid_bireme_code_forms)] }
def GraphNextSaid : Prop := graphNextRow.holds Tryz.pinned (OpenSpec.ofChange graphNextSpec)

/-- ITS FALSE NEIGHBOUR: 'it returns false'. Refute it at one input. -/
def graphNextWrong : ChangeSpec := { name := "graphNext", fn := fun _ => fun
  | [d1, d2] => { results := [.lit (.bool false)], args := [d1, d2] }
  | _ => none }
def GraphNextWrongFalsely : Prop := graphNextRow.holds Tryz.pinned (OpenSpec.ofChange graphNextWrong)

/- THE SECOND FORM. 'bulk': how many values and letters a reading holds, each counted each time it is reached (what is shared counts as often as it is met; a slice's spare places count too). A statement '..UptoSaid' is the law's where the arguments, and the package variables that the reading takes, are together of bulk at most 1048576: NARROWER than '..Said'. Prove '..Said' where nothing that the law and all that it calls make is longer than what came in: it says more and counts as full. Else prove '..UptoSaid'. A law counts once. -/
mutual
def uptoBulk {H : Type} : DataW H → Nat
  | .lit (.string bytes) => bytes.length + 1
  | .lit _ => 1
  | .nil => 1
  | .ptr d => uptoBulk d + 1
  | .slice elems spare => uptoBulkAll elems + uptoBulkAll spare + 1
  | .agg parts => uptoBulkAll parts + 1
  | .iface _ d => uptoBulk d + 1
  | .map entries => uptoBulkEntries entries + 1
  | .held _ => 1
def uptoBulkAll {H : Type} : List (DataW H) → Nat
  | [] => 0
  | d :: r => uptoBulk d + uptoBulkAll r
def uptoBulkEntries {H : Type} : List (Lit × DataW H) → Nat
  | [] => 0
  | x :: r => uptoBulkEntry x + uptoBulkEntries r
def uptoBulkEntry {H : Type} : Lit × DataW H → Nat
  | (.string bytes, d) => bytes.length + uptoBulk d + 1
  | (_, d) => uptoBulk d + 1
 end
def uptoSmall : (H : Type) → List (DataW H) → Bool := fun _ ds => decide (uptoBulkAll ds ≤ 1048576)
def OpenSpec.upto (s : _root_.Go.ChangeSpec) : _root_.Go.OpenSpec := { _root_.Go.OpenSpec.ofChange s with cond := some uptoSmall }

/-- 'biremelaw10.GraphOrder', WHERE WHAT IT READS IS OF BULK AT MOST 1048576: true; the input reads as it did. -/
def graphOrderUptoRow : OpenClaim := { program := "ytoophlkbngagcaagreatdoor", sum := "b6d3597c932c0cabf61bae7446707a824869c9060ddaf0be2e696de0f215c114", func := "bireme/biremelaw10.GraphOrder", spec := "graphOrder", unfollowed := true, recurses := true, named := ["bireme/code.forms"], apart := false, laid := [("bireme/code.forms", laid_bireme_code_forms)], narrowed := true }
def GraphOrderUptoSaid : Prop := graphOrderUptoRow.holds Tryz.pinned (OpenSpec.upto graphOrderSpec)

/-- 'biremelaw10.GraphDominates', WHERE WHAT IT READS IS OF BULK AT MOST 1048576: true; the input reads as it did. -/
def graphDominatesUptoRow : OpenClaim := { program := "ytoophlkbngagcaagreatdoor", sum := "b6d3597c932c0cabf61bae7446707a824869c9060ddaf0be2e696de0f215c114", func := "bireme/biremelaw10.GraphDominates", spec := "graphDominates", unfollowed := true, recurses := true, named := ["bireme/code.forms"], apart := false, laid := [("bireme/code.forms", laid_bireme_code_forms)], narrowed := true }
def GraphDominatesUptoSaid : Prop := graphDominatesUptoRow.holds Tryz.pinned (OpenSpec.upto graphDominatesSpec)

/-- 'biremelaw10.GraphLoops', WHERE WHAT IT READS IS OF BULK AT MOST 1048576: true; the input reads as it did. -/
def graphLoopsUptoRow : OpenClaim := { program := "ytoophlkbngagcaagreatdoor", sum := "b6d3597c932c0cabf61bae7446707a824869c9060ddaf0be2e696de0f215c114", func := "bireme/biremelaw10.GraphLoops", spec := "graphLoops", unfollowed := true, recurses := true, named := ["bireme/code.forms"], apart := false, laid := [("bireme/code.forms", laid_bireme_code_forms)], narrowed := true }
def GraphLoopsUptoSaid : Prop := graphLoopsUptoRow.holds Tryz.pinned (OpenSpec.upto graphLoopsSpec)

/-- 'biremelaw10.GraphMoved', WHERE WHAT IT READS IS OF BULK AT MOST 1048576: true; the input reads as it did. -/
def graphMovedUptoRow : OpenClaim := { program := "ytoophlkbngagcaagreatdoor", sum := "b6d3597c932c0cabf61bae7446707a824869c9060ddaf0be2e696de0f215c114", func := "bireme/biremelaw10.GraphMoved", spec := "graphMoved", unfollowed := true, recurses := true, named := ["bireme/code.forms"], apart := false, laid := [("bireme/code.forms", laid_bireme_code_forms)], narrowed := true }
def GraphMovedUptoSaid : Prop := graphMovedUptoRow.holds Tryz.pinned (OpenSpec.upto graphMovedSpec)

/-- 'biremelaw10.GraphNext', WHERE WHAT IT READS IS OF BULK AT MOST 1048576: true; the input reads as it did. -/
def graphNextUptoRow : OpenClaim := { program := "ytoophlkbngagcaagreatdoor", sum := "b6d3597c932c0cabf61bae7446707a824869c9060ddaf0be2e696de0f215c114", func := "bireme/biremelaw10.GraphNext", spec := "graphNext", unfollowed := true, recurses := true, named := ["bireme/code.forms"], apart := false, laid := [("bireme/code.forms", laid_bireme_code_forms)], narrowed := true }
def GraphNextUptoSaid : Prop := graphNextUptoRow.holds Tryz.pinned (OpenSpec.upto graphNextSpec)

end Rows
end Go.Proofs.YtoophlkbngagcaaGreatDoor
