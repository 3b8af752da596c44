/-
  NARROWER THAN 'FOR EVERY INPUT', by the rows' own cells (each row's printed sentence says how): LinkChecks: laid · LinkSummaries: laid.
  DERIVED. THE GIVEN ROWS OF THIS SEAT. 2 by the template 'for every input the law returns true; each argument reads behind the call as it read before'; 0 by the template 'total and deterministic' (their statements: YtemehfgkfidgjaaGreatDoorTotals.lean).
  GIVEN WITH THE SEED: the statements are not yours to turn. If you find one false, say at which input.
  Laid BY PROGRAM, IN A SANDBOX (cutbox-rows.mjs): the forced cells as the released guide's own fill.sh prints them over the translation 65872bf6e52269f7… (all of the seat's roots in one cut). By AI agents, Wed Nov 11 2026. No macro, syntax, notation, axiom, sorry.
-/
import Derived.Test.YtemehfgkfidgjaaGreatDoorChecked
import GoSem.Claim
import GoSem.ClaimJoined
import GoSem.ClaimMapViews
import Derived.JoinedTies
import Derived.KernelRfl
namespace Go.Proofs.YtemehfgkfidgjaaGreatDoor
/- THE CELL 'sum', in the pinned program and in every row, IS THE sha256 OF THE DUMP (.gsa) THAT YtemehfgkfidgjaaGreatDoorProg.lean LOADS. Nothing in Lean hashes anything: it is a label: what it is worth is what the hold of that sum in a sandbox is worth. -/
noncomputable def Tryz.pinned : Pinned := { name := "ytemehfgkfidgjaagreatdoor", sum := "65872bf6e52269f793c6d10b20309fe4cd616bacf5ca80aade6321ad2446ca6a", checked := Tryz.checked }
namespace Rows
def none {H : Type} : Left H := { results := [], args := [] }

/- WHAT THE LISTED PACKAGE-LEVEL VARIABLES READ AS WHEN THE CALL BEGINS. Each datum BY PROGRAM (the guide's laid-datum.mjs) off the statement by which the dump's own 'gosem.cut.vars' lays the variable. In a bare row this is a premise. The card (YtemehfgkfidgjaaGreatDoorCards.lean) ties it to the program's text. -/
def laid_dataflow_lex_keywords {H : Type} : DataW H := .agg [.lit (.string [99, 108, 97, 115, 115]), .lit (.string [101, 120, 116, 101, 110, 100, 115]), .lit (.string [118, 97, 114]), .lit (.string [100, 101, 102]), .lit (.string [115, 116, 97, 116, 105, 99]), .lit (.string [105, 102]), .lit (.string [101, 108, 115, 101]), .lit (.string [119, 104, 105, 108, 101]), .lit (.string [116, 114, 121]), .lit (.string [99, 97, 116, 99, 104]), .lit (.string [116, 104, 114, 111, 119]), .lit (.string [114, 101, 116, 117, 114, 110]), .lit (.string [110, 101, 119]), .lit (.string [110, 117, 108, 108]), .lit (.string [116, 104, 105, 115]), .lit (.string [105, 110, 112, 117, 116]), .lit (.string [105, 110, 116])]
def laid_dataflow_ir_forms {H : Type} : DataW H := .agg [.lit (.string []), .lit (.string [100, 110]), .lit (.string [100]), .lit (.string [100, 97]), .lit (.string [100, 97, 111, 98]), .lit (.string [100]), .lit (.string [100, 99]), .lit (.string [100, 97, 109]), .lit (.string [97, 109, 98]), .lit (.string [100, 97, 99, 109, 42]), .lit (.string [100, 99, 109, 42]), .lit (.string [97, 103]), .lit (.string [103]), .lit (.string [97]), .lit (.string [97]), .lit (.string [100, 99]), .lit (.string [100, 97, 110])]

/-- 'dataflowlaw52.LinkChecks': WHATEVER THE INPUT: true; the input reads as it did. -/
def linkChecksSpec : ChangeSpec := { name := "linkChecks", fn := fun _ => fun
  | [d1, d2] => { results := [.lit (.bool true)], args := [d1, d2] }
  | _ => none }
def linkChecksRow : OpenClaim := { program := "ytemehfgkfidgjaagreatdoor", sum := "65872bf6e52269f793c6d10b20309fe4cd616bacf5ca80aade6321ad2446ca6a", func := "dataflow/dataflowlaw52.LinkChecks", spec := "linkChecks", inPlace := ["internal/bytealg.abigen_runtime_cmpstring", "internal/bytealg.IndexByteString"], unfollowed := true, recurses := true, named := ["dataflow/lex.keywords", "dataflow/ir.forms"], plainKeys := false, apart := false, laid := [("dataflow/lex.keywords", laid_dataflow_lex_keywords), ("dataflow/ir.forms", laid_dataflow_ir_forms)] }
def LinkChecksSaid : Prop := linkChecksRow.holds Tryz.pinned (OpenSpec.ofChange linkChecksSpec)

/-- ITS FALSE NEIGHBOUR: 'it returns false'. Refute it at one input. -/
def linkChecksWrong : ChangeSpec := { name := "linkChecks", fn := fun _ => fun
  | [d1, d2] => { results := [.lit (.bool false)], args := [d1, d2] }
  | _ => none }
def LinkChecksWrongFalsely : Prop := linkChecksRow.holds Tryz.pinned (OpenSpec.ofChange linkChecksWrong)

/-- 'dataflowlaw52.LinkSummaries': WHATEVER THE INPUT: true; the input reads as it did. -/
def linkSummariesSpec : ChangeSpec := { name := "linkSummaries", fn := fun _ => fun
  | [d1, d2] => { results := [.lit (.bool true)], args := [d1, d2] }
  | _ => none }
def linkSummariesRow : OpenClaim := { program := "ytemehfgkfidgjaagreatdoor", sum := "65872bf6e52269f793c6d10b20309fe4cd616bacf5ca80aade6321ad2446ca6a", func := "dataflow/dataflowlaw52.LinkSummaries", spec := "linkSummaries", inPlace := ["internal/bytealg.abigen_runtime_cmpstring", "internal/bytealg.IndexByteString"], unfollowed := true, recurses := true, named := ["dataflow/lex.keywords", "dataflow/ir.forms"], plainKeys := false, apart := false, laid := [("dataflow/lex.keywords", laid_dataflow_lex_keywords), ("dataflow/ir.forms", laid_dataflow_ir_forms)] }
def LinkSummariesSaid : Prop := linkSummariesRow.holds Tryz.pinned (OpenSpec.ofChange linkSummariesSpec)

/-- ITS FALSE NEIGHBOUR: 'it returns false'. Refute it at one input. -/
def linkSummariesWrong : ChangeSpec := { name := "linkSummaries", fn := fun _ => fun
  | [d1, d2] => { results := [.lit (.bool false)], args := [d1, d2] }
  | _ => none }
def LinkSummariesWrongFalsely : Prop := linkSummariesRow.holds Tryz.pinned (OpenSpec.ofChange linkSummariesWrong)

/- THE SECOND FORM. 'bulk': how many values and letters a reading holds, each counted each time it is reached (what is shared counts as often as it is met; a slice's spare places count too). A statement '..UptoSaid' is the law's where the arguments, and the package variables that the reading takes, are together of bulk at most 1048576: NARROWER than '..Said'. Prove '..Said' where nothing that the law and all that it calls make is longer than what came in: it says more and counts as full. Else prove '..UptoSaid'. A law counts once. -/
mutual
def uptoBulk {H : Type} : DataW H → Nat
  | .lit (.string bytes) => bytes.length + 1
  | .lit _ => 1
  | .nil => 1
  | .ptr d => uptoBulk d + 1
  | .slice elems spare => uptoBulkAll elems + uptoBulkAll spare + 1
  | .agg parts => uptoBulkAll parts + 1
  | .iface _ d => uptoBulk d + 1
  | .map entries => uptoBulkEntries entries + 1
  | .held _ => 1
def uptoBulkAll {H : Type} : List (DataW H) → Nat
  | [] => 0
  | d :: r => uptoBulk d + uptoBulkAll r
def uptoBulkEntries {H : Type} : List (Lit × DataW H) → Nat
  | [] => 0
  | x :: r => uptoBulkEntry x + uptoBulkEntries r
def uptoBulkEntry {H : Type} : Lit × DataW H → Nat
  | (.string bytes, d) => bytes.length + uptoBulk d + 1
  | (_, d) => uptoBulk d + 1
 end
def uptoSmall : (H : Type) → List (DataW H) → Bool := fun _ ds => decide (uptoBulkAll ds ≤ 1048576)
def OpenSpec.upto (s : _root_.Go.ChangeSpec) : _root_.Go.OpenSpec := { _root_.Go.OpenSpec.ofChange s with cond := some uptoSmall }

/-- 'dataflowlaw52.LinkChecks', WHERE WHAT IT READS IS OF BULK AT MOST 1048576: true; the input reads as it did. -/
def linkChecksUptoRow : OpenClaim := { program := "ytemehfgkfidgjaagreatdoor", sum := "65872bf6e52269f793c6d10b20309fe4cd616bacf5ca80aade6321ad2446ca6a", func := "dataflow/dataflowlaw52.LinkChecks", spec := "linkChecks", inPlace := ["internal/bytealg.abigen_runtime_cmpstring", "internal/bytealg.IndexByteString"], unfollowed := true, recurses := true, named := ["dataflow/lex.keywords", "dataflow/ir.forms"], plainKeys := false, apart := false, laid := [("dataflow/lex.keywords", laid_dataflow_lex_keywords), ("dataflow/ir.forms", laid_dataflow_ir_forms)], narrowed := true }
def LinkChecksUptoSaid : Prop := linkChecksUptoRow.holds Tryz.pinned (OpenSpec.upto linkChecksSpec)

/-- 'dataflowlaw52.LinkSummaries', WHERE WHAT IT READS IS OF BULK AT MOST 1048576: true; the input reads as it did. -/
def linkSummariesUptoRow : OpenClaim := { program := "ytemehfgkfidgjaagreatdoor", sum := "65872bf6e52269f793c6d10b20309fe4cd616bacf5ca80aade6321ad2446ca6a", func := "dataflow/dataflowlaw52.LinkSummaries", spec := "linkSummaries", inPlace := ["internal/bytealg.abigen_runtime_cmpstring", "internal/bytealg.IndexByteString"], unfollowed := true, recurses := true, named := ["dataflow/lex.keywords", "dataflow/ir.forms"], plainKeys := false, apart := false, laid := [("dataflow/lex.keywords", laid_dataflow_lex_keywords), ("dataflow/ir.forms", laid_dataflow_ir_forms)], narrowed := true }
def LinkSummariesUptoSaid : Prop := linkSummariesUptoRow.holds Tryz.pinned (OpenSpec.upto linkSummariesSpec)

end Rows
end Go.Proofs.YtemehfgkfidgjaaGreatDoor
