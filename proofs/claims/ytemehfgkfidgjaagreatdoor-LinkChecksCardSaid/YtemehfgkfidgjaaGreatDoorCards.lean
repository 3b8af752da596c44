/-
  DERIVED. GIVEN WITH THE SEED: THE CARDS: each row of YtemehfgkfidgjaaGreatDoorRows.lean that lists a variable, with what it lists TIED to the program's text (the seventh form; the later family's looks); each row that meets fmt, with fmt's text TOLD by the authors' own Lean function (tested against real Go, not proved from fmt's source: count such statements apart). THE CARD IS WHAT COUNTS. Prove the row's statement (the work); the ties are given (YtemehfgkfidgjaaGreatDoorTie.lean); close each card by the builder's one call (the guide's Derived/Test/ToyasCard.lean, 'card_holds'). Laid BY PROGRAM, IN A SANDBOX (cutbox-door.mjs). By AI agents, Wed Nov 11 2026. No macro, syntax, notation, axiom, sorry.
-/
import Derived.Test.YtemehfgkfidgjaaGreatDoorRows
import GoSem.ClaimSeven
namespace Go.Proofs.YtemehfgkfidgjaaGreatDoor
namespace Rows

/-- THE TIED CARD OF 'dataflowlaw52.LinkChecks'. -/
def linkChecksCard : Claim7 := { stood := { row := linkChecksRow, standIns := [], harness := (true, "5519b8191d2cba724cdd351d8551f1274a31f0c6887647dfad7955e4cd0e5abe"), looks := false }, kinds := [], alts := [], laidByText := true, laidKinds := [.data, .data], laidTests := true, laidLooks := .later }
def LinkChecksCardSaid : Prop := Claim7.holds Tryz.pinned (.plain (OpenSpec.ofChange linkChecksSpec)) linkChecksCard

/-- THE TIED CARD OF 'dataflowlaw52.LinkSummaries'. -/
def linkSummariesCard : Claim7 := { stood := { row := linkSummariesRow, standIns := [], harness := (true, "5519b8191d2cba724cdd351d8551f1274a31f0c6887647dfad7955e4cd0e5abe"), looks := false }, kinds := [], alts := [], laidByText := true, laidKinds := [.data, .data], laidTests := true, laidLooks := .later }
def LinkSummariesCardSaid : Prop := Claim7.holds Tryz.pinned (.plain (OpenSpec.ofChange linkSummariesSpec)) linkSummariesCard

/-- THE SECOND FORM's CARD OF 'dataflowlaw52.LinkChecks'. -/
def linkChecksUptoCard : Claim7 := { stood := { row := linkChecksUptoRow, standIns := [], harness := (true, "5519b8191d2cba724cdd351d8551f1274a31f0c6887647dfad7955e4cd0e5abe"), looks := false }, kinds := [], alts := [], laidByText := true, laidKinds := [.data, .data], laidTests := true, laidLooks := .later }
def LinkChecksUptoCardSaid : Prop := Claim7.holds Tryz.pinned (.plain (OpenSpec.upto linkChecksSpec)) linkChecksUptoCard

/-- THE SECOND FORM's CARD OF 'dataflowlaw52.LinkSummaries'. -/
def linkSummariesUptoCard : Claim7 := { stood := { row := linkSummariesUptoRow, standIns := [], harness := (true, "5519b8191d2cba724cdd351d8551f1274a31f0c6887647dfad7955e4cd0e5abe"), looks := false }, kinds := [], alts := [], laidByText := true, laidKinds := [.data, .data], laidTests := true, laidLooks := .later }
def LinkSummariesUptoCardSaid : Prop := Claim7.holds Tryz.pinned (.plain (OpenSpec.upto linkSummariesSpec)) linkSummariesUptoCard
end Rows
end Go.Proofs.YtemehfgkfidgjaaGreatDoor
