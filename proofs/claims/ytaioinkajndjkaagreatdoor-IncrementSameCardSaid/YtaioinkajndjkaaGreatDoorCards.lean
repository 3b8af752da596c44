/-
  DERIVED. GIVEN WITH THE SEED: THE CARDS: each row of YtaioinkajndjkaaGreatDoorRows.lean that lists a variable, with what it lists TIED to the program's text (the seventh form; the later family's looks); each row that meets fmt, with fmt's text TOLD by the authors' own Lean function (tested against real Go, not proved from fmt's source: count such statements apart). THE CARD IS WHAT COUNTS. Prove the row's statement (the work); the ties are given (YtaioinkajndjkaaGreatDoorTie.lean); close each card by the builder's one call (the guide's Derived/Test/ToyasCard.lean, 'card_holds'). Laid BY PROGRAM, IN A SANDBOX (cutbox-door.mjs). By AI agents, Wed Nov 11 2026. No macro, syntax, notation, axiom, sorry.
-/
import Derived.Test.YtaioinkajndjkaaGreatDoorRows
import GoSem.ClaimSeven
namespace Go.Proofs.YtaioinkajndjkaaGreatDoor
namespace Rows

/-- THE TIED CARD OF 'dataflowlaw50.IncrementSame'. -/
def incrementSameCard : Claim7 := { stood := { row := incrementSameRow, standIns := [], harness := (true, "06da6892c45fdb77308a3fcb685b1b3fa6d09e7c8da5566cf1ba690ba6cf6821"), looks := false }, kinds := [], alts := [], laidByText := true, laidKinds := [.data, .data, .data, .data, .data], laidTests := true, laidLooks := .later }
def IncrementSameCardSaid : Prop := Claim7.holds Tryz.pinned (.plain (OpenSpec.ofChange incrementSameSpec)) incrementSameCard

/-- THE SECOND FORM's CARD OF 'dataflowlaw50.IncrementSame'. -/
def incrementSameUptoCard : Claim7 := { stood := { row := incrementSameUptoRow, standIns := [], harness := (true, "06da6892c45fdb77308a3fcb685b1b3fa6d09e7c8da5566cf1ba690ba6cf6821"), looks := false }, kinds := [], alts := [], laidByText := true, laidKinds := [.data, .data, .data, .data, .data], laidTests := true, laidLooks := .later }
def IncrementSameUptoCardSaid : Prop := Claim7.holds Tryz.pinned (.plain (OpenSpec.upto incrementSameSpec)) incrementSameUptoCard
end Rows
end Go.Proofs.YtaioinkajndjkaaGreatDoor
