/-
  DERIVED. GIVEN WITH THE SEED: THE CARDS: each row of YtgaihilgffficaaGreatDoorRows.lean that lists a variable, with what it lists TIED to the program's text (the seventh form; the later family's looks); each row that meets fmt, with fmt's text TOLD by the authors' own Lean function (tested against real Go, not proved from fmt's source: count such statements apart). THE CARD IS WHAT COUNTS. Prove the row's statement (the work); the ties are given (YtgaihilgffficaaGreatDoorTie.lean); close each card by the builder's one call (the guide's Derived/Test/ToyasCard.lean, 'card_holds'). Laid BY PROGRAM, IN A SANDBOX (cutbox-door.mjs). By AI agents, Wed Nov 11 2026. No macro, syntax, notation, axiom, sorry.
-/
import Derived.Test.YtgaihilgffficaaGreatDoorRows
import GoSem.ClaimSeven
namespace Go.Proofs.YtgaihilgffficaaGreatDoor
namespace Rows

/-- THE TIED CARD OF 'dataflowlaw53.CoverStates'. -/
def coverStatesCard : Claim7 := { stood := { row := coverStatesRow, standIns := [], harness := (true, "d732d144b234259c5aa892fbbd3406b95ea168ad0e2a2abb2d304dcb9355fd99"), looks := true }, kinds := [], alts := [], laidByText := true, laidKinds := [.data, .data, .data, .data, .data], laidTests := true, laidLooks := .later }
def CoverStatesCardSaid : Prop := Claim7.holds Tryz.pinned (.plain (OpenSpec.ofChange coverStatesSpec)) coverStatesCard

/-- THE SECOND FORM's CARD OF 'dataflowlaw53.CoverStates'. -/
def coverStatesUptoCard : Claim7 := { stood := { row := coverStatesUptoRow, standIns := [], harness := (true, "d732d144b234259c5aa892fbbd3406b95ea168ad0e2a2abb2d304dcb9355fd99"), looks := true }, kinds := [], alts := [], laidByText := true, laidKinds := [.data, .data, .data, .data, .data], laidTests := true, laidLooks := .later }
def CoverStatesUptoCardSaid : Prop := Claim7.holds Tryz.pinned (.plain (OpenSpec.upto coverStatesSpec)) coverStatesUptoCard
end Rows
end Go.Proofs.YtgaihilgffficaaGreatDoor
