/-
  DERIVED. GIVEN WITH THE SEED: THE CARDS: each row of YtfoahdpnalbbgaaGreatDoorRows.lean that lists a variable, with what it lists TIED to the program's text (the seventh form; the later family's looks); each row that meets fmt, with fmt's text TOLD by the authors' own Lean function (tested against real Go, not proved from fmt's source: count such statements apart). THE CARD IS WHAT COUNTS. Prove the row's statement (the work); the ties are given (YtfoahdpnalbbgaaGreatDoorTie.lean); close each card by the builder's one call (the guide's Derived/Test/ToyasCard.lean, 'card_holds'). Laid BY PROGRAM, IN A SANDBOX (cutbox-door.mjs). By AI agents, Wed Nov 11 2026. No macro, syntax, notation, axiom, sorry.
-/
import Derived.Test.YtfoahdpnalbbgaaGreatDoorRows
import GoSem.ClaimSeven
namespace Go.Proofs.YtfoahdpnalbbgaaGreatDoor
namespace Rows

/-- THE TIED CARD OF 'dataflowlaw37.UninitFact'. -/
def uninitFactCard : Claim7 := { stood := { row := uninitFactRow, standIns := [], harness := (true, "c21d7d7ea14e397a3588ce3c475a27d401d37da066a2a4819231a7d15c9fa057"), looks := false }, kinds := [], alts := [], laidByText := true, laidKinds := [.data, .data], laidTests := true, laidLooks := .later }
def UninitFactCardSaid : Prop := Claim7.holds Tryz.pinned (.plain (OpenSpec.ofChange uninitFactSpec)) uninitFactCard

/-- THE SECOND FORM's CARD OF 'dataflowlaw37.UninitFact'. -/
def uninitFactUptoCard : Claim7 := { stood := { row := uninitFactUptoRow, standIns := [], harness := (true, "c21d7d7ea14e397a3588ce3c475a27d401d37da066a2a4819231a7d15c9fa057"), looks := false }, kinds := [], alts := [], laidByText := true, laidKinds := [.data, .data], laidTests := true, laidLooks := .later }
def UninitFactUptoCardSaid : Prop := Claim7.holds Tryz.pinned (.plain (OpenSpec.upto uninitFactSpec)) uninitFactUptoCard
end Rows
end Go.Proofs.YtfoahdpnalbbgaaGreatDoor
