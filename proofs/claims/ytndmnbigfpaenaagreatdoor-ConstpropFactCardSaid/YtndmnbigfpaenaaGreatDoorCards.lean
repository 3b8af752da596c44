/-
  DERIVED. GIVEN WITH THE SEED: THE CARDS: each row of YtndmnbigfpaenaaGreatDoorRows.lean that lists a variable, with what it lists TIED to the program's text (the seventh form; the later family's looks); each row that meets fmt, with fmt's text TOLD by the authors' own Lean function (tested against real Go, not proved from fmt's source: count such statements apart). THE CARD IS WHAT COUNTS. Prove the row's statement (the work); the ties are given (YtndmnbigfpaenaaGreatDoorTie.lean); close each card by the builder's one call (the guide's Derived/Test/ToyasCard.lean, 'card_holds'). Laid BY PROGRAM, IN A SANDBOX (cutbox-door.mjs). By AI agents, Wed Nov 11 2026. No macro, syntax, notation, axiom, sorry.
-/
import Derived.Test.YtndmnbigfpaenaaGreatDoorRows
import GoSem.ClaimSeven
namespace Go.Proofs.YtndmnbigfpaenaaGreatDoor
namespace Rows

/-- THE TIED CARD OF 'dataflowlaw38.ConstpropFact'. -/
def constpropFactCard : Claim7 := { stood := { row := constpropFactRow, standIns := [], harness := (true, "240776e46d5a85046e47a771937d2eb29de74ea5e489113e01fe58225ad7ec25"), looks := false }, kinds := [], alts := [], laidByText := true, laidKinds := [.data, .data, .data], laidTests := true, laidLooks := .later }
def ConstpropFactCardSaid : Prop := Claim7.holds Tryz.pinned (.plain (OpenSpec.ofChange constpropFactSpec)) constpropFactCard

/-- THE SECOND FORM's CARD OF 'dataflowlaw38.ConstpropFact'. -/
def constpropFactUptoCard : Claim7 := { stood := { row := constpropFactUptoRow, standIns := [], harness := (true, "240776e46d5a85046e47a771937d2eb29de74ea5e489113e01fe58225ad7ec25"), looks := false }, kinds := [], alts := [], laidByText := true, laidKinds := [.data, .data, .data], laidTests := true, laidLooks := .later }
def ConstpropFactUptoCardSaid : Prop := Claim7.holds Tryz.pinned (.plain (OpenSpec.upto constpropFactSpec)) constpropFactUptoCard
end Rows
end Go.Proofs.YtndmnbigfpaenaaGreatDoor
