/-
  DERIVED. GIVEN WITH THE SEED: THE CARDS: each row of YtlocnfaeiacphaaGreatDoorRows.lean that lists a variable, with what it lists TIED to the program's text (the seventh form; the later family's looks); each row that meets fmt, with fmt's text TOLD by the authors' own Lean function (tested against real Go, not proved from fmt's source: count such statements apart). THE CARD IS WHAT COUNTS. Prove the row's statement (the work); the ties are given (YtlocnfaeiacphaaGreatDoorTie.lean); close each card by the builder's one call (the guide's Derived/Test/ToyasCard.lean, 'card_holds'). Laid BY PROGRAM, IN A SANDBOX (cutbox-door.mjs). By AI agents, Wed Nov 11 2026. No macro, syntax, notation, axiom, sorry.
-/
import Derived.Test.YtlocnfaeiacphaaGreatDoorRows
import GoSem.ClaimSeven
namespace Go.Proofs.YtlocnfaeiacphaaGreatDoor
namespace Rows

/-- THE TIED CARD OF 'dataflowlaw53.CoverPath'. -/
def coverPathCard : Claim7 := { stood := { row := coverPathRow, standIns := [], harness := (true, "09c910c3d1fe9cbdfbb85a9c3606221d0f2070875e5e701ba34e5de65de6f31a"), looks := true }, kinds := [], alts := [], laidByText := true, laidKinds := [.data, .data, .data], laidTests := true, laidLooks := .later }
def CoverPathCardSaid : Prop := Claim7.holds Tryz.pinned (.plain (OpenSpec.ofChange coverPathSpec)) coverPathCard

/-- THE SECOND FORM's CARD OF 'dataflowlaw53.CoverPath'. -/
def coverPathUptoCard : Claim7 := { stood := { row := coverPathUptoRow, standIns := [], harness := (true, "09c910c3d1fe9cbdfbb85a9c3606221d0f2070875e5e701ba34e5de65de6f31a"), looks := true }, kinds := [], alts := [], laidByText := true, laidKinds := [.data, .data, .data], laidTests := true, laidLooks := .later }
def CoverPathUptoCardSaid : Prop := Claim7.holds Tryz.pinned (.plain (OpenSpec.upto coverPathSpec)) coverPathUptoCard
end Rows
end Go.Proofs.YtlocnfaeiacphaaGreatDoor
