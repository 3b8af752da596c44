/-
  DERIVED. GIVEN WITH THE SEED: THE CARDS: each row of YtmdceifbbmnfgaaGreatDoorRows.lean that lists a variable, with what it lists TIED to the program's text (the seventh form; the later family's looks); each row that meets fmt, with fmt's text TOLD by the authors' own Lean function (tested against real Go, not proved from fmt's source: count such statements apart). THE CARD IS WHAT COUNTS. Prove the row's statement (the work); the ties are given (YtmdceifbbmnfgaaGreatDoorTie.lean); close each card by the builder's one call (the guide's Derived/Test/ToyasCard.lean, 'card_holds'). Laid BY PROGRAM, IN A SANDBOX (cutbox-door.mjs). By AI agents, Wed Nov 11 2026. No macro, syntax, notation, axiom, sorry.
-/
import Derived.Test.YtmdceifbbmnfgaaGreatDoorRows
import GoSem.ClaimSeven
namespace Go.Proofs.YtmdceifbbmnfgaaGreatDoor
namespace Rows

/-- THE TIED CARD OF 'dataflowlaw43.TaintFacts'. -/
def taintFactsCard : Claim7 := { stood := { row := taintFactsRow, standIns := [], harness := (true, "573510a57fc20eda370c125a31440c7bfd929f54b5b4654c794a02e6802c22b0"), looks := false }, kinds := [], alts := [], laidByText := true, laidKinds := [.data, .data], laidTests := true, laidLooks := .later }
def TaintFactsCardSaid : Prop := Claim7.holds Tryz.pinned (.plain (OpenSpec.ofChange taintFactsSpec)) taintFactsCard

/-- THE SECOND FORM's CARD OF 'dataflowlaw43.TaintFacts'. -/
def taintFactsUptoCard : Claim7 := { stood := { row := taintFactsUptoRow, standIns := [], harness := (true, "573510a57fc20eda370c125a31440c7bfd929f54b5b4654c794a02e6802c22b0"), looks := false }, kinds := [], alts := [], laidByText := true, laidKinds := [.data, .data], laidTests := true, laidLooks := .later }
def TaintFactsUptoCardSaid : Prop := Claim7.holds Tryz.pinned (.plain (OpenSpec.upto taintFactsSpec)) taintFactsUptoCard
end Rows
end Go.Proofs.YtmdceifbbmnfgaaGreatDoor
