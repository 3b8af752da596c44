/- ConstpropFact: for every input the law returns true, and its arguments read as before (the card ties the listed package-level variables to the program's text). -/
import Derived.Test.YtndmnbigfpaenaaGreatDoorCsd
import Derived.Test.YtndmnbigfpaenaaGreatDoorCcg
import Derived.Test.YtndmnbigfpaenaaGreatDoorCcp
set_option linter.unusedVariables false
set_option linter.unusedSimpArgs false
namespace Go.Proofs.YtndmnbigfpaenaaGreatDoor.constpropFact
open Go.ChangeShapes Go.WideShapes Go.ChangeAt Go.RowKit
theorem card : Rows.ConstpropFactCardSaid :=
  Claim7.holds_tied_plain_at .later [] _ _ _ _ said (fun _ h => by cases h) (by kernel_rfl) (fun _ h => by cases h) constpropFact_row_tie rfl ⟨rfl, rfl⟩ (by kernel_rfl) rfl plain c_goes
end Go.Proofs.YtndmnbigfpaenaaGreatDoor.constpropFact
