/- A closed fact on the program: what the row says of it. -/
import Derived.Test.YtndmnbigfpaenaaGreatDoorRows
set_option linter.unusedVariables false
set_option linter.unusedSimpArgs false
namespace Go.Proofs.YtndmnbigfpaenaaGreatDoor.constpropFact
open Go
theorem j_un : (Rows.constpropFactRow.unfollowed == Tryz.prog.unfollowed 3) = true := by kernel_rfl
end Go.Proofs.YtndmnbigfpaenaaGreatDoor.constpropFact
