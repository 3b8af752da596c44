/- A closed fact on the program: its looks. -/
import Derived.Test.YtndmnbigfpaenaaGreatDoorRows
import GoSem.ClaimSeven
set_option linter.unusedVariables false
set_option linter.unusedSimpArgs false
namespace Go.Proofs.YtndmnbigfpaenaaGreatDoor.constpropFact
open Go
theorem c_looks : false = Tryz.prog.looks [] := by kernel_rfl
end Go.Proofs.YtndmnbigfpaenaaGreatDoor.constpropFact
