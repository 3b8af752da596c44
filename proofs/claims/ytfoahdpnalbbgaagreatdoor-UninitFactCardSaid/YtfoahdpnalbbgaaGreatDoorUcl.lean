/- A closed fact on the program: its looks. -/
import Derived.Test.YtfoahdpnalbbgaaGreatDoorRows
import GoSem.ClaimSeven
set_option linter.unusedVariables false
set_option linter.unusedSimpArgs false
namespace Go.Proofs.YtfoahdpnalbbgaaGreatDoor.uninitFact
open Go
theorem c_looks : false = Tryz.prog.looks [] := by kernel_rfl
end Go.Proofs.YtfoahdpnalbbgaaGreatDoor.uninitFact
