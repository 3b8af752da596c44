/- A closed fact on the program: what the card says of it. -/
import Derived.Test.YtfoahdpnalbbgaaGreatDoorRows
import GoSem.ClaimSeven
set_option linter.unusedVariables false
set_option linter.unusedSimpArgs false
namespace Go.Proofs.YtfoahdpnalbbgaaGreatDoor.uninitFact
open Go
theorem c_goes : false = Rows.uninitFactRow.goesBy Tryz.prog := by kernel_rfl
end Go.Proofs.YtfoahdpnalbbgaaGreatDoor.uninitFact
