/- A closed fact on the program: what the row says of it. -/
import Derived.Test.YtfoahdpnalbbgaaGreatDoorRows
set_option linter.unusedVariables false
set_option linter.unusedSimpArgs false
namespace Go.Proofs.YtfoahdpnalbbgaaGreatDoor.uninitFact
open Go
theorem j_un : (Rows.uninitFactRow.unfollowed == Tryz.prog.unfollowed 3) = true := by kernel_rfl
end Go.Proofs.YtfoahdpnalbbgaaGreatDoor.uninitFact
