/- No function of the program starts a goroutine. -/
import Derived.Test.YtlocnfaeiacphaaGreatDoorRows
import GoSem.ClaimSeven
set_option linter.unusedVariables false
set_option linter.unusedSimpArgs false
namespace Go.Proofs.YtlocnfaeiacphaaGreatDoor.coverPath
open Go
theorem c_goes : false = Rows.coverPathRow.goesBy Tryz.prog := by kernel_rfl
end Go.Proofs.YtlocnfaeiacphaaGreatDoor.coverPath
