/- A closed fact on the program: its looks. -/
import Derived.Test.YtlocnfaeiacphaaGreatDoorRows
import GoSem.ClaimSeven
set_option linter.unusedVariables false
set_option linter.unusedSimpArgs false
namespace Go.Proofs.YtlocnfaeiacphaaGreatDoor.coverPath
open Go
theorem c_looks : true = Tryz.prog.looks [] := by kernel_rfl
end Go.Proofs.YtlocnfaeiacphaaGreatDoor.coverPath
