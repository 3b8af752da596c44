/- A closed fact on the program: what the row says of it. -/
import Derived.Test.YtlocnfaeiacphaaGreatDoorRows
set_option linter.unusedVariables false
set_option linter.unusedSimpArgs false
namespace Go.Proofs.YtlocnfaeiacphaaGreatDoor.coverPath
open Go
theorem j_un : (Rows.coverPathRow.unfollowed == Tryz.prog.unfollowed 3) = true := by kernel_rfl
end Go.Proofs.YtlocnfaeiacphaaGreatDoor.coverPath
