/- The evaluation of a part of the example. -/
import Derived.Test.YtmdceifbbmnfgaaGreatDoorProg
import Derived.Test.YtmdceifbbmnfgaaGreatDoorMem
import Derived.KernelRfl
set_option linter.unusedVariables false
set_option linter.unusedSimpArgs false
namespace Go.Proofs.YtmdceifbbmnfgaaGreatDoor.Ev
open Go
theorem bears1 : rbearsAll 3 (cC Tryz.prog) (tblX Tryz.prog X0) (Mk Tryz.prog (L0)) 1000000 L1 = true := by kernel_rfl
end Go.Proofs.YtmdceifbbmnfgaaGreatDoor.Ev