/- The evaluation of a part of the example. -/
import Derived.Test.YtmdceifbbmnfgaaGreatDoorProg
import Derived.Test.YtmdceifbbmnfgaaGreatDoorMem
import Derived.KernelRfl
set_option linter.unusedVariables false
set_option linter.unusedSimpArgs false
namespace Go.Proofs.YtmdceifbbmnfgaaGreatDoor.Ev
open Go
theorem bears7 : rbearsAll 3 (cC Tryz.prog) (tblX Tryz.prog X0) (Mk Tryz.prog (L6 ++ L5 ++ L4 ++ L3 ++ L2 ++ L1 ++ L0)) 1000000 L7 = true := by kernel_rfl
end Go.Proofs.YtmdceifbbmnfgaaGreatDoor.Ev