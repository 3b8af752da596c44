/- The evaluation of the example. -/
import Derived.Test.YtmdceifbbmnfgaaGreatDoorProg
import Derived.Test.YtmdceifbbmnfgaaGreatDoorMem
import Derived.KernelRfl
set_option linter.unusedVariables false
set_option linter.unusedSimpArgs false
namespace Go.Proofs.YtmdceifbbmnfgaaGreatDoor.Ev
open Go
theorem knows_true : isT (ev (cC Tryz.prog) (tblX Tryz.prog X0) (Mk Tryz.prog (L9 ++ L8 ++ L7 ++ L6 ++ L5 ++ L4 ++ L3 ++ L2 ++ L1 ++ L0)) 1000000 cTop (.call (.fnB 9) []) hTop) = true := by kernel_rfl
end Go.Proofs.YtmdceifbbmnfgaaGreatDoor.Ev