/- The evaluation of the example. -/
import Derived.Test.YtaioinkajndjkaaGreatDoorProg
import Derived.Test.YtaioinkajndjkaaGreatDoorMem
import Derived.KernelRfl
set_option linter.unusedVariables false
set_option linter.unusedSimpArgs false
namespace Go.Proofs.YtaioinkajndjkaaGreatDoor.Ev
open Go
theorem knows_true : isT (ev (cC Tryz.prog) (tblX Tryz.prog X0) (Mk Tryz.prog (L9 ++ L8 ++ L7 ++ L6 ++ L5 ++ L4 ++ L3 ++ L2 ++ L1 ++ L0)) 1000000 cTop (.call (.fnB 8) []) hTop) = true := by kernel_rfl
end Go.Proofs.YtaioinkajndjkaaGreatDoor.Ev