/- The evaluation of a part of the example. -/
import Derived.Test.YtaioinkajndjkaaGreatDoorProg
import Derived.Test.YtaioinkajndjkaaGreatDoorMem
import Derived.KernelRfl
set_option linter.unusedVariables false
set_option linter.unusedSimpArgs false
namespace Go.Proofs.YtaioinkajndjkaaGreatDoor.Ev
open Go
theorem bears4 : rbearsAll 6 (cC Tryz.prog) (tblX Tryz.prog X0) (Mk Tryz.prog (L3 ++ L2 ++ L1 ++ L0)) 1000000 L4 = true := by kernel_rfl
end Go.Proofs.YtaioinkajndjkaaGreatDoor.Ev