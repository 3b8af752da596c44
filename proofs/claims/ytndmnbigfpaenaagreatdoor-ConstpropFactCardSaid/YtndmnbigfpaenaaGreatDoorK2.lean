/- The evaluation of a part of the example. -/
import Derived.Test.YtndmnbigfpaenaaGreatDoorProg
import Derived.Test.YtndmnbigfpaenaaGreatDoorMem
import Derived.KernelRfl
namespace Go.Proofs.YtndmnbigfpaenaaGreatDoor.Ev
open Go
theorem bears2 : bears m2 lb2 (ev (cC Tryz.prog) (tblX Tryz.prog X0) (memoF [m1, m0]) 1000000 m2.c (.call (.fn m2.f) m2.args) m2.h) = true := by kernel_rfl
end Go.Proofs.YtndmnbigfpaenaaGreatDoor.Ev
