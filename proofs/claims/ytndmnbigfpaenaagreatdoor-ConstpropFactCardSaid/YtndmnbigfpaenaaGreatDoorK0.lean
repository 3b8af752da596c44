/- The evaluation of a part of the example. -/
import Derived.Test.YtndmnbigfpaenaaGreatDoorProg
import Derived.Test.YtndmnbigfpaenaaGreatDoorMem
import Derived.KernelRfl
namespace Go.Proofs.YtndmnbigfpaenaaGreatDoor.Ev
open Go
theorem bears0 : bears m0 lb0 (ev (cC Tryz.prog) (tblX Tryz.prog X0) (memoF []) 1000000 m0.c (.call (.fn m0.f) m0.args) m0.h) = true := by kernel_rfl
end Go.Proofs.YtndmnbigfpaenaaGreatDoor.Ev
