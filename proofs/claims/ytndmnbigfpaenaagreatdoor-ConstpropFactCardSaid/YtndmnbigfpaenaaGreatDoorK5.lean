/- The evaluation of a part of the example. -/
import Derived.Test.YtndmnbigfpaenaaGreatDoorProg
import Derived.Test.YtndmnbigfpaenaaGreatDoorMem
import Derived.KernelRfl
namespace Go.Proofs.YtndmnbigfpaenaaGreatDoor.Ev
open Go
theorem bears5 : bears m5 lb5 (ev (cC Tryz.prog) (tblX Tryz.prog X0) (memoF [m4, m3, m2, m1, m0]) 1000000 m5.c (.call (.fn m5.f) m5.args) m5.h) = true := by kernel_rfl
end Go.Proofs.YtndmnbigfpaenaaGreatDoor.Ev
