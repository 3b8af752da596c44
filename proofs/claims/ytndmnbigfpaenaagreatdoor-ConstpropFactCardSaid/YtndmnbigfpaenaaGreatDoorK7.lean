/- The evaluation of a part of the example. -/
import Derived.Test.YtndmnbigfpaenaaGreatDoorProg
import Derived.Test.YtndmnbigfpaenaaGreatDoorMem
import Derived.KernelRfl
namespace Go.Proofs.YtndmnbigfpaenaaGreatDoor.Ev
open Go
theorem bears7 : bears m7 lb7 (ev (cC Tryz.prog) (tblX Tryz.prog X0) (memoF [m6, m5, m4, m3, m2, m1, m0]) 1000000 m7.c (.call (.fn m7.f) m7.args) m7.h) = true := by kernel_rfl
end Go.Proofs.YtndmnbigfpaenaaGreatDoor.Ev
