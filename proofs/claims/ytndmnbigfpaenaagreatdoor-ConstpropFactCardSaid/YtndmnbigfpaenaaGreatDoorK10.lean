/- The evaluation of a part of the example. -/
import Derived.Test.YtndmnbigfpaenaaGreatDoorProg
import Derived.Test.YtndmnbigfpaenaaGreatDoorMem
import Derived.KernelRfl
namespace Go.Proofs.YtndmnbigfpaenaaGreatDoor.Ev
open Go
theorem bears10 : bears m10 lb10 (ev (cC Tryz.prog) (tblX Tryz.prog X0) (memoF [m9, m8, m7, m6, m5, m4, m3, m2, m1, m0]) 1000000 m10.c (.call (.fn m10.f) m10.args) m10.h) = true := by kernel_rfl
end Go.Proofs.YtndmnbigfpaenaaGreatDoor.Ev
