/- The evaluation of a part of the example. -/
import Derived.Test.YtndmnbigfpaenaaGreatDoorProg
import Derived.Test.YtndmnbigfpaenaaGreatDoorMem
import Derived.KernelRfl
namespace Go.Proofs.YtndmnbigfpaenaaGreatDoor.Ev
open Go
theorem bears9 : bears m9 lb9 (ev (cC Tryz.prog) (tblX Tryz.prog X0) (memoF [m8, m7, m6, m5, m4, m3, m2, m1, m0]) 1000000 m9.c (.call (.fn m9.f) m9.args) m9.h) = true := by kernel_rfl
end Go.Proofs.YtndmnbigfpaenaaGreatDoor.Ev
