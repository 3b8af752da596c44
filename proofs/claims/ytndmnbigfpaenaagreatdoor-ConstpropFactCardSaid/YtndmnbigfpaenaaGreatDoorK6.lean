/- The evaluation of a part of the example. -/
import Derived.Test.YtndmnbigfpaenaaGreatDoorProg
import Derived.Test.YtndmnbigfpaenaaGreatDoorMem
import Derived.KernelRfl
namespace Go.Proofs.YtndmnbigfpaenaaGreatDoor.Ev
open Go
theorem bears6 : bears m6 lb6 (ev (cC Tryz.prog) (tblX Tryz.prog X0) (memoF [m5, m4, m3, m2, m1, m0]) 1000000 m6.c (.call (.fn m6.f) m6.args) m6.h) = true := by kernel_rfl
end Go.Proofs.YtndmnbigfpaenaaGreatDoor.Ev
