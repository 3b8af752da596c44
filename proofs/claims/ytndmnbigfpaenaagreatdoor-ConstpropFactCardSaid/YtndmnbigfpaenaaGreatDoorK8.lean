/- The evaluation of a part of the example. -/
import Derived.Test.YtndmnbigfpaenaaGreatDoorProg
import Derived.Test.YtndmnbigfpaenaaGreatDoorMem
import Derived.KernelRfl
namespace Go.Proofs.YtndmnbigfpaenaaGreatDoor.Ev
open Go
theorem bears8 : bears m8 lb8 (ev (cC Tryz.prog) (tblX Tryz.prog X0) (memoF [m7, m6, m5, m4, m3, m2, m1, m0]) 1000000 m8.c (.call (.fn m8.f) m8.args) m8.h) = true := by kernel_rfl
end Go.Proofs.YtndmnbigfpaenaaGreatDoor.Ev
