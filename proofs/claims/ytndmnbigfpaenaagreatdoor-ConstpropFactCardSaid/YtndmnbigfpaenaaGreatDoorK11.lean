/- The evaluation of a part of the example. -/
import Derived.Test.YtndmnbigfpaenaaGreatDoorProg
import Derived.Test.YtndmnbigfpaenaaGreatDoorMem
import Derived.KernelRfl
namespace Go.Proofs.YtndmnbigfpaenaaGreatDoor.Ev
open Go
theorem bears11 : bears m11 lb11 (ev (cC Tryz.prog) (tblX Tryz.prog X0) (memoF [m10, m9, m8, m7, m6, m5, m4, m3, m2, m1, m0]) 1000000 m11.c (.call (.fn m11.f) m11.args) m11.h) = true := by kernel_rfl
end Go.Proofs.YtndmnbigfpaenaaGreatDoor.Ev
