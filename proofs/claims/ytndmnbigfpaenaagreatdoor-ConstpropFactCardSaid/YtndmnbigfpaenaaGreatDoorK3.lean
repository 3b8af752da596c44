/- The evaluation of a part of the example. -/
import Derived.Test.YtndmnbigfpaenaaGreatDoorProg
import Derived.Test.YtndmnbigfpaenaaGreatDoorMem
import Derived.KernelRfl
namespace Go.Proofs.YtndmnbigfpaenaaGreatDoor.Ev
open Go
theorem bears3 : bears m3 lb3 (ev (cC Tryz.prog) (tblX Tryz.prog X0) (memoF [m2, m1, m0]) 1000000 m3.c (.call (.fn m3.f) m3.args) m3.h) = true := by kernel_rfl
end Go.Proofs.YtndmnbigfpaenaaGreatDoor.Ev
