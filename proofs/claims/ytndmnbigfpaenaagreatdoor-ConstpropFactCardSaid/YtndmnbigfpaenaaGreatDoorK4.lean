/- The evaluation of a part of the example. -/
import Derived.Test.YtndmnbigfpaenaaGreatDoorProg
import Derived.Test.YtndmnbigfpaenaaGreatDoorMem
import Derived.KernelRfl
namespace Go.Proofs.YtndmnbigfpaenaaGreatDoor.Ev
open Go
theorem bears4 : bears m4 lb4 (ev (cC Tryz.prog) (tblX Tryz.prog X0) (memoF [m3, m2, m1, m0]) 1000000 m4.c (.call (.fn m4.f) m4.args) m4.h) = true := by kernel_rfl
end Go.Proofs.YtndmnbigfpaenaaGreatDoor.Ev
