/- The evaluation of the example. -/
import Derived.Test.YtndmnbigfpaenaaGreatDoorProg
import Derived.Test.YtndmnbigfpaenaaGreatDoorMem
import Derived.KernelRfl
namespace Go.Proofs.YtndmnbigfpaenaaGreatDoor.Ev
open Go
def isT : Res → Bool
  | .call (.bool true) _ => true
  | _ => false
theorem knows_true : isT (ev (cC Tryz.prog) (tblX Tryz.prog X0) (memoF [m11, m10, m9, m8, m7, m6, m5, m4, m3, m2, m1, m0]) 1000000 cTop (.call (.fnB 6) []) hTop) = true := by kernel_rfl
end Go.Proofs.YtndmnbigfpaenaaGreatDoor.Ev
