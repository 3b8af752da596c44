/- The evaluation of the example. -/
import Derived.Test.YtfoahdpnalbbgaaGreatDoorProg
import Derived.Test.YtfoahdpnalbbgaaGreatDoorMem
import Derived.KernelRfl
namespace Go.Proofs.YtfoahdpnalbbgaaGreatDoor.Ev
open Go
def isT : Res → Bool
  | .call (.bool true) _ => true
  | _ => false
theorem knows_true : isT (ev (cC Tryz.prog) (tblX Tryz.prog X0) [m3, m2, m1, m0] 1000000 cTop (.call (.fnB 6) []) hTop) = true := by kernel_rfl
end Go.Proofs.YtfoahdpnalbbgaaGreatDoor.Ev
