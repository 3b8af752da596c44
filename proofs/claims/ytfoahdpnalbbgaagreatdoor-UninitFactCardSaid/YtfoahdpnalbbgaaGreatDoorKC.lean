/- The evaluation of a part of the example. -/
import Derived.Test.YtfoahdpnalbbgaaGreatDoorProg
import Derived.Test.YtfoahdpnalbbgaaGreatDoorMem
import Derived.KernelRfl
namespace Go.Proofs.YtfoahdpnalbbgaaGreatDoor.Ev
open Go
theorem bears2 : bears m2 lb2 (ev (cC Tryz.prog) (tblX Tryz.prog X0) [m1, m0] 1000000 m2.c (.call (.fn m2.f) m2.args) m2.h) = true := by kernel_rfl
end Go.Proofs.YtfoahdpnalbbgaaGreatDoor.Ev
