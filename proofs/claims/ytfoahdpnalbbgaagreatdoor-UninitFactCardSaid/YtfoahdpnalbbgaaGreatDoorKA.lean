/- The evaluation of a part of the example. -/
import Derived.Test.YtfoahdpnalbbgaaGreatDoorProg
import Derived.Test.YtfoahdpnalbbgaaGreatDoorMem
import Derived.KernelRfl
namespace Go.Proofs.YtfoahdpnalbbgaaGreatDoor.Ev
open Go
theorem bears0 : bears m0 lb0 (ev (cC Tryz.prog) (tblX Tryz.prog X0) [] 1000000 m0.c (.call (.fn m0.f) m0.args) m0.h) = true := by kernel_rfl
end Go.Proofs.YtfoahdpnalbbgaaGreatDoor.Ev
