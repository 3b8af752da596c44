/- CoverStates, part 42 -/
import Derived.Test.YtemehfgkfidgjaaGreatDoorRows
import Derived.ClosedOfChecked
set_option linter.all false
namespace Go.Proofs.YtemehfgkfidgjaaGreatDoor
open Go
theorem Gg:ClosedOfChecked.AllSpec Tryz.checked.prog:=ClosedOfChecked.allSpec_of Tryz.checked.wellFormed (by kernel_rfl)
theorem laidOut:laidOutB Tryz.prog=true:=ClosedOfChecked.laidOutB_of Gg (by kernel_rfl)
theorem Tg:mapsRowed Tryz.prog=true:=ClosedOfChecked.mapsRowed_of Gg
theorem N7 {P:Program}{t:TypeId}(hl:t<P.types.size)(h:(match P.underlying t with
    |some (.map k _)=>(match P.underlying k with|some (.array _ _)|some (.struct _)=>false|_=>true)
    |_=>true)=false):P.plainKeys=false:=by
 unfold Program.plainKeys
 cases q:(List.range P.types.size).all (fun t=>match P.underlying t with
  |some (.map k _)=>(match P.underlying k with|some (.array _ _)|some (.struct _)=>false|_=>true)
  |_=>true)with
 |false=>rfl
 |true=>
  have:=List.all_eq_true.1 q t (List.mem_range.2 hl)
  rw[h]at this
  cases this
theorem QS: Tryz.prog.plainKeys=false:=N7 (t:= 204) (of_decide_eq_true (by kernel_rfl)) (by kernel_rfl)
theorem Th: Tryz.prog.mapsAmong [4]=false:=by kernel_rfl
theorem N8: Tryz.prog.stopsHeard=true:=by kernel_rfl
end Go.Proofs.YtemehfgkfidgjaaGreatDoor
