/- Closed facts on the program: its types. -/
import Derived.Test.YtaioinkajndjkaaGreatDoorRows
import Derived.ClosedOfChecked
set_option linter.unusedVariables false
set_option linter.unusedSimpArgs false
namespace Go.Proofs.YtaioinkajndjkaaGreatDoor
open Go
theorem allSpec : ClosedOfChecked.AllSpec Tryz.checked.prog := ClosedOfChecked.allSpec_of Tryz.checked.wellFormed (by kernel_rfl)
theorem laidOut : laidOutB Tryz.prog = true := ClosedOfChecked.laidOutB_of allSpec (by kernel_rfl)
theorem rowed : mapsRowed Tryz.prog = true := ClosedOfChecked.mapsRowed_of allSpec
theorem keys_of {P : Program} {t : TypeId} (hl : t < P.types.size) (h : (match P.underlying t with
    | some (.map k _) => (match P.underlying k with | some (.array _ _) | some (.struct _) => false | _ => true)
    | _ => true) = false) : P.plainKeys = false := by
  unfold Program.plainKeys
  cases q : (List.range P.types.size).all (fun t => match P.underlying t with
    | some (.map k _) => (match P.underlying k with | some (.array _ _) | some (.struct _) => false | _ => true)
    | _ => true) with
  | false => rfl
  | true =>
    have := List.all_eq_true.1 q t (List.mem_range.2 hl)
    rw [h] at this
    cases this
theorem plainK : Tryz.prog.plainKeys = false := keys_of (t := 150) (of_decide_eq_true (by kernel_rfl)) (by kernel_rfl)
theorem f_out : Tryz.prog.mapsAmong [4] = false := by kernel_rfl
theorem f_heard : Tryz.prog.stopsHeard = true := by kernel_rfl
end Go.Proofs.YtaioinkajndjkaaGreatDoor