/- No function of the program starts a goroutine. -/
import Derived.Test.YtndmnbigfpaenaaGreatDoorRows
import GoSem.ClaimSeven
set_option linter.unusedVariables false
set_option linter.unusedSimpArgs false
namespace Go.Proofs.YtndmnbigfpaenaaGreatDoor.constpropFact
open Go
theorem goes_none {P : Program} (h : P.funcs.any Func.goes = false) (f : FuncId) : P.goes f = false := by
  have hall : ∀ g : FuncId, (P.funcs[g]?).any Func.goes = false := fun g => by
    cases hq : P.funcs[g]? with
    | none => rfl
    | some fn =>
      cases hb : fn.goes with
      | false => simpa using hb
      | true =>
        have : P.funcs.any Func.goes = true := by
          rw [← Array.any_toList, List.any_eq_true]
          exact ⟨fn, Array.mem_toList_iff.2 (Array.mem_of_getElem? hq), hb⟩
        rw [h] at this; cases this
  have e : (fun g : FuncId => (P.funcs[g]?).any Func.goes) = fun _ => false := funext hall
  unfold Program.goes
  rw [h, Bool.and_false, Bool.or_false, e]
  induction P.closure f with
  | nil => rfl
  | cons x l ih => simp
theorem no_goes : Tryz.prog.funcs.any Func.goes = false := by kernel_rfl
theorem c_goes : false = Rows.constpropFactRow.goesBy Tryz.prog := by
  show false = (Tryz.prog.goesFrom Rows.constpropFactRow.func || false)
  unfold Program.goesFrom
  cases Tryz.prog.funcNamed Rows.constpropFactRow.func with
  | none => rfl
  | some f => simp [goes_none no_goes f]
end Go.Proofs.YtndmnbigfpaenaaGreatDoor.constpropFact
