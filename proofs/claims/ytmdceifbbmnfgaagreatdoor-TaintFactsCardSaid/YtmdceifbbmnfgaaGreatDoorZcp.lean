/- Closed facts on the program. -/
import Derived.Test.YtmdceifbbmnfgaaGreatDoorRows
import GoSem.ClaimSeven
set_option linter.unusedVariables false
set_option linter.unusedSimpArgs false
namespace Go.Proofs.YtmdceifbbmnfgaaGreatDoor.taintFacts
open Go
theorem goes_none {P : Program} (h : P.funcs.any Func.goes = false) (f : FuncId) : P.goes f = false := by
 have hall : ∀ g : FuncId, (P.funcs[g]?).any Func.goes = false := fun g => by
  cases hq : P.funcs[g]? with
  | none => rfl
  | some fn =>
   cases hb : fn.goes with
   | false => simpa using hb
   | true =>
    have : P.funcs.any Func.goes = true := by
     rw [← Array.any_toList, List.any_eq_true]
     exact ⟨fn, Array.mem_toList_iff.2 (Array.mem_of_getElem? hq), hb⟩
    rw [h] at this; cases this
 have e : (fun g : FuncId => (P.funcs[g]?).any Func.goes) = fun _ => false := funext hall
 unfold Program.goes
 rw [h, Bool.and_false, Bool.or_false, e]
 induction P.closure f with
 | nil => rfl
 | cons x l ih => simp
theorem no_goes : Tryz.prog.funcs.any Func.goes = false := by kernel_rfl
theorem c_goes : false = Rows.taintFactsRow.goesBy Tryz.prog := by
 show false = (Tryz.prog.goesFrom Rows.taintFactsRow.func || false)
 unfold Program.goesFrom
 cases Tryz.prog.funcNamed Rows.taintFactsRow.func with
 | none => rfl
 | some f => simp [goes_none no_goes f]
end Go.Proofs.YtmdceifbbmnfgaaGreatDoor.taintFacts
namespace Go.Proofs.YtmdceifbbmnfgaaGreatDoor.taintFacts
open Go
theorem c_looks : false = Tryz.prog.looks [] := by kernel_rfl
end Go.Proofs.YtmdceifbbmnfgaaGreatDoor.taintFacts
namespace Go.Proofs.YtmdceifbbmnfgaaGreatDoor.taintFacts
open Go
theorem plain (f : FuncId) (fn : Func) (hf : Tryz.pinned.checked.prog.funcNamed Rows.taintFactsRow.func = some f) (hfn : Tryz.pinned.checked.prog.funcs[f]? = some fn) :
  false = Tryz.pinned.checked.prog.looks [] ∧ ∀ (j : Nat) t, fn.params[j]? = some t → Tryz.pinned.checked.prog.wantsStandIn t = false := by
 obtain rfl : f = 3 := Option.some.inj ((show Tryz.prog.funcNamed Rows.taintFactsRow.func = some 3 by kernel_rfl).symm.trans hf) |>.symm
 obtain rfl : fn = Tryz.f3 := (Option.some.inj (Tryz.func3.symm.trans hfn)).symm
 refine ⟨c_looks, fun j t ht => ?_⟩
 rw [Tryz.params3] at ht
 have hm := Array.mem_of_getElem? ht
 simp only [List.mem_toArray, List.mem_cons, List.not_mem_nil, or_false, or_self] at hm
 rcases hm with rfl | rfl
 ·exact (show Tryz.prog.wantsStandIn 27 = false by kernel_rfl)
 ·exact (show Tryz.prog.wantsStandIn 31 = false by kernel_rfl)
end Go.Proofs.YtmdceifbbmnfgaaGreatDoor.taintFacts