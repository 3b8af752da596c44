/- The library's calls that are answered by themselves hold: slices.Sort, slices.Compact, slices.BinarySearch on texts. -/
import Derived.Test.YtmdceifbbmnfgaaGreatDoorTgO
import Derived.Test.YtmdceifbbmnfgaaGreatDoorTfS
import Derived.Test.YtmdceifbbmnfgaaGreatDoorShelf
import Derived.KernelRfl
set_option linter.unusedVariables false
set_option linter.unusedSimpArgs false
namespace Go.Proofs.YtmdceifbbmnfgaaGreatDoor.Ev
open Go Go.RowKit Go.Shelf
theorem fn_sort : ∃ fn, Tryz.prog.funcs[srF]? = some fn ∧ fn.body.isNone = false ∧ (fn.name == "runtime.NumGoroutine") = false := ⟨_, Tryz.func44, by kernel_rfl, by kernel_rfl⟩
theorem fn_comp : ∃ fn, Tryz.prog.funcs[cpF]? = some fn ∧ fn.body.isNone = false ∧ (fn.name == "runtime.NumGoroutine") = false := ⟨_, Tryz.func45, by kernel_rfl, by kernel_rfl⟩
theorem fn_find : ∃ fn, Tryz.prog.funcs[bsF]? = some fn ∧ fn.body.isNone = false ∧ (fn.name == "runtime.NumGoroutine") = false := ⟨_, Tryz.func25, by kernel_rfl, by kernel_rfl⟩
theorem sortOk : MemoOk Tryz.prog Tryz.prog.globals.size (sortSM srF) :=
 sortSM_ok fn_sort (fun w => Tryz.slices_Sort_string_none none 0 w) (fun blk off cap ss w hH hb hs => Tryz.slices_Sort_string blk off cap ss w hH hb hs)
theorem compOk : MemoOk Tryz.prog Tryz.prog.globals.size (compSM cpF) :=
 compSM_ok fn_comp (fun w => Tryz.slices_Compact_string_empty none 0 w) (fun blk off cap zs w hH hs hc => Tryz.slices_Compact_string blk off cap zs w hH hs hc)
theorem findOk : MemoOk Tryz.prog Tryz.prog.globals.size (findSM bsF) :=
 findSM_ok fn_find (fun x w => Any2.slices_BinarySearch_string_empty Tryz.laysNm226 none 0 x w) (fun b off n c Sx x w hb hc => Any2.slices_BinarySearch_string Tryz.laysNm226 b off n c Sx x w hb hc)
theorem libOk : MemoOk Tryz.prog Tryz.prog.globals.size (orM (sortSM srF) (orM (compSM cpF) (findSM bsF))) := orM_ok sortOk (orM_ok compOk findOk)
end Go.Proofs.YtmdceifbbmnfgaaGreatDoor.Ev