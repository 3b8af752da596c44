/- What the listed variables hold is tied to the program's text. -/
import Derived.Test.YtaioinkajndjkaaGreatDoorRows
import Derived.LaidByTextLater
import Derived.SevenTiedAt
import Derived.LaidSub
import Derived.LaidOnce
set_option linter.unusedVariables false
set_option linter.unusedSimpArgs false
namespace Go.Proofs.YtaioinkajndjkaaGreatDoor.incrementSame
open Go
abbrev L5 : List (String × DataW Unit) := [("dataflow/lex.keywords", Rows.laid_dataflow_lex_keywords), ("dataflow/ir.forms", Rows.laid_dataflow_ir_forms), ("internal/strconv.uint64pow10", Rows.laid_internal_strconv_uint64pow10), ("math/bits.deBruijn32tab", Rows.laid_math_bits_deBruijn32tab), ("math/bits.deBruijn64tab", Rows.laid_math_bits_deBruijn64tab)]
theorem noOwnUnsafe : Tryz.pinned.checked.prog.headLifts.contains "ownunsafe" = false := by kernel_rfl
theorem t1 : Tryz.prog.worded (varsWordLater true) = true := by kernel_rfl
theorem t2 : Tryz.prog.worded (varsWordLater !true) = false := by kernel_rfl
theorem t3 : Tryz.prog.worded rootWordLater = true := by kernel_rfl
theorem t4 : L5.map (fun x => Tryz.prog.kindOfLater x.1) = [LaidKind.data, .data, .data, .data, .data].map some := by kernel_rfl
theorem t5 : (Tryz.prog.funcNamed "gosem.cut.vars").isSome = true := by kernel_rfl
theorem t6 : varsNamedLaterB Tryz.prog (varsId Tryz.prog) L5 = true := by kernel_rfl
theorem t7 : ∀ os tape, doorLeaves Tryz.prog 400 8 70 L5 os tape = some (L5.filter fun x => x.2.handleName?.isNone, (funcsListed L5).map (·.2.funcsOut)) := fun _ _ => by kernel_rfl
theorem tie : Tryz.prog.laidByTextLater L5 [.data, .data, .data, .data, .data] true :=
  Program.laidByTextLater_by_one 400 8 70 t1 t2 t3 t4 t5 t6 t7
theorem row_tie : Rows.incrementSameRow.laidByTextAt .later Tryz.pinned [.data, .data, .data, .data, .data] true :=
  OpenClaim.laidByTextAt_later rfl rfl tie noOwnUnsafe
end Go.Proofs.YtaioinkajndjkaaGreatDoor.incrementSame