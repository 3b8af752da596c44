/- TaintFacts: for every input the law returns true, and its arguments read as before (the card ties the listed package-level variables to the text of the program). -/
import Derived.Test.YtmdceifbbmnfgaaGreatDoorZcon
import Derived.Test.YtmdceifbbmnfgaaGreatDoorZbk
import Derived.Test.YtmdceifbbmnfgaaGreatDoorCards
import Derived.Test.YtmdceifbbmnfgaaGreatDoorTie
import Derived.Test.YtmdceifbbmnfgaaGreatDoorZcp
set_option linter.unusedVariables false
set_option linter.unusedSimpArgs false
namespace Go.Proofs.YtmdceifbbmnfgaaGreatDoor.taintFacts
open Go.ChangeShapes Go.WideShapes Go.ChangeAt Go.RowKit
theorem said : Rows.TaintFactsSaid :=
 OpenClaim.holds_of_cond 3 Tryz.f3 rfl rfl rfl rfl rfl rfl rfl ⟨rfl, rfl, rfl, rfl, rfl⟩ rfl rfl rfl rfl rfl (by kernel_rfl) Tryz.func3 (joined_of j_in j_un j_re j_na j_rest)
  (of_decide_eq_true (by kernel_rfl)) (by unfold Func.isWrapper; first | (rw [if_pos (by decide +kernel)]; kernel_rfl) | (rw [if_neg (by decide +kernel)]; exact ⟨rfl, rfl⟩))
  (fun os started H enc _ F => by rw [OpenClaim.pre_eq_preRow]; exact lifted os started H enc F)
end Go.Proofs.YtmdceifbbmnfgaaGreatDoor.taintFacts
namespace Go.Proofs.YtmdceifbbmnfgaaGreatDoor.taintFacts
open Go.ChangeShapes Go.WideShapes Go.ChangeAt Go.RowKit
theorem card : Rows.TaintFactsCardSaid :=
 Claim7.holds_tied_plain_at .later [] _ _ _ _ said (fun _ h => by cases h) (by kernel_rfl) (fun _ h => by cases h) taintFacts_row_tie rfl ⟨rfl, rfl⟩ (by kernel_rfl) rfl plain c_goes
end Go.Proofs.YtmdceifbbmnfgaaGreatDoor.taintFacts