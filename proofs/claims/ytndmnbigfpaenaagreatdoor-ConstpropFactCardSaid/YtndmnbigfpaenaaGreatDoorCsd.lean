/- The statement of the row. -/
import Derived.Test.YtndmnbigfpaenaaGreatDoorClf
import Derived.Test.YtndmnbigfpaenaaGreatDoorCjin
import Derived.Test.YtndmnbigfpaenaaGreatDoorCjun
import Derived.Test.YtndmnbigfpaenaaGreatDoorCjre
import Derived.Test.YtndmnbigfpaenaaGreatDoorCjna
import Derived.Test.YtndmnbigfpaenaaGreatDoorCjr
set_option linter.unusedVariables false
set_option linter.unusedSimpArgs false
namespace Go.Proofs.YtndmnbigfpaenaaGreatDoor.constpropFact
open Go.ChangeShapes Go.WideShapes Go.ChangeAt Go.RowKit
theorem said : Rows.ConstpropFactSaid :=
  OpenClaim.holds_of_cond 3 Tryz.f3 rfl rfl rfl rfl rfl rfl rfl ⟨rfl, rfl, rfl, rfl, rfl⟩ rfl rfl rfl rfl rfl (by kernel_rfl) Tryz.func3 (joined_of j_in j_un j_re j_na j_rest)
    (of_decide_eq_true (by kernel_rfl)) (by unfold Func.isWrapper; first | (rw [if_pos (by decide +kernel)]; kernel_rfl) | (rw [if_neg (by decide +kernel)]; exact ⟨rfl, rfl⟩))
    (fun os started H enc _ F => by rw [OpenClaim.pre_eq_preRow]; exact lifted os started H enc F)

end Go.Proofs.YtndmnbigfpaenaaGreatDoor.constpropFact
