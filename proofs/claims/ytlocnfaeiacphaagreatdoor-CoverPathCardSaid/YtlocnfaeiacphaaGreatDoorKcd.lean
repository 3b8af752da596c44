/- CoverPath: for every input the law returns true, and its arguments read as before (the card ties the listed package-level variables to the program's text). -/
import Derived.Test.YtlocnfaeiacphaaGreatDoorKsd
import Derived.Test.YtlocnfaeiacphaaGreatDoorKcg
import Derived.Test.YtlocnfaeiacphaaGreatDoorKcp
set_option linter.unusedVariables false
set_option linter.unusedSimpArgs false
namespace Go.Proofs.YtlocnfaeiacphaaGreatDoor.coverPath
open Go.ChangeShapes Go.WideShapes Go.ChangeAt Go.RowKit
theorem card : Rows.CoverPathCardSaid :=
  Claim7.holds_tied_plain_at .later [] _ _ _ _ said (fun _ h => by cases h) (by kernel_rfl) (fun _ h => by cases h) coverPath_row_tie rfl ⟨rfl, rfl⟩ (by kernel_rfl) rfl plain c_goes
end Go.Proofs.YtlocnfaeiacphaaGreatDoor.coverPath
