/- strings.Join inside an evaluation; the evaluation of the example. -/
import Derived.Test.YtlocnfaeiacphaaGreatDoorEvFin
import Derived.Test.YtlocnfaeiacphaaGreatDoorProg
import Derived.Test.YtlocnfaeiacphaaGreatDoorEvY
import Derived.KernelRfl
/- strings.Join, answered inside an evaluation. -/
set_option linter.unusedVariables false
set_option linter.unusedSimpArgs false
namespace Go.Proofs.YtlocnfaeiacphaaGreatDoor.Ev
open Go
def catL : List Nat → List Nat → List Nat
  | [], r => r
  | x :: l, r => x :: catL l r
def joinL (sep : List Nat) : List (List Nat) → List Nat
  | [] => []
  | x :: r => match r with
    | [] => x
    | _ :: _ => catL x (catL sep (joinL sep r))
def strsK : Nat → List AV → Option (List (List Nat))
  | 0, _ => some []
  | n + 1, .str s :: l => match strsK n l with
    | some r => some (s :: r)
    | none => none
  | _ + 1, _ => none
def dropL : Nat → List AV → List AV
  | 0, l => l
  | _ + 1, [] => []
  | n + 1, _ :: l => dropL n l
/-- the answer of strings.Join -/
def JM (f : Nat) : Mf := fun g args c h => bif Nat.beq g f then match args with
    | [.sl id off n 1 _, .str sep] => match n with
      | 0 => some (.str [], h)
      | n + 1 => match getB c h id with
        | some (.cells vs) => match strsK (n + 1) (dropL off vs) with
          | some xs => bif Nat.ble (lenN (joinL sep xs)) 1000000 && Nat.ble n 1000000 then some (.str (joinL sep xs), h) else none
          | none => none
        | _ => none
    | [.nils, .str sep] => some (.str [], h)
    | _ => none
  else none
end Go.Proofs.YtlocnfaeiacphaaGreatDoor.Ev

/- The evaluation of the example. -/
namespace Go.Proofs.YtlocnfaeiacphaaGreatDoor.Ev
open Go
theorem awake_true : isTrue (ev (cC Tryz.prog) (tblX Tryz.prog []) (JM 65) 1000000 ⟨4, [(0, big)]⟩ (.call (.fnB 4) []) ⟨.nil, 4⟩) = true := by kernel_rfl
end Go.Proofs.YtlocnfaeiacphaaGreatDoor.Ev
