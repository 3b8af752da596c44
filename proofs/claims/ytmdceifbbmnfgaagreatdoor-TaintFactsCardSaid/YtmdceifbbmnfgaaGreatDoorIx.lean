/- What is known from the start: the functions without a body, the package-level variables. -/
import Derived.Test.YtmdceifbbmnfgaaGreatDoorSyE
set_option linter.unusedVariables false
set_option linter.unusedSimpArgs false
namespace Go.Proofs.YtmdceifbbmnfgaaGreatDoor.Ev
open Go
def gIB : List AV → Option AV
 | [.str s, .int .u8 (.ofNat c)] => bif Nat.ble c 255 then forceInt (idxB c s 0) fun n => some (.int .i64 n) else none
 | _ => none
def X0 : Exts := [(485, gIB)]
def hStart : List (Nat × AB) := [(0, .cells [.str [], .str [100, 110], .str [100], .str [100, 97], .str [100, 97, 111, 98], .str [100], .str [100, 99], .str [100, 97, 109], .str [97, 109, 98], .str [100, 97, 99, 109, 42], .str [100, 99, 109, 42], .str [97, 103], .str [103], .str [97], .str [97], .str [100, 99], .str [100, 97, 110]]),
 (1, .cells [.str [99, 108, 97, 115, 115], .str [101, 120, 116, 101, 110, 100, 115], .str [118, 97, 114], .str [100, 101, 102], .str [115, 116, 97, 116, 105, 99], .str [105, 102], .str [101, 108, 115, 101], .str [119, 104, 105, 108, 101], .str [116, 114, 121], .str [99, 97, 116, 99, 104], .str [116, 104, 114, 111, 119], .str [114, 101, 116, 117, 114, 110], .str [110, 101, 119], .str [110, 117, 108, 108], .str [116, 104, 105, 115], .str [105, 110, 112, 117, 116], .str [105, 110, 116]])]
def G0 : List (Nat × List Value) := [(0, [.string ⟨#[]⟩, .string ⟨#[100, 110]⟩, .string ⟨#[100]⟩, .string ⟨#[100, 97]⟩, .string ⟨#[100, 97, 111, 98]⟩, .string ⟨#[100]⟩, .string ⟨#[100, 99]⟩, .string ⟨#[100, 97, 109]⟩, .string ⟨#[97, 109, 98]⟩, .string ⟨#[100, 97, 99, 109, 42]⟩, .string ⟨#[100, 99, 109, 42]⟩, .string ⟨#[97, 103]⟩, .string ⟨#[103]⟩, .string ⟨#[97]⟩, .string ⟨#[97]⟩, .string ⟨#[100, 99]⟩, .string ⟨#[100, 97, 110]⟩]),
 (1, [.string ⟨#[99, 108, 97, 115, 115]⟩, .string ⟨#[101, 120, 116, 101, 110, 100, 115]⟩, .string ⟨#[118, 97, 114]⟩, .string ⟨#[100, 101, 102]⟩, .string ⟨#[115, 116, 97, 116, 105, 99]⟩, .string ⟨#[105, 102]⟩, .string ⟨#[101, 108, 115, 101]⟩, .string ⟨#[119, 104, 105, 108, 101]⟩, .string ⟨#[116, 114, 121]⟩, .string ⟨#[99, 97, 116, 99, 104]⟩, .string ⟨#[116, 104, 114, 111, 119]⟩, .string ⟨#[114, 101, 116, 117, 114, 110]⟩, .string ⟨#[110, 101, 119]⟩, .string ⟨#[110, 117, 108, 108]⟩, .string ⟨#[116, 104, 105, 115]⟩, .string ⟨#[105, 110, 112, 117, 116]⟩, .string ⟨#[105, 110, 116]⟩])]
theorem start_ok : G0.mapM cG = some hStart := by rfl
def hTop : H := ⟨mkT hStart, 3⟩
def cTop : C := ⟨3, [(0, big)]⟩
def knF : Nat := 9
end Go.Proofs.YtmdceifbbmnfgaaGreatDoor.Ev