/- What is known from the start: the functions without a body, the package-level variables. -/
import Derived.Test.YtaioinkajndjkaaGreatDoorSyE
set_option linter.unusedVariables false
set_option linter.unusedSimpArgs false
namespace Go.Proofs.YtaioinkajndjkaaGreatDoor.Ev
open Go
/-- the place of a byte in a string -/
def gIB : List AV → Option AV
  | [.str s, .int .u8 (.ofNat c)] => bif Nat.ble c 255 then forceInt (idxB c s 0) fun n => some (.int .i64 n) else none
  | _ => none
/-- the order of two strings -/
def cmpN : List Nat → List Nat → Int
  | [], [] => 0
  | [], _ :: _ => -1
  | _ :: _, [] => 1
  | a :: l, b :: m => bif Nat.beq a b then cmpN l m else bif Nat.blt a b then -1 else 1
def gCmp : List AV → Option AV
  | [.str a, .str b] => forceInt (cmpN a b) fun n => some (.int .i64 n)
  | _ => none
def X0 : Exts := [(646, gIB), (348, gCmp)]
def hStart : List (Nat × AB) := [(1, .cells [.str [], .str [100, 110], .str [100], .str [100, 97], .str [100, 97, 111, 98], .str [100], .str [100, 99], .str [100, 97, 109], .str [97, 109, 98], .str [100, 97, 99, 109, 42], .str [100, 99, 109, 42], .str [97, 103], .str [103], .str [97], .str [97], .str [100, 99], .str [100, 97, 110]]),
  (2, .cells [.str [99, 108, 97, 115, 115], .str [101, 120, 116, 101, 110, 100, 115], .str [118, 97, 114], .str [100, 101, 102], .str [115, 116, 97, 116, 105, 99], .str [105, 102], .str [101, 108, 115, 101], .str [119, 104, 105, 108, 101], .str [116, 114, 121], .str [99, 97, 116, 99, 104], .str [116, 104, 114, 111, 119], .str [114, 101, 116, 117, 114, 110], .str [110, 101, 119], .str [110, 117, 108, 108], .str [116, 104, 105, 115], .str [105, 110, 112, 117, 116], .str [105, 110, 116]]),
  (3, .cells [.int .u64 (.ofNat 1), .int .u64 (.ofNat 10), .int .u64 (.ofNat 100), .int .u64 (.ofNat 1000), .int .u64 (.ofNat 10000), .int .u64 (.ofNat 100000), .int .u64 (.ofNat 1000000), .int .u64 (.ofNat 10000000), .int .u64 (.ofNat 100000000), .int .u64 (.ofNat 1000000000), .int .u64 (.ofNat 10000000000), .int .u64 (.ofNat 100000000000), .int .u64 (.ofNat 1000000000000), .int .u64 (.ofNat 10000000000000), .int .u64 (.ofNat 100000000000000), .int .u64 (.ofNat 1000000000000000), .int .u64 (.ofNat 10000000000000000), .int .u64 (.ofNat 100000000000000000), .int .u64 (.ofNat 1000000000000000000), .int .u64 (.ofNat 10000000000000000000)])]
/-- the same, as the memory has it -/
def G0 : List (Nat × List Value) := [(1, [.string ⟨#[]⟩, .string ⟨#[100, 110]⟩, .string ⟨#[100]⟩, .string ⟨#[100, 97]⟩, .string ⟨#[100, 97, 111, 98]⟩, .string ⟨#[100]⟩, .string ⟨#[100, 99]⟩, .string ⟨#[100, 97, 109]⟩, .string ⟨#[97, 109, 98]⟩, .string ⟨#[100, 97, 99, 109, 42]⟩, .string ⟨#[100, 99, 109, 42]⟩, .string ⟨#[97, 103]⟩, .string ⟨#[103]⟩, .string ⟨#[97]⟩, .string ⟨#[97]⟩, .string ⟨#[100, 99]⟩, .string ⟨#[100, 97, 110]⟩]),
  (2, [.string ⟨#[99, 108, 97, 115, 115]⟩, .string ⟨#[101, 120, 116, 101, 110, 100, 115]⟩, .string ⟨#[118, 97, 114]⟩, .string ⟨#[100, 101, 102]⟩, .string ⟨#[115, 116, 97, 116, 105, 99]⟩, .string ⟨#[105, 102]⟩, .string ⟨#[101, 108, 115, 101]⟩, .string ⟨#[119, 104, 105, 108, 101]⟩, .string ⟨#[116, 114, 121]⟩, .string ⟨#[99, 97, 116, 99, 104]⟩, .string ⟨#[116, 104, 114, 111, 119]⟩, .string ⟨#[114, 101, 116, 117, 114, 110]⟩, .string ⟨#[110, 101, 119]⟩, .string ⟨#[110, 117, 108, 108]⟩, .string ⟨#[116, 104, 105, 115]⟩, .string ⟨#[105, 110, 112, 117, 116]⟩, .string ⟨#[105, 110, 116]⟩]),
  (3, [.int .u64 1, .int .u64 10, .int .u64 100, .int .u64 1000, .int .u64 10000, .int .u64 100000, .int .u64 1000000, .int .u64 10000000, .int .u64 100000000, .int .u64 1000000000, .int .u64 10000000000, .int .u64 100000000000, .int .u64 1000000000000, .int .u64 10000000000000, .int .u64 100000000000000, .int .u64 1000000000000000, .int .u64 10000000000000000, .int .u64 100000000000000000, .int .u64 1000000000000000000, .int .u64 10000000000000000000])]
theorem start_ok : G0.mapM cG = some hStart := by rfl
def hTop : H := ⟨mkT hStart, 6⟩
def cTop : C := ⟨6, [(0, big)]⟩
def knF : Nat := 8
/-- the example's answer is known -/
def Mx : Mf := MK knF hStart
theorem Mx_no {f : Nat} (hne : Nat.beq f knF = false) (args : List AV) (c : C) (h : H) : Mx f args c h = none := MK_other hne args c h
end Go.Proofs.YtaioinkajndjkaaGreatDoor.Ev