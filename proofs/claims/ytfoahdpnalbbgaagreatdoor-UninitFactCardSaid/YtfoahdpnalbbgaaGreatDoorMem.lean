/- The answers of some calls of the example, laid as literals (printed by a program). -/
import Derived.Test.YtfoahdpnalbbgaaGreatDoorEvB
set_option linter.unusedVariables false
namespace Go.Proofs.YtfoahdpnalbbgaaGreatDoor.Ev
open Go
def hStart : List (Nat × AB) := [(0, .cells [.str [], .str [100, 110], .str [100], .str [100, 97], .str [100, 97, 111, 98], .str [100], .str [100, 99], .str [100, 97, 109], .str [97, 109, 98], .str [100, 97, 99, 109, 42], .str [100, 99, 109, 42], .str [97, 103], .str [103], .str [97], .str [97], .str [100, 99], .str [100, 97, 110]]),
  (2, .cells [.str [99, 108, 97, 115, 115], .str [101, 120, 116, 101, 110, 100, 115], .str [118, 97, 114], .str [100, 101, 102], .str [115, 116, 97, 116, 105, 99], .str [105, 102], .str [101, 108, 115, 101], .str [119, 104, 105, 108, 101], .str [116, 114, 121], .str [99, 97, 116, 99, 104], .str [116, 104, 114, 111, 119], .str [114, 101, 116, 117, 114, 110], .str [110, 101, 119], .str [110, 117, 108, 108], .str [116, 104, 105, 115], .str [105, 110, 112, 117, 116], .str [105, 110, 116]])]

def la0 : List (Nat × AB) := [(0, .cells [.str [], .str [100, 110], .str [100], .str [100, 97], .str [100, 97, 111, 98], .str [100], .str [100, 99], .str [100, 97, 109], .str [97, 109, 98], .str [100, 97, 99, 109, 42], .str [100, 99, 109, 42], .str [97, 103], .str [103], .str [97], .str [97], .str [100, 99], .str [100, 97, 110]]),
  (2, .cells [.str [99, 108, 97, 115, 115], .str [101, 120, 116, 101, 110, 100, 115], .str [118, 97, 114], .str [100, 101, 102], .str [115, 116, 97, 116, 105, 99], .str [105, 102], .str [101, 108, 115, 101], .str [119, 104, 105, 108, 101], .str [116, 114, 121], .str [99, 97, 116, 99, 104], .str [116, 104, 114, 111, 119], .str [114, 101, 116, 117, 114, 110], .str [110, 101, 119], .str [110, 117, 108, 108], .str [116, 104, 105, 115], .str [105, 110, 112, 117, 116], .str [105, 110, 116]])]
def lb0 : List (Nat × AB) := [(0, .cells [.str [], .str [100, 110], .str [100], .str [100, 97], .str [100, 97, 111, 98], .str [100], .str [100, 99], .str [100, 97, 109], .str [97, 109, 98], .str [100, 97, 99, 109, 42], .str [100, 99, 109, 42], .str [97, 103], .str [103], .str [97], .str [97], .str [100, 99], .str [100, 97, 110]]),
  (2, .cells [.str [99, 108, 97, 115, 115], .str [101, 120, 116, 101, 110, 100, 115], .str [118, 97, 114], .str [100, 101, 102], .str [115, 116, 97, 116, 105, 99], .str [105, 102], .str [101, 108, 115, 101], .str [119, 104, 105, 108, 101], .str [116, 114, 121], .str [99, 97, 116, 99, 104], .str [116, 104, 114, 111, 119], .str [114, 101, 116, 117, 114, 110], .str [110, 101, 119], .str [110, 117, 108, 108], .str [116, 104, 105, 115], .str [105, 110, 112, 117, 116], .str [105, 110, 116]]),
  (374, .cells []),
  (379, .cells [.str [109, 97, 105, 110], .bool true, .nils, .str []]),
  (381, .cells [.str [77, 97, 105, 110], .str [], .sl 374 0 0 2 (some 0), .sl 379 0 1 4 none]),
  (397, .cells [.str [120], .str [105, 110, 116], .str [121], .str [105, 110, 116], .str [122], .str [105, 110, 116]]),
  (432, .cells [.int .i64 (.ofNat 3), .int .i64 (.ofNat 1), .int .i64 (.ofNat 0), .int .i64 (.ofNat 0), .int .i64 (.ofNat 0), .str [], .str [], .nils, .int .i64 (.ofNat 0), .int .i64 (.negSucc 0), .int .i64 (.ofNat 3), .int .i64 (.ofNat 2), .int .i64 (.ofNat 1), .int .i64 (.ofNat 0), .int .i64 (.ofNat 0), .str [], .str [], .nils, .int .i64 (.ofNat 0), .int .i64 (.negSucc 0), .int .i64 (.ofNat 13), .int .i64 (.ofNat 0), .int .i64 (.negSucc 0), .int .i64 (.ofNat 0), .int .i64 (.ofNat 0), .str [], .str [], .nils, .int .i64 (.ofNat 0), .int .i64 (.negSucc 0)]),
  (437, .cells [.str [77, 97, 105, 110], .str [109, 97, 105, 110], .bool true, .int .i64 (.ofNat 0), .sl 397 0 3 2 none, .str [], .sl 432 0 3 10 none])]
def m0 : Memo := { f := 8, args := [.str [99, 108, 97, 115, 115, 32, 77, 97, 105, 110, 32, 123, 32, 115, 116, 97, 116, 105, 99, 32, 100, 101, 102, 32, 109, 97, 105, 110, 40, 41, 32, 123, 32, 118, 97, 114, 32, 120, 58, 32, 105, 110, 116, 59, 32, 118, 97, 114, 32, 121, 58, 32, 105, 110, 116, 32, 61, 32, 120, 59, 32, 118, 97, 114, 32, 122, 58, 32, 105, 110, 116, 32, 61, 32, 121, 59, 32, 125, 32, 125]], c := ⟨3, [(0, big)]⟩, h := ⟨mkT la0, 3⟩, v := .agg [.sl 381 0 1 4 none, .sl 437 0 1 7 none, .int .i64 (.ofNat 0)], h' := ⟨mkT lb0, 439⟩ }

def la1 : List (Nat × AB) := [(0, .cells [.str [], .str [100, 110], .str [100], .str [100, 97], .str [100, 97, 111, 98], .str [100], .str [100, 99], .str [100, 97, 109], .str [97, 109, 98], .str [100, 97, 99, 109, 42], .str [100, 99, 109, 42], .str [97, 103], .str [103], .str [97], .str [97], .str [100, 99], .str [100, 97, 110]]),
  (2, .cells [.str [99, 108, 97, 115, 115], .str [101, 120, 116, 101, 110, 100, 115], .str [118, 97, 114], .str [100, 101, 102], .str [115, 116, 97, 116, 105, 99], .str [105, 102], .str [101, 108, 115, 101], .str [119, 104, 105, 108, 101], .str [116, 114, 121], .str [99, 97, 116, 99, 104], .str [116, 104, 114, 111, 119], .str [114, 101, 116, 117, 114, 110], .str [110, 101, 119], .str [110, 117, 108, 108], .str [116, 104, 105, 115], .str [105, 110, 112, 117, 116], .str [105, 110, 116]]),
  (374, .cells []),
  (379, .cells [.str [109, 97, 105, 110], .bool true, .nils, .str []]),
  (381, .cells [.str [77, 97, 105, 110], .str [], .sl 374 0 0 2 (some 0), .sl 379 0 1 4 none]),
  (397, .cells [.str [120], .str [105, 110, 116], .str [121], .str [105, 110, 116], .str [122], .str [105, 110, 116]]),
  (432, .cells [.int .i64 (.ofNat 3), .int .i64 (.ofNat 1), .int .i64 (.ofNat 0), .int .i64 (.ofNat 0), .int .i64 (.ofNat 0), .str [], .str [], .nils, .int .i64 (.ofNat 0), .int .i64 (.negSucc 0), .int .i64 (.ofNat 3), .int .i64 (.ofNat 2), .int .i64 (.ofNat 1), .int .i64 (.ofNat 0), .int .i64 (.ofNat 0), .str [], .str [], .nils, .int .i64 (.ofNat 0), .int .i64 (.negSucc 0), .int .i64 (.ofNat 13), .int .i64 (.ofNat 0), .int .i64 (.negSucc 0), .int .i64 (.ofNat 0), .int .i64 (.ofNat 0), .str [], .str [], .nils, .int .i64 (.ofNat 0), .int .i64 (.negSucc 0)]),
  (437, .cells [.str [77, 97, 105, 110], .str [109, 97, 105, 110], .bool true, .int .i64 (.ofNat 0), .sl 397 0 3 2 none, .str [], .sl 432 0 3 10 none]),
  (439, .cells [.sl 381 0 1 4 none, .sl 437 0 1 7 none, .int .i64 (.ofNat 0)]),
  (440, .cells [.sl 381 0 1 4 none, .sl 437 0 1 7 none, .int .i64 (.ofNat 0)])]
def lb1 : List (Nat × AB) := [(0, .cells [.str [], .str [100, 110], .str [100], .str [100, 97], .str [100, 97, 111, 98], .str [100], .str [100, 99], .str [100, 97, 109], .str [97, 109, 98], .str [100, 97, 99, 109, 42], .str [100, 99, 109, 42], .str [97, 103], .str [103], .str [97], .str [97], .str [100, 99], .str [100, 97, 110]]),
  (2, .cells [.str [99, 108, 97, 115, 115], .str [101, 120, 116, 101, 110, 100, 115], .str [118, 97, 114], .str [100, 101, 102], .str [115, 116, 97, 116, 105, 99], .str [105, 102], .str [101, 108, 115, 101], .str [119, 104, 105, 108, 101], .str [116, 114, 121], .str [99, 97, 116, 99, 104], .str [116, 104, 114, 111, 119], .str [114, 101, 116, 117, 114, 110], .str [110, 101, 119], .str [110, 117, 108, 108], .str [116, 104, 105, 115], .str [105, 110, 112, 117, 116], .str [105, 110, 116]]),
  (374, .cells []),
  (379, .cells [.str [109, 97, 105, 110], .bool true, .nils, .str []]),
  (381, .cells [.str [77, 97, 105, 110], .str [], .sl 374 0 0 2 (some 0), .sl 379 0 1 4 none]),
  (397, .cells [.str [120], .str [105, 110, 116], .str [121], .str [105, 110, 116], .str [122], .str [105, 110, 116]]),
  (432, .cells [.int .i64 (.ofNat 3), .int .i64 (.ofNat 1), .int .i64 (.ofNat 0), .int .i64 (.ofNat 0), .int .i64 (.ofNat 0), .str [], .str [], .nils, .int .i64 (.ofNat 0), .int .i64 (.negSucc 0), .int .i64 (.ofNat 3), .int .i64 (.ofNat 2), .int .i64 (.ofNat 1), .int .i64 (.ofNat 0), .int .i64 (.ofNat 0), .str [], .str [], .nils, .int .i64 (.ofNat 0), .int .i64 (.negSucc 0), .int .i64 (.ofNat 13), .int .i64 (.ofNat 0), .int .i64 (.negSucc 0), .int .i64 (.ofNat 0), .int .i64 (.ofNat 0), .str [], .str [], .nils, .int .i64 (.ofNat 0), .int .i64 (.negSucc 0)]),
  (437, .cells [.str [77, 97, 105, 110], .str [109, 97, 105, 110], .bool true, .int .i64 (.ofNat 0), .sl 397 0 3 2 none, .str [], .sl 432 0 3 10 none]),
  (439, .cells [.sl 381 0 1 4 none, .sl 437 0 1 7 none, .int .i64 (.ofNat 0)]),
  (440, .cells [.sl 381 0 1 4 none, .sl 437 0 1 7 none, .int .i64 (.ofNat 0)]),
  (539, .cells [.int .i64 (.ofNat 0)]),
  (654, .cells [.nils, .nils, .nils, .nils, .nils]),
  (655, .cells [])]
def m1 : Memo := { f := 12, args := [.agg [.sl 381 0 1 4 none, .sl 437 0 1 7 none, .int .i64 (.ofNat 0)]], c := ⟨3, [(0, big)]⟩, h := ⟨mkT la1, 441⟩, v := .tup [.agg [.sl 539 0 1 1 none, .nils, .sl 654 0 5 1 (some 5), .sl 655 0 0 1 (some 0)], .int .i64 (.ofNat 0)], h' := ⟨mkT lb1, 659⟩ }

def la2 : List (Nat × AB) := [(0, .cells [.str [], .str [100, 110], .str [100], .str [100, 97], .str [100, 97, 111, 98], .str [100], .str [100, 99], .str [100, 97, 109], .str [97, 109, 98], .str [100, 97, 99, 109, 42], .str [100, 99, 109, 42], .str [97, 103], .str [103], .str [97], .str [97], .str [100, 99], .str [100, 97, 110]]),
  (2, .cells [.str [99, 108, 97, 115, 115], .str [101, 120, 116, 101, 110, 100, 115], .str [118, 97, 114], .str [100, 101, 102], .str [115, 116, 97, 116, 105, 99], .str [105, 102], .str [101, 108, 115, 101], .str [119, 104, 105, 108, 101], .str [116, 114, 121], .str [99, 97, 116, 99, 104], .str [116, 104, 114, 111, 119], .str [114, 101, 116, 117, 114, 110], .str [110, 101, 119], .str [110, 117, 108, 108], .str [116, 104, 105, 115], .str [105, 110, 112, 117, 116], .str [105, 110, 116]]),
  (374, .cells []),
  (379, .cells [.str [109, 97, 105, 110], .bool true, .nils, .str []]),
  (381, .cells [.str [77, 97, 105, 110], .str [], .sl 374 0 0 2 (some 0), .sl 379 0 1 4 none]),
  (397, .cells [.str [120], .str [105, 110, 116], .str [121], .str [105, 110, 116], .str [122], .str [105, 110, 116]]),
  (432, .cells [.int .i64 (.ofNat 3), .int .i64 (.ofNat 1), .int .i64 (.ofNat 0), .int .i64 (.ofNat 0), .int .i64 (.ofNat 0), .str [], .str [], .nils, .int .i64 (.ofNat 0), .int .i64 (.negSucc 0), .int .i64 (.ofNat 3), .int .i64 (.ofNat 2), .int .i64 (.ofNat 1), .int .i64 (.ofNat 0), .int .i64 (.ofNat 0), .str [], .str [], .nils, .int .i64 (.ofNat 0), .int .i64 (.negSucc 0), .int .i64 (.ofNat 13), .int .i64 (.ofNat 0), .int .i64 (.negSucc 0), .int .i64 (.ofNat 0), .int .i64 (.ofNat 0), .str [], .str [], .nils, .int .i64 (.ofNat 0), .int .i64 (.negSucc 0)]),
  (437, .cells [.str [77, 97, 105, 110], .str [109, 97, 105, 110], .bool true, .int .i64 (.ofNat 0), .sl 397 0 3 2 none, .str [], .sl 432 0 3 10 none]),
  (439, .cells [.sl 381 0 1 4 none, .sl 437 0 1 7 none, .int .i64 (.ofNat 0)]),
  (440, .cells [.sl 381 0 1 4 none, .sl 437 0 1 7 none, .int .i64 (.ofNat 0)]),
  (539, .cells [.int .i64 (.ofNat 0)]),
  (654, .cells [.nils, .nils, .nils, .nils, .nils]),
  (655, .cells []),
  (659, .cells [.sl 539 0 1 1 none, .nils, .sl 654 0 5 1 (some 5), .sl 655 0 0 1 (some 0)])]
def lb2 : List (Nat × AB) := [(0, .cells [.str [], .str [100, 110], .str [100], .str [100, 97], .str [100, 97, 111, 98], .str [100], .str [100, 99], .str [100, 97, 109], .str [97, 109, 98], .str [100, 97, 99, 109, 42], .str [100, 99, 109, 42], .str [97, 103], .str [103], .str [97], .str [97], .str [100, 99], .str [100, 97, 110]]),
  (2, .cells [.str [99, 108, 97, 115, 115], .str [101, 120, 116, 101, 110, 100, 115], .str [118, 97, 114], .str [100, 101, 102], .str [115, 116, 97, 116, 105, 99], .str [105, 102], .str [101, 108, 115, 101], .str [119, 104, 105, 108, 101], .str [116, 114, 121], .str [99, 97, 116, 99, 104], .str [116, 104, 114, 111, 119], .str [114, 101, 116, 117, 114, 110], .str [110, 101, 119], .str [110, 117, 108, 108], .str [116, 104, 105, 115], .str [105, 110, 112, 117, 116], .str [105, 110, 116]]),
  (374, .cells []),
  (379, .cells [.str [109, 97, 105, 110], .bool true, .nils, .str []]),
  (381, .cells [.str [77, 97, 105, 110], .str [], .sl 374 0 0 2 (some 0), .sl 379 0 1 4 none]),
  (397, .cells [.str [120], .str [105, 110, 116], .str [121], .str [105, 110, 116], .str [122], .str [105, 110, 116]]),
  (432, .cells [.int .i64 (.ofNat 3), .int .i64 (.ofNat 1), .int .i64 (.ofNat 0), .int .i64 (.ofNat 0), .int .i64 (.ofNat 0), .str [], .str [], .nils, .int .i64 (.ofNat 0), .int .i64 (.negSucc 0), .int .i64 (.ofNat 3), .int .i64 (.ofNat 2), .int .i64 (.ofNat 1), .int .i64 (.ofNat 0), .int .i64 (.ofNat 0), .str [], .str [], .nils, .int .i64 (.ofNat 0), .int .i64 (.negSucc 0), .int .i64 (.ofNat 13), .int .i64 (.ofNat 0), .int .i64 (.negSucc 0), .int .i64 (.ofNat 0), .int .i64 (.ofNat 0), .str [], .str [], .nils, .int .i64 (.ofNat 0), .int .i64 (.negSucc 0)]),
  (437, .cells [.str [77, 97, 105, 110], .str [109, 97, 105, 110], .bool true, .int .i64 (.ofNat 0), .sl 397 0 3 2 none, .str [], .sl 432 0 3 10 none]),
  (439, .cells [.sl 381 0 1 4 none, .sl 437 0 1 7 none, .int .i64 (.ofNat 0)]),
  (440, .cells [.sl 381 0 1 4 none, .sl 437 0 1 7 none, .int .i64 (.ofNat 0)]),
  (539, .cells [.int .i64 (.ofNat 0)]),
  (654, .cells [.nils, .nils, .nils, .nils, .nils]),
  (655, .cells []),
  (659, .cells [.sl 539 0 1 1 none, .nils, .sl 654 0 5 1 (some 5), .sl 655 0 0 1 (some 0)]),
  (825, .cells [.int .i64 (.ofNat 0), .int .i64 (.ofNat 1), .int .i64 (.negSucc 0), .int .i64 (.ofNat 0), .int .i64 (.ofNat 2), .int .i64 (.ofNat 0), .int .i64 (.ofNat 0), .int .i64 (.ofNat 2), .int .i64 (.ofNat 1), .int .i64 (.ofNat 0), .int .i64 (.ofNat 2), .int .i64 (.ofNat 2), .int .i64 (.ofNat 0), .int .i64 (.ofNat 3), .int .i64 (.negSucc 0), .int .i64 (.ofNat 0), .int .i64 (.ofNat 4), .int .i64 (.negSucc 0)]),
  (887, .cells [.int .i64 (.ofNat 0), .int .i64 (.ofNat 1), .int .i64 (.ofNat 1), .int .i64 (.negSucc 0), .int .i64 (.ofNat 1), .int .i64 (.ofNat 2), .int .i64 (.ofNat 1), .int .i64 (.negSucc 0), .int .i64 (.ofNat 2), .int .i64 (.ofNat 3), .int .i64 (.ofNat 1), .int .i64 (.negSucc 0), .int .i64 (.ofNat 3), .int .i64 (.ofNat 4), .int .i64 (.ofNat 1), .int .i64 (.negSucc 0)]),
  (901, .cells [.sl 942 0 9 2 none, .sl 967 0 5 2 none, .sl 992 0 5 2 none, .sl 1016 0 6 2 none]),
  (942, .cells [.int .i64 (.ofNat 0), .int .i64 (.ofNat 0), .int .i64 (.ofNat 0), .int .i64 (.ofNat 1), .int .i64 (.ofNat 0), .int .i64 (.ofNat 2), .int .i64 (.ofNat 0), .int .i64 (.ofNat 3), .int .i64 (.ofNat 1), .int .i64 (.ofNat 1), .int .i64 (.ofNat 2), .int .i64 (.ofNat 2), .int .i64 (.ofNat 3), .int .i64 (.ofNat 3), .int .i64 (.ofNat 4), .int .i64 (.ofNat 4), .int .i64 (.ofNat 5), .int .i64 (.ofNat 5)]),
  (967, .cells [.int .i64 (.ofNat 0), .int .i64 (.ofNat 0), .int .i64 (.ofNat 1), .int .i64 (.ofNat 1), .int .i64 (.ofNat 3), .int .i64 (.ofNat 3), .int .i64 (.ofNat 4), .int .i64 (.ofNat 4), .int .i64 (.ofNat 5), .int .i64 (.ofNat 5)]),
  (992, .cells [.int .i64 (.ofNat 0), .int .i64 (.ofNat 0), .int .i64 (.ofNat 1), .int .i64 (.ofNat 1), .int .i64 (.ofNat 2), .int .i64 (.ofNat 2), .int .i64 (.ofNat 4), .int .i64 (.ofNat 4), .int .i64 (.ofNat 5), .int .i64 (.ofNat 5)]),
  (1016, .cells [.int .i64 (.ofNat 0), .int .i64 (.ofNat 0), .int .i64 (.ofNat 1), .int .i64 (.ofNat 1), .int .i64 (.ofNat 2), .int .i64 (.ofNat 2), .int .i64 (.ofNat 3), .int .i64 (.ofNat 3), .int .i64 (.ofNat 4), .int .i64 (.ofNat 4), .int .i64 (.ofNat 5), .int .i64 (.ofNat 5)])]
def m2 : Memo := { f := 13, args := [.agg [.sl 381 0 1 4 none, .sl 437 0 1 7 none, .int .i64 (.ofNat 0)], .agg [.sl 539 0 1 1 none, .nils, .sl 654 0 5 1 (some 5), .sl 655 0 0 1 (some 0)]], c := ⟨3, [(0, big)]⟩, h := ⟨mkT la2, 660⟩, v := .tup [.agg [.sl 825 0 6 3 none, .sl 887 0 4 4 none, .int .i64 (.ofNat 0), .int .i64 (.ofNat 6), .sl 901 0 4 1 (some 4), .nils], .int .i64 (.ofNat 0)], h' := ⟨mkT lb2, 1017⟩ }

def la3 : List (Nat × AB) := [(0, .cells [.str [], .str [100, 110], .str [100], .str [100, 97], .str [100, 97, 111, 98], .str [100], .str [100, 99], .str [100, 97, 109], .str [97, 109, 98], .str [100, 97, 99, 109, 42], .str [100, 99, 109, 42], .str [97, 103], .str [103], .str [97], .str [97], .str [100, 99], .str [100, 97, 110]]),
  (2, .cells [.str [99, 108, 97, 115, 115], .str [101, 120, 116, 101, 110, 100, 115], .str [118, 97, 114], .str [100, 101, 102], .str [115, 116, 97, 116, 105, 99], .str [105, 102], .str [101, 108, 115, 101], .str [119, 104, 105, 108, 101], .str [116, 114, 121], .str [99, 97, 116, 99, 104], .str [116, 104, 114, 111, 119], .str [114, 101, 116, 117, 114, 110], .str [110, 101, 119], .str [110, 117, 108, 108], .str [116, 104, 105, 115], .str [105, 110, 112, 117, 116], .str [105, 110, 116]]),
  (374, .cells []),
  (379, .cells [.str [109, 97, 105, 110], .bool true, .nils, .str []]),
  (381, .cells [.str [77, 97, 105, 110], .str [], .sl 374 0 0 2 (some 0), .sl 379 0 1 4 none]),
  (397, .cells [.str [120], .str [105, 110, 116], .str [121], .str [105, 110, 116], .str [122], .str [105, 110, 116]]),
  (432, .cells [.int .i64 (.ofNat 3), .int .i64 (.ofNat 1), .int .i64 (.ofNat 0), .int .i64 (.ofNat 0), .int .i64 (.ofNat 0), .str [], .str [], .nils, .int .i64 (.ofNat 0), .int .i64 (.negSucc 0), .int .i64 (.ofNat 3), .int .i64 (.ofNat 2), .int .i64 (.ofNat 1), .int .i64 (.ofNat 0), .int .i64 (.ofNat 0), .str [], .str [], .nils, .int .i64 (.ofNat 0), .int .i64 (.negSucc 0), .int .i64 (.ofNat 13), .int .i64 (.ofNat 0), .int .i64 (.negSucc 0), .int .i64 (.ofNat 0), .int .i64 (.ofNat 0), .str [], .str [], .nils, .int .i64 (.ofNat 0), .int .i64 (.negSucc 0)]),
  (437, .cells [.str [77, 97, 105, 110], .str [109, 97, 105, 110], .bool true, .int .i64 (.ofNat 0), .sl 397 0 3 2 none, .str [], .sl 432 0 3 10 none]),
  (439, .cells [.sl 381 0 1 4 none, .sl 437 0 1 7 none, .int .i64 (.ofNat 0)]),
  (440, .cells [.sl 381 0 1 4 none, .sl 437 0 1 7 none, .int .i64 (.ofNat 0)]),
  (539, .cells [.int .i64 (.ofNat 0)]),
  (654, .cells [.nils, .nils, .nils, .nils, .nils]),
  (655, .cells []),
  (659, .cells [.sl 539 0 1 1 none, .nils, .sl 654 0 5 1 (some 5), .sl 655 0 0 1 (some 0)]),
  (825, .cells [.int .i64 (.ofNat 0), .int .i64 (.ofNat 1), .int .i64 (.negSucc 0), .int .i64 (.ofNat 0), .int .i64 (.ofNat 2), .int .i64 (.ofNat 0), .int .i64 (.ofNat 0), .int .i64 (.ofNat 2), .int .i64 (.ofNat 1), .int .i64 (.ofNat 0), .int .i64 (.ofNat 2), .int .i64 (.ofNat 2), .int .i64 (.ofNat 0), .int .i64 (.ofNat 3), .int .i64 (.negSucc 0), .int .i64 (.ofNat 0), .int .i64 (.ofNat 4), .int .i64 (.negSucc 0)]),
  (887, .cells [.int .i64 (.ofNat 0), .int .i64 (.ofNat 1), .int .i64 (.ofNat 1), .int .i64 (.negSucc 0), .int .i64 (.ofNat 1), .int .i64 (.ofNat 2), .int .i64 (.ofNat 1), .int .i64 (.negSucc 0), .int .i64 (.ofNat 2), .int .i64 (.ofNat 3), .int .i64 (.ofNat 1), .int .i64 (.negSucc 0), .int .i64 (.ofNat 3), .int .i64 (.ofNat 4), .int .i64 (.ofNat 1), .int .i64 (.negSucc 0)]),
  (901, .cells [.sl 942 0 9 2 none, .sl 967 0 5 2 none, .sl 992 0 5 2 none, .sl 1016 0 6 2 none]),
  (942, .cells [.int .i64 (.ofNat 0), .int .i64 (.ofNat 0), .int .i64 (.ofNat 0), .int .i64 (.ofNat 1), .int .i64 (.ofNat 0), .int .i64 (.ofNat 2), .int .i64 (.ofNat 0), .int .i64 (.ofNat 3), .int .i64 (.ofNat 1), .int .i64 (.ofNat 1), .int .i64 (.ofNat 2), .int .i64 (.ofNat 2), .int .i64 (.ofNat 3), .int .i64 (.ofNat 3), .int .i64 (.ofNat 4), .int .i64 (.ofNat 4), .int .i64 (.ofNat 5), .int .i64 (.ofNat 5)]),
  (967, .cells [.int .i64 (.ofNat 0), .int .i64 (.ofNat 0), .int .i64 (.ofNat 1), .int .i64 (.ofNat 1), .int .i64 (.ofNat 3), .int .i64 (.ofNat 3), .int .i64 (.ofNat 4), .int .i64 (.ofNat 4), .int .i64 (.ofNat 5), .int .i64 (.ofNat 5)]),
  (992, .cells [.int .i64 (.ofNat 0), .int .i64 (.ofNat 0), .int .i64 (.ofNat 1), .int .i64 (.ofNat 1), .int .i64 (.ofNat 2), .int .i64 (.ofNat 2), .int .i64 (.ofNat 4), .int .i64 (.ofNat 4), .int .i64 (.ofNat 5), .int .i64 (.ofNat 5)]),
  (1016, .cells [.int .i64 (.ofNat 0), .int .i64 (.ofNat 0), .int .i64 (.ofNat 1), .int .i64 (.ofNat 1), .int .i64 (.ofNat 2), .int .i64 (.ofNat 2), .int .i64 (.ofNat 3), .int .i64 (.ofNat 3), .int .i64 (.ofNat 4), .int .i64 (.ofNat 4), .int .i64 (.ofNat 5), .int .i64 (.ofNat 5)]),
  (1017, .cells [.sl 825 0 6 3 none, .sl 887 0 4 4 none, .int .i64 (.ofNat 0), .int .i64 (.ofNat 6), .sl 901 0 4 1 (some 4), .nils])]
def lb3 : List (Nat × AB) := [(0, .cells [.str [], .str [100, 110], .str [100], .str [100, 97], .str [100, 97, 111, 98], .str [100], .str [100, 99], .str [100, 97, 109], .str [97, 109, 98], .str [100, 97, 99, 109, 42], .str [100, 99, 109, 42], .str [97, 103], .str [103], .str [97], .str [97], .str [100, 99], .str [100, 97, 110]]),
  (2, .cells [.str [99, 108, 97, 115, 115], .str [101, 120, 116, 101, 110, 100, 115], .str [118, 97, 114], .str [100, 101, 102], .str [115, 116, 97, 116, 105, 99], .str [105, 102], .str [101, 108, 115, 101], .str [119, 104, 105, 108, 101], .str [116, 114, 121], .str [99, 97, 116, 99, 104], .str [116, 104, 114, 111, 119], .str [114, 101, 116, 117, 114, 110], .str [110, 101, 119], .str [110, 117, 108, 108], .str [116, 104, 105, 115], .str [105, 110, 112, 117, 116], .str [105, 110, 116]]),
  (374, .cells []),
  (379, .cells [.str [109, 97, 105, 110], .bool true, .nils, .str []]),
  (381, .cells [.str [77, 97, 105, 110], .str [], .sl 374 0 0 2 (some 0), .sl 379 0 1 4 none]),
  (397, .cells [.str [120], .str [105, 110, 116], .str [121], .str [105, 110, 116], .str [122], .str [105, 110, 116]]),
  (432, .cells [.int .i64 (.ofNat 3), .int .i64 (.ofNat 1), .int .i64 (.ofNat 0), .int .i64 (.ofNat 0), .int .i64 (.ofNat 0), .str [], .str [], .nils, .int .i64 (.ofNat 0), .int .i64 (.negSucc 0), .int .i64 (.ofNat 3), .int .i64 (.ofNat 2), .int .i64 (.ofNat 1), .int .i64 (.ofNat 0), .int .i64 (.ofNat 0), .str [], .str [], .nils, .int .i64 (.ofNat 0), .int .i64 (.negSucc 0), .int .i64 (.ofNat 13), .int .i64 (.ofNat 0), .int .i64 (.negSucc 0), .int .i64 (.ofNat 0), .int .i64 (.ofNat 0), .str [], .str [], .nils, .int .i64 (.ofNat 0), .int .i64 (.negSucc 0)]),
  (437, .cells [.str [77, 97, 105, 110], .str [109, 97, 105, 110], .bool true, .int .i64 (.ofNat 0), .sl 397 0 3 2 none, .str [], .sl 432 0 3 10 none]),
  (439, .cells [.sl 381 0 1 4 none, .sl 437 0 1 7 none, .int .i64 (.ofNat 0)]),
  (440, .cells [.sl 381 0 1 4 none, .sl 437 0 1 7 none, .int .i64 (.ofNat 0)]),
  (539, .cells [.int .i64 (.ofNat 0)]),
  (654, .cells [.nils, .nils, .nils, .nils, .nils]),
  (655, .cells []),
  (659, .cells [.sl 539 0 1 1 none, .nils, .sl 654 0 5 1 (some 5), .sl 655 0 0 1 (some 0)]),
  (825, .cells [.int .i64 (.ofNat 0), .int .i64 (.ofNat 1), .int .i64 (.negSucc 0), .int .i64 (.ofNat 0), .int .i64 (.ofNat 2), .int .i64 (.ofNat 0), .int .i64 (.ofNat 0), .int .i64 (.ofNat 2), .int .i64 (.ofNat 1), .int .i64 (.ofNat 0), .int .i64 (.ofNat 2), .int .i64 (.ofNat 2), .int .i64 (.ofNat 0), .int .i64 (.ofNat 3), .int .i64 (.negSucc 0), .int .i64 (.ofNat 0), .int .i64 (.ofNat 4), .int .i64 (.negSucc 0)]),
  (887, .cells [.int .i64 (.ofNat 0), .int .i64 (.ofNat 1), .int .i64 (.ofNat 1), .int .i64 (.negSucc 0), .int .i64 (.ofNat 1), .int .i64 (.ofNat 2), .int .i64 (.ofNat 1), .int .i64 (.negSucc 0), .int .i64 (.ofNat 2), .int .i64 (.ofNat 3), .int .i64 (.ofNat 1), .int .i64 (.negSucc 0), .int .i64 (.ofNat 3), .int .i64 (.ofNat 4), .int .i64 (.ofNat 1), .int .i64 (.negSucc 0)]),
  (901, .cells [.sl 942 0 9 2 none, .sl 967 0 5 2 none, .sl 992 0 5 2 none, .sl 1016 0 6 2 none]),
  (942, .cells [.int .i64 (.ofNat 0), .int .i64 (.ofNat 0), .int .i64 (.ofNat 0), .int .i64 (.ofNat 1), .int .i64 (.ofNat 0), .int .i64 (.ofNat 2), .int .i64 (.ofNat 0), .int .i64 (.ofNat 3), .int .i64 (.ofNat 1), .int .i64 (.ofNat 1), .int .i64 (.ofNat 2), .int .i64 (.ofNat 2), .int .i64 (.ofNat 3), .int .i64 (.ofNat 3), .int .i64 (.ofNat 4), .int .i64 (.ofNat 4), .int .i64 (.ofNat 5), .int .i64 (.ofNat 5)]),
  (967, .cells [.int .i64 (.ofNat 0), .int .i64 (.ofNat 0), .int .i64 (.ofNat 1), .int .i64 (.ofNat 1), .int .i64 (.ofNat 3), .int .i64 (.ofNat 3), .int .i64 (.ofNat 4), .int .i64 (.ofNat 4), .int .i64 (.ofNat 5), .int .i64 (.ofNat 5)]),
  (992, .cells [.int .i64 (.ofNat 0), .int .i64 (.ofNat 0), .int .i64 (.ofNat 1), .int .i64 (.ofNat 1), .int .i64 (.ofNat 2), .int .i64 (.ofNat 2), .int .i64 (.ofNat 4), .int .i64 (.ofNat 4), .int .i64 (.ofNat 5), .int .i64 (.ofNat 5)]),
  (1016, .cells [.int .i64 (.ofNat 0), .int .i64 (.ofNat 0), .int .i64 (.ofNat 1), .int .i64 (.ofNat 1), .int .i64 (.ofNat 2), .int .i64 (.ofNat 2), .int .i64 (.ofNat 3), .int .i64 (.ofNat 3), .int .i64 (.ofNat 4), .int .i64 (.ofNat 4), .int .i64 (.ofNat 5), .int .i64 (.ofNat 5)]),
  (1017, .cells [.sl 825 0 6 3 none, .sl 887 0 4 4 none, .int .i64 (.ofNat 0), .int .i64 (.ofNat 6), .sl 901 0 4 1 (some 4), .nils]),
  (1416, .cells [.bool true, .bool true, .bool true, .bool true, .bool true, .bool false]),
  (1417, .cells [.nils, .sl 1432 0 3 1 none, .sl 1440 0 2 1 none, .sl 1446 0 1 1 none, .sl 1452 0 1 1 none, .nils]),
  (1432, .cells [.int .i64 (.ofNat 1), .int .i64 (.ofNat 2), .int .i64 (.ofNat 3)]),
  (1440, .cells [.int .i64 (.ofNat 1), .int .i64 (.ofNat 3)]),
  (1446, .cells [.int .i64 (.ofNat 1)]),
  (1452, .cells [.int .i64 (.ofNat 1)])]
def m3 : Memo := { f := 14, args := [.agg [.sl 825 0 6 3 none, .sl 887 0 4 4 none, .int .i64 (.ofNat 0), .int .i64 (.ofNat 6), .sl 901 0 4 1 (some 4), .nils]], c := ⟨3, [(0, big)]⟩, h := ⟨mkT la3, 1018⟩, v := .tup [.agg [.sl 1416 0 6 1 (some 6), .sl 1417 0 6 1 (some 6)], .int .i64 (.ofNat 0)], h' := ⟨mkT lb3, 1456⟩ }

/-- the place of a byte in a string -/
def gIB : List AV → Option AV
  | [.str s, .int .u8 (.ofNat c)] => bif Nat.ble c 255 then forceInt (idxB c s 0) fun n => some (.int .i64 n) else none
  | _ => none
def X0 : Exts := [(274, gIB)]
def hTop : H := ⟨mkT hStart, 3⟩
def cTop : C := ⟨3, [(0, big)]⟩
end Go.Proofs.YtfoahdpnalbbgaaGreatDoor.Ev
