/- The code of the functions, as the evaluator has it (printed by a program). -/
import Derived.Test.YtaioinkajndjkaaGreatDoorProg
import Derived.Test.YtaioinkajndjkaaGreatDoorIx
import Derived.Test.YtaioinkajndjkaaGreatDoorInA
import Derived.KernelRfl
set_option linter.unusedVariables false
set_option linter.unusedSimpArgs false
set_option maxHeartbeats 4000000
namespace Go.Proofs.YtaioinkajndjkaaGreatDoor.Ev
open Go
def SR.o (d : Nat) (x : SO) : SR := ⟨some d, x, none, 0, false, false, none⟩
def SR.p (d : Nat) (x : SO) (p : Nat) : SR := ⟨some d, x, none, p, false, false, none⟩
def SR.g (d : Nat) (x : SO) (g : Nat) (b : Bool) (p : Nat) : SR := ⟨some d, x, some (g, b), p, false, false, none⟩
def s_law : SC := (.seq (.reg [
   .o 2 (.box (.tmp 0)),
   .o 3 (.box (.tmp 1)),
   .o 4 (.mv (.const (.bool false)))])
 (.seq (.seq (.reg [
   .o 5 (.faddr 0 (.tmp 2)),
   .o 6 (.loadN 3 (.tmp 5)),
   ⟨(some 7), .call (.const (.fn 4 [])) [(.tmp 6), (.const (.int .i64 100))], none, 0, true, false, none⟩,
   .o 8 (.not (.tmp 7)),
   .o 9 (.mv (.tmp 8)),
   .g 10 (.faddr 0 (.tmp 3)) 9 false 0,
   .g 11 (.loadN 3 (.tmp 10)) 9 false 0,
   ⟨(some 12), .call (.const (.fn 4 [])) [(.tmp 11), (.const (.int .i64 100))], (some (9, false)), 0, true, false, none⟩,
   .g 13 (.not (.tmp 12)) 9 false 0,
   .o 14 (.pick (.tmp 9) (.const (.bool true)) (.tmp 13)),
   .o 15 (.mv (.tmp 14)),
   .g 16 (.faddr 3 (.tmp 2)) 15 false 0,
   .g 17 (.loadN 2 (.tmp 16)) 15 false 0,
   ⟨(some 18), .call (.const (.fn 5 [])) [(.tmp 17)], (some (15, false)), 0, true, false, none⟩,
   .g 19 (.not (.tmp 18)) 15 false 0,
   .o 20 (.pick (.tmp 15) (.const (.bool true)) (.tmp 19)),
   .o 21 (.mv (.tmp 20)),
   .g 22 (.faddr 3 (.tmp 3)) 21 false 0,
   .g 23 (.loadN 2 (.tmp 22)) 21 false 0,
   ⟨(some 24), .call (.const (.fn 5 [])) [(.tmp 23)], (some (21, false)), 0, true, false, none⟩,
   .g 25 (.not (.tmp 24)) 21 false 0,
   .o 26 (.pick (.tmp 21) (.const (.bool true)) (.tmp 25)),
   .o 27 (.mv (.tmp 26)),
   .g 28 (.faddr 5 (.tmp 2)) 27 false 0,
   .g 29 (.load1 (.tmp 28)) 27 false 0,
   .g 30 (.lenL (.tmp 29)) 27 false 0,
   .g 31 (.ints .gtr (.tmp 30) (.const (.int .i64 20))) 27 false 0,
   .o 32 (.pick (.tmp 27) (.const (.bool true)) (.tmp 31)),
   .o 33 (.mv (.tmp 32)),
   .g 34 (.faddr 5 (.tmp 3)) 33 false 0,
   .g 35 (.load1 (.tmp 34)) 33 false 0,
   .g 36 (.lenL (.tmp 35)) 33 false 0,
   .g 37 (.ints .gtr (.tmp 36) (.const (.int .i64 20))) 33 false 0,
   .o 38 (.pick (.tmp 33) (.const (.bool true)) (.tmp 37))])
 (.cond (.tmp 38)
  (.seq (.reg [
     .o 4 (.mv (.const (.bool true)))])
   .ret)
  .skip))
 (.seq (.dreg [
   ⟨(some 39), .loadN 6 (.tmp 2), none, 0, false, false, (some (.tmp 2))⟩,
   ⟨(some 40), .loadN 6 (.tmp 3), none, 0, false, false, (some (.tmp 3))⟩,
   ⟨(some 41), .call (.const (.fn 6 [])) [(.tmp 39), (.tmp 40)], none, 3, true, true, none⟩,
   ⟨(some 42), .loadN 6 (.tmp 2), none, 0, false, false, (some (.tmp 2))⟩,
   ⟨(some 43), .loadN 6 (.tmp 3), none, 0, false, false, (some (.tmp 3))⟩,
   ⟨(some 44), .call (.const (.fn 7 [])) [(.tmp 42), (.tmp 43)], none, 31, true, true, none⟩,
   .p 45 (.eql (.b .bool) false (.tmp 41) (.tmp 44)) 63,
   .p 46 (.mv (.tmp 45)) 127,
   ⟨(some 47), .loadN 6 (.tmp 2), (some (46, true)), 255, false, false, (some (.tmp 2))⟩,
   ⟨(some 48), .loadN 6 (.tmp 2), (some (46, true)), 255, false, false, (some (.tmp 2))⟩,
   ⟨(some 49), .call (.const (.fn 6 [])) [(.tmp 47), (.tmp 48)], (some (46, true)), 1023, true, true, none⟩,
   .p 50 (.pick (.tmp 46) (.tmp 49) (.const (.bool false))) 2047,
   .p 51 (.mv (.tmp 50)) 4095,
   ⟨(some 52), .call (.const (.fn 8 [])) [], (some (51, true)), 8191, true, true, none⟩,
   .p 53 (.pick (.tmp 51) (.tmp 52) (.const (.bool false))) 16383,
   .p 4 (.mv (.tmp 53)) 32767])
 .ret)))
theorem x_law : tblX Tryz.prog X0 3 = some (.fn ⟨54, [(4, none)], s_law.den⟩) := by kernel_rfl
def s_Fit : SC := (.seq (.reg [
   .o 2 (.box (.tmp 0)),
   .o 4 (.mv (.const (.bool false)))])
 (.seq (.seq (.reg [
   .o 12 (.faddr 1 (.tmp 2)),
   .o 13 (.load1 (.tmp 12)),
   .o 14 (.lenL (.tmp 13)),
   .o 15 (.ints .gtr (.tmp 14) (.const (.int .i64 20))),
   .o 16 (.mv (.tmp 15)),
   .g 17 (.faddr 0 (.tmp 2)) 16 false 0,
   .g 18 (.faddr 0 (.tmp 17)) 16 false 0,
   .g 19 (.load1 (.tmp 18)) 16 false 0,
   .g 20 (.lenL (.tmp 19)) 16 false 0,
   .g 21 (.ints .gtr (.tmp 20) (.const (.int .i64 12))) 16 false 0,
   .o 22 (.pick (.tmp 16) (.const (.bool true)) (.tmp 21))])
 (.cond (.tmp 22)
  (.seq (.reg [
     .o 4 (.mv (.const (.bool false)))])
   .ret)
  .skip))
 (.seq (.seq (.reg [
   .o 5 (.mv (.const (.int .i64 0)))])
 (.block 0
  (.loop
   (.seq (.seq (.reg [
     .o 23 (.mv (.tmp 5)),
     .o 24 (.faddr 0 (.tmp 2)),
     .o 25 (.faddr 0 (.tmp 24)),
     .o 26 (.load1 (.tmp 25)),
     .o 27 (.lenL (.tmp 26)),
     .o 28 (.ints .lss (.tmp 23) (.tmp 27))])
   (.cond (.tmp 28)
    .skip
    (.exit 0)))
   (.seq (.block 1
    (.seq (.reg [
      .o 31 (.faddr 0 (.tmp 2)),
      .o 32 (.faddr 0 (.tmp 31)),
      .o 33 (.load1 (.tmp 32)),
      .o 34 (.mv (.tmp 5)),
      .o 35 (.iaddr 4 (.tmp 33) (.tmp 34)),
      .o 36 (.loadN 4 (.tmp 35)),
      .o 6 (.box (.const (.agg [(.str []), (.str []), .nils, .nils]))),
      ⟨none, .store 4 (.tmp 6) (.tmp 36), none, 0, true, false, none⟩])
    (.seq (.seq (.reg [
      .o 37 (.faddr 2 (.tmp 6)),
      .o 38 (.load1 (.tmp 37)),
      .o 39 (.lenL (.tmp 38)),
      .o 40 (.ints .gtr (.tmp 39) (.const (.int .i64 20))),
      .o 41 (.mv (.tmp 40)),
      .g 42 (.faddr 3 (.tmp 6)) 41 false 0,
      .g 43 (.load1 (.tmp 42)) 41 false 0,
      .g 44 (.lenL (.tmp 43)) 41 false 0,
      .g 45 (.ints .gtr (.tmp 44) (.const (.int .i64 20))) 41 false 0,
      .o 46 (.pick (.tmp 41) (.const (.bool true)) (.tmp 45))])
    (.cond (.tmp 46)
     (.seq (.reg [
        .o 4 (.mv (.const (.bool false)))])
      .ret)
     .skip))
    (.seq (.reg [
      .o 7 (.mv (.const (.int .i64 0)))])
    (.block 2
     (.loop
      (.seq (.seq (.reg [
        .o 47 (.mv (.tmp 7)),
        .o 48 (.faddr 3 (.tmp 6)),
        .o 49 (.load1 (.tmp 48)),
        .o 50 (.lenL (.tmp 49)),
        .o 51 (.ints .lss (.tmp 47) (.tmp 50))])
      (.cond (.tmp 51)
       .skip
       (.exit 2)))
      (.seq (.block 3
       (.seq (.reg [
         .o 54 (.faddr 3 (.tmp 6)),
         .o 55 (.load1 (.tmp 54)),
         .o 56 (.mv (.tmp 7)),
         .o 57 (.iaddr 4 (.tmp 55) (.tmp 56)),
         .o 58 (.faddr 2 (.tmp 57)),
         .o 59 (.load1 (.tmp 58)),
         .o 60 (.lenL (.tmp 59)),
         .o 61 (.ints .gtr (.tmp 60) (.const (.int .i64 20)))])
       (.cond (.tmp 61)
        (.seq (.reg [
           .o 4 (.mv (.const (.bool false)))])
         .ret)
        .skip)))
      (.reg [
        .o 52 (.mv (.tmp 7)),
        .o 53 (.ints .add (.tmp 52) (.const (.int .i64 1))),
        .o 7 (.mv (.tmp 53))])))))))))
   (.reg [
     .o 29 (.mv (.tmp 5)),
     .o 30 (.ints .add (.tmp 29) (.const (.int .i64 1))),
     .o 5 (.mv (.tmp 30))]))))))
 (.seq (.reg [
   .o 8 (.mv (.const (.int .i64 0)))])
 (.seq (.seq (.reg [
   .o 9 (.mv (.const (.int .i64 0)))])
 (.block 4
  (.loop
   (.seq (.seq (.reg [
     .o 62 (.mv (.tmp 9)),
     .o 63 (.faddr 1 (.tmp 2)),
     .o 64 (.load1 (.tmp 63)),
     .o 65 (.lenL (.tmp 64)),
     .o 66 (.ints .lss (.tmp 62) (.tmp 65))])
   (.cond (.tmp 66)
    .skip
    (.exit 4)))
   (.seq (.block 5
    (.seq (.reg [
      .o 69 (.faddr 1 (.tmp 2)),
      .o 70 (.load1 (.tmp 69)),
      .o 71 (.mv (.tmp 9)),
      .o 72 (.iaddr 7 (.tmp 70) (.tmp 71)),
      .o 73 (.faddr 6 (.tmp 72)),
      .o 74 (.load1 (.tmp 73)),
      .o 10 (.mv (.tmp 74))])
    (.seq (.seq (.reg [
      .o 75 (.mv (.tmp 10)),
      .o 76 (.lenL (.tmp 75)),
      .o 77 (.mv (.tmp 1)),
      .o 78 (.ints .gtr (.tmp 76) (.tmp 77)),
      .o 79 (.mv (.tmp 78)),
      .g 80 (.faddr 1 (.tmp 2)) 79 false 0,
      .g 81 (.load1 (.tmp 80)) 79 false 0,
      .g 82 (.mv (.tmp 9)) 79 false 0,
      .g 83 (.iaddr 7 (.tmp 81) (.tmp 82)) 79 false 0,
      .g 84 (.faddr 4 (.tmp 83)) 79 false 0,
      .g 85 (.load1 (.tmp 84)) 79 false 0,
      .g 86 (.lenL (.tmp 85)) 79 false 0,
      .g 87 (.mv (.tmp 1)) 79 false 0,
      .g 88 (.ints .gtr (.tmp 86) (.tmp 87)) 79 false 0,
      .o 89 (.pick (.tmp 79) (.const (.bool true)) (.tmp 88))])
    (.cond (.tmp 89)
     (.seq (.reg [
        .o 4 (.mv (.const (.bool false)))])
      .ret)
     .skip))
    (.seq (.reg [
      .o 90 (.mv (.tmp 8)),
      .o 91 (.mv (.tmp 10)),
      .o 92 (.lenL (.tmp 91)),
      .o 93 (.ints .add (.tmp 90) (.tmp 92)),
      .o 8 (.mv (.tmp 93))])
    (.seq (.reg [
      .o 11 (.mv (.const (.int .i64 0)))])
    (.block 6
     (.loop
      (.seq (.seq (.reg [
        .o 94 (.mv (.tmp 11)),
        .o 95 (.mv (.tmp 10)),
        .o 96 (.lenL (.tmp 95)),
        .o 97 (.ints .lss (.tmp 94) (.tmp 96))])
      (.cond (.tmp 97)
       .skip
       (.exit 6)))
      (.seq (.block 7
       (.seq (.reg [
         .o 100 (.mv (.tmp 10)),
         .o 101 (.mv (.tmp 11)),
         .o 102 (.iaddr 10 (.tmp 100) (.tmp 101)),
         .o 103 (.faddr 7 (.tmp 102)),
         .o 104 (.load1 (.tmp 103)),
         .o 105 (.lenL (.tmp 104)),
         .o 106 (.ints .gtr (.tmp 105) (.const (.int .i64 20)))])
       (.cond (.tmp 106)
        (.seq (.reg [
           .o 4 (.mv (.const (.bool false)))])
         .ret)
        .skip)))
      (.reg [
        .o 98 (.mv (.tmp 11)),
        .o 99 (.ints .add (.tmp 98) (.const (.int .i64 1))),
        .o 11 (.mv (.tmp 99))]))))))))))
   (.reg [
     .o 67 (.mv (.tmp 9)),
     .o 68 (.ints .add (.tmp 67) (.const (.int .i64 1))),
     .o 9 (.mv (.tmp 68))]))))))
 (.seq (.reg [
   .o 107 (.mv (.tmp 8)),
   .o 108 (.mv (.tmp 1)),
   .o 109 (.ints .leq (.tmp 107) (.tmp 108)),
   .o 4 (.mv (.tmp 109))])
 .ret))))))
theorem x_Fit : tblX Tryz.prog X0 4 = some (.fn ⟨110, [(4, none)], s_Fit.den⟩) := by kernel_rfl
def s_fit : SC := (.seq (.reg [
   .o 1 (.box (.tmp 0)),
   .o 2 (.mv (.const (.bool false)))])
 (.seq (.seq (.reg [
   .o 4 (.faddr 0 (.tmp 1)),
   .o 5 (.load1 (.tmp 4)),
   .o 6 (.lenL (.tmp 5)),
   .o 7 (.ints .gtr (.tmp 6) (.const (.int .i64 12))),
   .o 8 (.mv (.tmp 7)),
   .g 9 (.faddr 1 (.tmp 1)) 8 false 0,
   .g 10 (.load1 (.tmp 9)) 8 false 0,
   .g 11 (.lenL (.tmp 10)) 8 false 0,
   .g 12 (.ints .gtr (.tmp 11) (.const (.int .i64 4))) 8 false 0,
   .o 13 (.pick (.tmp 8) (.const (.bool true)) (.tmp 12))])
 (.cond (.tmp 13)
  (.seq (.reg [
     .o 2 (.mv (.const (.bool false)))])
   .ret)
  .skip))
 (.seq (.seq (.reg [
   .o 3 (.mv (.const (.int .i64 0)))])
 (.block 0
  (.loop
   (.seq (.seq (.reg [
     .o 14 (.mv (.tmp 3)),
     .o 15 (.faddr 0 (.tmp 1)),
     .o 16 (.load1 (.tmp 15)),
     .o 17 (.lenL (.tmp 16)),
     .o 18 (.ints .lss (.tmp 14) (.tmp 17))])
   (.cond (.tmp 18)
    .skip
    (.exit 0)))
   (.seq (.block 1
    (.seq (.reg [
      .o 21 (.faddr 0 (.tmp 1)),
      .o 22 (.load1 (.tmp 21)),
      .o 23 (.mv (.tmp 3)),
      .o 24 (.iaddr 8 (.tmp 22) (.tmp 23)),
      .o 25 (.faddr 3 (.tmp 24)),
      .o 26 (.faddr 2 (.tmp 25)),
      .o 27 (.load1 (.tmp 26)),
      .o 28 (.lenL (.tmp 27)),
      .o 29 (.ints .gtr (.tmp 28) (.const (.int .i64 4)))])
    (.cond (.tmp 29)
     (.seq (.reg [
        .o 2 (.mv (.const (.bool false)))])
      .ret)
     .skip)))
   (.reg [
     .o 19 (.mv (.tmp 3)),
     .o 20 (.ints .add (.tmp 19) (.const (.int .i64 1))),
     .o 3 (.mv (.tmp 20))]))))))
 (.seq (.reg [
   .o 2 (.mv (.const (.bool true)))])
 .ret))))
theorem x_fit : tblX Tryz.prog X0 5 = some (.fn ⟨30, [(2, none)], s_fit.den⟩) := by kernel_rfl
def s_PSame : SC := (.seq (.reg [
   .o 2 (.box (.tmp 0)),
   .o 3 (.box (.tmp 1)),
   .o 4 (.mv (.const (.bool false)))])
 (.seq (.reg [
   .o 5 (.faddr 0 (.tmp 2)),
   .o 6 (.loadN 3 (.tmp 5)),
   .o 7 (.faddr 0 (.tmp 3)),
   .o 8 (.loadN 3 (.tmp 7)),
   ⟨(some 9), .call (.const (.fn 9 [])) [(.tmp 6), (.tmp 8)], none, 0, true, false, none⟩,
   .o 10 (.mv (.tmp 9)),
   .g 11 (.faddr 3 (.tmp 2)) 10 true 0,
   .g 12 (.faddr 0 (.tmp 11)) 10 true 0,
   .g 13 (.load1 (.tmp 12)) 10 true 0,
   .g 14 (.faddr 3 (.tmp 3)) 10 true 0,
   .g 15 (.faddr 0 (.tmp 14)) 10 true 0,
   .g 16 (.load1 (.tmp 15)) 10 true 0,
   ⟨(some 17), .call (.const (.fn 10 [])) [(.tmp 13), (.tmp 16), (.const (.fn 11 []))], (some (10, true)), 0, true, false, none⟩,
   .o 18 (.pick (.tmp 10) (.tmp 17) (.const (.bool false))),
   .o 19 (.mv (.tmp 18)),
   .g 20 (.faddr 3 (.tmp 2)) 19 true 0,
   .g 21 (.faddr 1 (.tmp 20)) 19 true 0,
   .g 22 (.load1 (.tmp 21)) 19 true 0,
   .g 23 (.faddr 3 (.tmp 3)) 19 true 0,
   .g 24 (.faddr 1 (.tmp 23)) 19 true 0,
   .g 25 (.load1 (.tmp 24)) 19 true 0,
   ⟨(some 26), .call (.const (.fn 12 [])) [(.tmp 22), (.tmp 25), (.const (.fn 13 []))], (some (19, true)), 0, true, false, none⟩,
   .o 27 (.pick (.tmp 19) (.tmp 26) (.const (.bool false))),
   .o 28 (.mv (.tmp 27)),
   .g 29 (.faddr 5 (.tmp 2)) 28 true 0,
   .g 30 (.load1 (.tmp 29)) 28 true 0,
   .g 31 (.faddr 5 (.tmp 3)) 28 true 0,
   .g 32 (.load1 (.tmp 31)) 28 true 0,
   ⟨(some 33), .call (.const (.fn 14 [])) [(.tmp 30), (.tmp 32), (.const (.fn 15 []))], (some (28, true)), 0, true, false, none⟩,
   .o 34 (.pick (.tmp 28) (.tmp 33) (.const (.bool false))),
   .o 4 (.mv (.tmp 34))])
 .ret))
theorem x_PSame : tblX Tryz.prog X0 6 = some (.fn ⟨35, [(4, none)], s_PSame.den⟩) := by kernel_rfl
def s_RSame : SC := (.seq (.reg [
   .o 2 (.box (.tmp 0)),
   .o 3 (.box (.tmp 1)),
   .o 4 (.mv (.const (.bool false)))])
 (.seq (.seq (.reg [
   .o 8 (.faddr 0 (.tmp 2)),
   .o 9 (.loadN 3 (.tmp 8)),
   .o 10 (.faddr 0 (.tmp 3)),
   .o 11 (.loadN 3 (.tmp 10)),
   ⟨(some 12), .call (.const (.fn 16 [])) [(.tmp 9), (.tmp 11)], none, 0, true, false, none⟩,
   .o 13 (.not (.tmp 12)),
   .o 14 (.mv (.tmp 13)),
   .g 15 (.faddr 3 (.tmp 2)) 14 false 0,
   .g 16 (.loadN 2 (.tmp 15)) 14 false 0,
   .g 17 (.faddr 3 (.tmp 3)) 14 false 0,
   .g 18 (.loadN 2 (.tmp 17)) 14 false 0,
   ⟨(some 19), .call (.const (.fn 17 [])) [(.tmp 16), (.tmp 18)], (some (14, false)), 0, true, false, none⟩,
   .g 20 (.not (.tmp 19)) 14 false 0,
   .o 21 (.pick (.tmp 14) (.const (.bool true)) (.tmp 20)),
   .o 22 (.mv (.tmp 21)),
   .g 23 (.faddr 5 (.tmp 2)) 22 false 0,
   .g 24 (.load1 (.tmp 23)) 22 false 0,
   .g 25 (.lenL (.tmp 24)) 22 false 0,
   .g 26 (.faddr 5 (.tmp 3)) 22 false 0,
   .g 27 (.load1 (.tmp 26)) 22 false 0,
   .g 28 (.lenL (.tmp 27)) 22 false 0,
   .g 29 (.eql (.b .int) true (.tmp 25) (.tmp 28)) 22 false 0,
   .o 30 (.pick (.tmp 22) (.const (.bool true)) (.tmp 29))])
 (.cond (.tmp 30)
  (.seq (.reg [
     .o 4 (.mv (.const (.bool false)))])
   .ret)
  .skip))
 (.seq (.seq (.reg [
   .o 5 (.mv (.const (.int .i64 0)))])
 (.block 0
  (.loop
   (.seq (.seq (.reg [
     .o 31 (.mv (.tmp 5)),
     .o 32 (.faddr 5 (.tmp 2)),
     .o 33 (.load1 (.tmp 32)),
     .o 34 (.lenL (.tmp 33)),
     .o 35 (.ints .lss (.tmp 31) (.tmp 34))])
   (.cond (.tmp 35)
    .skip
    (.exit 0)))
   (.seq (.block 1
    (.seq (.reg [
      .o 38 (.faddr 5 (.tmp 2)),
      .o 39 (.load1 (.tmp 38)),
      .o 40 (.mv (.tmp 5)),
      .o 41 (.iaddr 5 (.tmp 39) (.tmp 40)),
      .o 42 (.loadN 5 (.tmp 41)),
      .o 6 (.box (.const (.agg [(.str []), (.str []), (.str []), .nils, .nils]))),
      ⟨none, .store 5 (.tmp 6) (.tmp 42), none, 0, true, false, none⟩])
    (.seq (.reg [
      .o 43 (.faddr 5 (.tmp 3)),
      .o 44 (.load1 (.tmp 43)),
      .o 45 (.mv (.tmp 5)),
      .o 46 (.iaddr 5 (.tmp 44) (.tmp 45)),
      .o 47 (.loadN 5 (.tmp 46)),
      .o 7 (.box (.const (.agg [(.str []), (.str []), (.str []), .nils, .nils]))),
      ⟨none, .store 5 (.tmp 7) (.tmp 47), none, 0, true, false, none⟩])
    (.seq (.reg [
      .o 48 (.faddr 0 (.tmp 6)),
      .o 49 (.loadN 2 (.tmp 48)),
      .o 50 (.faddr 0 (.tmp 7)),
      .o 51 (.loadN 2 (.tmp 50)),
      .o 52 (.eql (.st [.str, .str]) true (.tmp 49) (.tmp 51)),
      .o 53 (.mv (.tmp 52)),
      .g 54 (.faddr 2 (.tmp 6)) 53 false 0,
      .g 55 (.load1 (.tmp 54)) 53 false 0,
      .g 56 (.faddr 2 (.tmp 7)) 53 false 0,
      .g 57 (.load1 (.tmp 56)) 53 false 0,
      .g 58 (.eql (.b .str) true (.tmp 55) (.tmp 57)) 53 false 0,
      .o 59 (.pick (.tmp 53) (.const (.bool true)) (.tmp 58)),
      .o 60 (.mv (.tmp 59)),
      .g 61 (.faddr 3 (.tmp 6)) 60 false 0,
      .g 62 (.load1 (.tmp 61)) 60 false 0,
      .g 63 (.faddr 3 (.tmp 7)) 60 false 0,
      .g 64 (.load1 (.tmp 63)) 60 false 0,
      ⟨(some 65), .call (.const (.fn 18 [])) [(.tmp 62), (.tmp 64)], (some (60, false)), 0, true, false, none⟩,
      .g 66 (.not (.tmp 65)) 60 false 0,
      .o 67 (.pick (.tmp 60) (.const (.bool true)) (.tmp 66)),
      .o 68 (.mv (.tmp 67)),
      .g 69 (.faddr 4 (.tmp 6)) 68 false 0,
      .g 70 (.load1 (.tmp 69)) 68 false 0,
      .g 71 (.faddr 4 (.tmp 7)) 68 false 0,
      .g 72 (.load1 (.tmp 71)) 68 false 0,
      ⟨(some 73), .call (.const (.fn 18 [])) [(.tmp 70), (.tmp 72)], (some (68, false)), 0, true, false, none⟩,
      .g 74 (.not (.tmp 73)) 68 false 0,
      .o 75 (.pick (.tmp 68) (.const (.bool true)) (.tmp 74))])
    (.cond (.tmp 75)
     (.seq (.reg [
        .o 4 (.mv (.const (.bool false)))])
      .ret)
     .skip)))))
   (.reg [
     .o 36 (.mv (.tmp 5)),
     .o 37 (.ints .add (.tmp 36) (.const (.int .i64 1))),
     .o 5 (.mv (.tmp 37))]))))))
 (.seq (.reg [
   .o 4 (.mv (.const (.bool true)))])
 .ret))))
theorem x_RSame : tblX Tryz.prog X0 7 = some (.fn ⟨76, [(4, none)], s_RSame.den⟩) := by kernel_rfl
def s_irSame : SC := (.seq (.reg [
   .o 2 (.box (.tmp 0)),
   .o 3 (.box (.tmp 1)),
   .o 4 (.mv (.const (.bool false)))])
 (.seq (.reg [
   .o 5 (.faddr 2 (.tmp 2)),
   .o 6 (.load1 (.tmp 5)),
   .o 7 (.faddr 2 (.tmp 3)),
   .o 8 (.load1 (.tmp 7)),
   .o 9 (.eql (.b .int) false (.tmp 6) (.tmp 8)),
   .o 10 (.mv (.tmp 9)),
   .g 11 (.faddr 0 (.tmp 2)) 10 true 0,
   .g 12 (.faddr 0 (.tmp 11)) 10 true 0,
   .g 13 (.load1 (.tmp 12)) 10 true 0,
   .g 14 (.faddr 0 (.tmp 3)) 10 true 0,
   .g 15 (.faddr 0 (.tmp 14)) 10 true 0,
   .g 16 (.load1 (.tmp 15)) 10 true 0,
   ⟨(some 17), .call (.const (.fn 24 [])) [(.tmp 13), (.tmp 16), (.const (.fn 25 []))], (some (10, true)), 0, true, false, none⟩,
   .o 18 (.pick (.tmp 10) (.tmp 17) (.const (.bool false))),
   .o 19 (.mv (.tmp 18)),
   .g 20 (.faddr 1 (.tmp 2)) 19 true 0,
   .g 21 (.load1 (.tmp 20)) 19 true 0,
   .g 22 (.faddr 1 (.tmp 3)) 19 true 0,
   .g 23 (.load1 (.tmp 22)) 19 true 0,
   ⟨(some 24), .call (.const (.fn 26 [])) [(.tmp 21), (.tmp 23), (.const (.fn 27 []))], (some (19, true)), 0, true, false, none⟩,
   .o 25 (.pick (.tmp 19) (.tmp 24) (.const (.bool false))),
   .o 4 (.mv (.tmp 25))])
 .ret))
theorem x_irSame : tblX Tryz.prog X0 9 = some (.fn ⟨26, [(4, none)], s_irSame.den⟩) := by kernel_rfl
def s_sameRule : SC := (.seq (.reg [
   .o 2 (.box (.tmp 0)),
   .o 3 (.box (.tmp 1)),
   .o 4 (.mv (.const (.bool false)))])
 (.seq (.reg [
   .o 5 (.faddr 0 (.tmp 2)),
   .o 6 (.load1 (.tmp 5)),
   .o 7 (.faddr 0 (.tmp 3)),
   .o 8 (.load1 (.tmp 7)),
   .o 9 (.eql (.b .int) false (.tmp 6) (.tmp 8)),
   .o 10 (.mv (.tmp 9)),
   .g 11 (.faddr 1 (.tmp 2)) 10 true 0,
   .g 12 (.load1 (.tmp 11)) 10 true 0,
   .g 13 (.faddr 1 (.tmp 3)) 10 true 0,
   .g 14 (.load1 (.tmp 13)) 10 true 0,
   .g 15 (.eql (.b .str) false (.tmp 12) (.tmp 14)) 10 true 0,
   .o 16 (.pick (.tmp 10) (.tmp 15) (.const (.bool false))),
   .o 17 (.mv (.tmp 16)),
   .g 18 (.faddr 2 (.tmp 2)) 17 true 0,
   .g 19 (.load1 (.tmp 18)) 17 true 0,
   .g 20 (.faddr 2 (.tmp 3)) 17 true 0,
   .g 21 (.load1 (.tmp 20)) 17 true 0,
   .g 22 (.eql (.b .str) false (.tmp 19) (.tmp 21)) 17 true 0,
   .o 23 (.pick (.tmp 17) (.tmp 22) (.const (.bool false))),
   .o 24 (.mv (.tmp 23)),
   .g 25 (.faddr 7 (.tmp 2)) 24 true 0,
   .g 26 (.load1 (.tmp 25)) 24 true 0,
   .g 27 (.faddr 7 (.tmp 3)) 24 true 0,
   .g 28 (.load1 (.tmp 27)) 24 true 0,
   .g 29 (.eql (.b .str) false (.tmp 26) (.tmp 28)) 24 true 0,
   .o 30 (.pick (.tmp 24) (.tmp 29) (.const (.bool false))),
   .o 31 (.mv (.tmp 30)),
   .g 32 (.faddr 3 (.tmp 2)) 31 true 0,
   .g 33 (.faddr 0 (.tmp 32)) 31 true 0,
   .g 34 (.load1 (.tmp 33)) 31 true 0,
   .g 35 (.faddr 3 (.tmp 3)) 31 true 0,
   .g 36 (.faddr 0 (.tmp 35)) 31 true 0,
   .g 37 (.load1 (.tmp 36)) 31 true 0,
   .g 38 (.eql (.b .int) false (.tmp 34) (.tmp 37)) 31 true 0,
   .o 39 (.pick (.tmp 31) (.tmp 38) (.const (.bool false))),
   .o 40 (.mv (.tmp 39)),
   .g 41 (.faddr 3 (.tmp 2)) 40 true 0,
   .g 42 (.faddr 1 (.tmp 41)) 40 true 0,
   .g 43 (.load1 (.tmp 42)) 40 true 0,
   .g 44 (.faddr 3 (.tmp 3)) 40 true 0,
   .g 45 (.faddr 1 (.tmp 44)) 40 true 0,
   .g 46 (.load1 (.tmp 45)) 40 true 0,
   .g 47 (.eql (.b .int) false (.tmp 43) (.tmp 46)) 40 true 0,
   .o 48 (.pick (.tmp 40) (.tmp 47) (.const (.bool false))),
   .o 49 (.mv (.tmp 48)),
   .g 50 (.faddr 3 (.tmp 2)) 49 true 0,
   .g 51 (.faddr 3 (.tmp 50)) 49 true 0,
   .g 52 (.load1 (.tmp 51)) 49 true 0,
   .g 53 (.faddr 3 (.tmp 3)) 49 true 0,
   .g 54 (.faddr 3 (.tmp 53)) 49 true 0,
   .g 55 (.load1 (.tmp 54)) 49 true 0,
   .g 56 (.eql (.b .bool) false (.tmp 52) (.tmp 55)) 49 true 0,
   .o 57 (.pick (.tmp 49) (.tmp 56) (.const (.bool false))),
   .o 58 (.mv (.tmp 57)),
   .g 59 (.faddr 3 (.tmp 2)) 58 true 0,
   .g 60 (.faddr 2 (.tmp 59)) 58 true 0,
   .g 61 (.load1 (.tmp 60)) 58 true 0,
   .g 62 (.faddr 3 (.tmp 3)) 58 true 0,
   .g 63 (.faddr 2 (.tmp 62)) 58 true 0,
   .g 64 (.load1 (.tmp 63)) 58 true 0,
   ⟨(some 65), .call (.const (.fn 28 [])) [(.tmp 61), (.tmp 64)], (some (58, true)), 0, true, false, none⟩,
   .o 66 (.pick (.tmp 58) (.tmp 65) (.const (.bool false))),
   .o 4 (.mv (.tmp 66))])
 .ret))
theorem x_sameRule : tblX Tryz.prog X0 11 = some (.fn ⟨67, [(4, none)], s_sameRule.den⟩) := by kernel_rfl
def s_sameProtocol : SC := (.seq (.reg [
   .o 2 (.box (.tmp 0)),
   .o 3 (.box (.tmp 1)),
   .o 4 (.mv (.const (.bool false)))])
 (.seq (.reg [
   .o 5 (.faddr 0 (.tmp 2)),
   .o 6 (.load1 (.tmp 5)),
   .o 7 (.faddr 0 (.tmp 3)),
   .o 8 (.load1 (.tmp 7)),
   .o 9 (.eql (.b .str) false (.tmp 6) (.tmp 8)),
   .o 10 (.mv (.tmp 9)),
   .g 11 (.faddr 2 (.tmp 2)) 10 true 0,
   .g 12 (.load1 (.tmp 11)) 10 true 0,
   .g 13 (.faddr 2 (.tmp 3)) 10 true 0,
   .g 14 (.load1 (.tmp 13)) 10 true 0,
   .g 15 (.eql (.b .int) false (.tmp 12) (.tmp 14)) 10 true 0,
   .o 16 (.pick (.tmp 10) (.tmp 15) (.const (.bool false))),
   .o 17 (.mv (.tmp 16)),
   .g 18 (.faddr 3 (.tmp 2)) 17 true 0,
   .g 19 (.load1 (.tmp 18)) 17 true 0,
   .g 20 (.faddr 3 (.tmp 3)) 17 true 0,
   .g 21 (.load1 (.tmp 20)) 17 true 0,
   .g 22 (.eql (.b .int) false (.tmp 19) (.tmp 21)) 17 true 0,
   .o 23 (.pick (.tmp 17) (.tmp 22) (.const (.bool false))),
   .o 24 (.mv (.tmp 23)),
   .g 25 (.faddr 1 (.tmp 2)) 24 true 0,
   .g 26 (.load1 (.tmp 25)) 24 true 0,
   .g 27 (.faddr 1 (.tmp 3)) 24 true 0,
   .g 28 (.load1 (.tmp 27)) 24 true 0,
   ⟨(some 29), .call (.const (.fn 28 [])) [(.tmp 26), (.tmp 28)], (some (24, true)), 0, true, false, none⟩,
   .o 30 (.pick (.tmp 24) (.tmp 29) (.const (.bool false))),
   .o 31 (.mv (.tmp 30)),
   .g 32 (.faddr 4 (.tmp 2)) 31 true 0,
   .g 33 (.load1 (.tmp 32)) 31 true 0,
   .g 34 (.faddr 4 (.tmp 3)) 31 true 0,
   .g 35 (.load1 (.tmp 34)) 31 true 0,
   ⟨(some 36), .call (.const (.fn 29 [])) [(.tmp 33), (.tmp 35)], (some (31, true)), 0, true, false, none⟩,
   .o 37 (.pick (.tmp 31) (.tmp 36) (.const (.bool false))),
   .o 4 (.mv (.tmp 37))])
 .ret))
theorem x_sameProtocol : tblX Tryz.prog X0 13 = some (.fn ⟨38, [(4, none)], s_sameProtocol.den⟩) := by kernel_rfl
def s_sameMemo : SC := (.seq (.reg [
   .o 2 (.box (.tmp 0)),
   .o 3 (.box (.tmp 1)),
   .o 4 (.mv (.const (.bool false)))])
 (.seq (.reg [
   .o 5 (.faddr 0 (.tmp 2)),
   .o 6 (.loadN 2 (.tmp 5)),
   .o 7 (.faddr 0 (.tmp 3)),
   .o 8 (.loadN 2 (.tmp 7)),
   .o 9 (.eql (.st [.str, .str]) false (.tmp 6) (.tmp 8)),
   .o 10 (.mv (.tmp 9)),
   .g 11 (.faddr 2 (.tmp 2)) 10 true 0,
   .g 12 (.load1 (.tmp 11)) 10 true 0,
   .g 13 (.faddr 2 (.tmp 3)) 10 true 0,
   .g 14 (.load1 (.tmp 13)) 10 true 0,
   .g 15 (.eql (.b .str) false (.tmp 12) (.tmp 14)) 10 true 0,
   .o 16 (.pick (.tmp 10) (.tmp 15) (.const (.bool false))),
   .o 17 (.mv (.tmp 16)),
   .g 18 (.faddr 3 (.tmp 2)) 17 true 0,
   .g 19 (.load1 (.tmp 18)) 17 true 0,
   .g 20 (.faddr 3 (.tmp 3)) 17 true 0,
   .g 21 (.load1 (.tmp 20)) 17 true 0,
   ⟨(some 22), .call (.const (.fn 30 [])) [(.tmp 19), (.tmp 21)], (some (17, true)), 0, true, false, none⟩,
   .o 23 (.pick (.tmp 17) (.tmp 22) (.const (.bool false))),
   .o 24 (.mv (.tmp 23)),
   .g 25 (.faddr 4 (.tmp 2)) 24 true 0,
   .g 26 (.load1 (.tmp 25)) 24 true 0,
   .g 27 (.faddr 4 (.tmp 3)) 24 true 0,
   .g 28 (.load1 (.tmp 27)) 24 true 0,
   ⟨(some 29), .call (.const (.fn 30 [])) [(.tmp 26), (.tmp 28)], (some (24, true)), 0, true, false, none⟩,
   .o 30 (.pick (.tmp 24) (.tmp 29) (.const (.bool false))),
   .o 4 (.mv (.tmp 30))])
 .ret))
theorem x_sameMemo : tblX Tryz.prog X0 15 = some (.fn ⟨31, [(4, none)], s_sameMemo.den⟩) := by kernel_rfl
def s_R13Same : SC := (.seq (.reg [
   .o 2 (.box (.tmp 0)),
   .o 3 (.box (.tmp 1)),
   .o 4 (.mv (.const (.bool false)))])
 (.seq (.reg [
   .o 5 (.loadN 3 (.tmp 2)),
   .o 6 (.loadN 3 (.tmp 3)),
   ⟨(some 7), .call (.const (.fn 31 [])) [(.tmp 5), (.tmp 6)], none, 0, true, false, none⟩,
   .o 4 (.mv (.tmp 7))])
 .ret))
theorem x_R13Same : tblX Tryz.prog X0 16 = some (.fn ⟨8, [(4, none)], s_R13Same.den⟩) := by kernel_rfl
def s_policies : SC := (.seq (.reg [
   .o 2 (.box (.tmp 0)),
   .o 3 (.box (.tmp 1)),
   .o 4 (.mv (.const (.bool false)))])
 (.seq (.seq (.reg [
   .o 9 (.faddr 0 (.tmp 2)),
   .o 10 (.load1 (.tmp 9)),
   .o 11 (.lenL (.tmp 10)),
   .o 12 (.faddr 0 (.tmp 3)),
   .o 13 (.load1 (.tmp 12)),
   .o 14 (.lenL (.tmp 13)),
   .o 15 (.eql (.b .int) true (.tmp 11) (.tmp 14)),
   .o 16 (.mv (.tmp 15)),
   .g 17 (.faddr 1 (.tmp 2)) 16 false 0,
   .g 18 (.load1 (.tmp 17)) 16 false 0,
   .g 19 (.lenL (.tmp 18)) 16 false 0,
   .g 20 (.faddr 1 (.tmp 3)) 16 false 0,
   .g 21 (.load1 (.tmp 20)) 16 false 0,
   .g 22 (.lenL (.tmp 21)) 16 false 0,
   .g 23 (.eql (.b .int) true (.tmp 19) (.tmp 22)) 16 false 0,
   .o 24 (.pick (.tmp 16) (.const (.bool true)) (.tmp 23))])
 (.cond (.tmp 24)
  (.seq (.reg [
     .o 4 (.mv (.const (.bool false)))])
   .ret)
  .skip))
 (.seq (.seq (.reg [
   .o 5 (.mv (.const (.int .i64 0)))])
 (.block 0
  (.loop
   (.seq (.seq (.reg [
     .o 25 (.mv (.tmp 5)),
     .o 26 (.faddr 0 (.tmp 2)),
     .o 27 (.load1 (.tmp 26)),
     .o 28 (.lenL (.tmp 27)),
     .o 29 (.ints .lss (.tmp 25) (.tmp 28))])
   (.cond (.tmp 29)
    .skip
    (.exit 0)))
   (.seq (.block 1
    (.seq (.reg [
      .o 32 (.faddr 0 (.tmp 2)),
      .o 33 (.load1 (.tmp 32)),
      .o 34 (.mv (.tmp 5)),
      .o 35 (.iaddr 8 (.tmp 33) (.tmp 34)),
      .o 36 (.loadN 8 (.tmp 35)),
      .o 6 (.box (.const (.agg [(.int .i64 0), (.str []), (.str []), (.int .i64 0), (.int .i64 0), .nils, (.bool false), (.str [])]))),
      ⟨none, .store 8 (.tmp 6) (.tmp 36), none, 0, true, false, none⟩])
    (.seq (.reg [
      .o 37 (.faddr 0 (.tmp 3)),
      .o 38 (.load1 (.tmp 37)),
      .o 39 (.mv (.tmp 5)),
      .o 40 (.iaddr 8 (.tmp 38) (.tmp 39)),
      .o 41 (.loadN 8 (.tmp 40)),
      .o 7 (.box (.const (.agg [(.int .i64 0), (.str []), (.str []), (.int .i64 0), (.int .i64 0), .nils, (.bool false), (.str [])]))),
      ⟨none, .store 8 (.tmp 7) (.tmp 41), none, 0, true, false, none⟩])
    (.seq (.reg [
      .o 42 (.faddr 0 (.tmp 6)),
      .o 43 (.load1 (.tmp 42)),
      .o 44 (.faddr 0 (.tmp 7)),
      .o 45 (.load1 (.tmp 44)),
      .o 46 (.eql (.b .int) true (.tmp 43) (.tmp 45)),
      .o 47 (.mv (.tmp 46)),
      .g 48 (.faddr 1 (.tmp 6)) 47 false 0,
      .g 49 (.load1 (.tmp 48)) 47 false 0,
      .g 50 (.faddr 1 (.tmp 7)) 47 false 0,
      .g 51 (.load1 (.tmp 50)) 47 false 0,
      .g 52 (.eql (.b .str) true (.tmp 49) (.tmp 51)) 47 false 0,
      .o 53 (.pick (.tmp 47) (.const (.bool true)) (.tmp 52)),
      .o 54 (.mv (.tmp 53)),
      .g 55 (.faddr 2 (.tmp 6)) 54 false 0,
      .g 56 (.load1 (.tmp 55)) 54 false 0,
      .g 57 (.faddr 2 (.tmp 7)) 54 false 0,
      .g 58 (.load1 (.tmp 57)) 54 false 0,
      .g 59 (.eql (.b .str) true (.tmp 56) (.tmp 58)) 54 false 0,
      .o 60 (.pick (.tmp 54) (.const (.bool true)) (.tmp 59)),
      .o 61 (.mv (.tmp 60)),
      .g 62 (.faddr 7 (.tmp 6)) 61 false 0,
      .g 63 (.load1 (.tmp 62)) 61 false 0,
      .g 64 (.faddr 7 (.tmp 7)) 61 false 0,
      .g 65 (.load1 (.tmp 64)) 61 false 0,
      .g 66 (.eql (.b .str) true (.tmp 63) (.tmp 65)) 61 false 0,
      .o 67 (.pick (.tmp 61) (.const (.bool true)) (.tmp 66)),
      .o 68 (.mv (.tmp 67)),
      .g 69 (.faddr 3 (.tmp 6)) 68 false 0,
      .g 70 (.loadN 4 (.tmp 69)) 68 false 0,
      .g 71 (.faddr 3 (.tmp 7)) 68 false 0,
      .g 72 (.loadN 4 (.tmp 71)) 68 false 0,
      ⟨(some 73), .call (.const (.fn 32 [])) [(.tmp 70), (.tmp 72)], (some (68, false)), 0, true, false, none⟩,
      .g 74 (.not (.tmp 73)) 68 false 0,
      .o 75 (.pick (.tmp 68) (.const (.bool true)) (.tmp 74))])
    (.cond (.tmp 75)
     (.seq (.reg [
        .o 4 (.mv (.const (.bool false)))])
      .ret)
     .skip)))))
   (.reg [
     .o 30 (.mv (.tmp 5)),
     .o 31 (.ints .add (.tmp 30) (.const (.int .i64 1))),
     .o 5 (.mv (.tmp 31))]))))))
 (.seq (.seq (.reg [
   .o 8 (.mv (.const (.int .i64 0)))])
 (.block 2
  (.loop
   (.seq (.seq (.reg [
     .o 76 (.mv (.tmp 8)),
     .o 77 (.faddr 1 (.tmp 2)),
     .o 78 (.load1 (.tmp 77)),
     .o 79 (.lenL (.tmp 78)),
     .o 80 (.ints .lss (.tmp 76) (.tmp 79))])
   (.cond (.tmp 80)
    .skip
    (.exit 2)))
   (.seq (.block 3
    (.seq (.dreg [
      .o 83 (.faddr 1 (.tmp 2)),
      ⟨(some 84), .load1 (.tmp 83), none, 1, false, false, (some (.tmp 83))⟩,
      .o 85 (.mv (.tmp 8)),
      .p 86 (.iaddr 5 (.tmp 84) (.tmp 85)) 7,
      ⟨(some 87), .loadN 5 (.tmp 86), none, 15, false, false, (some (.tmp 86))⟩,
      .o 88 (.faddr 1 (.tmp 3)),
      ⟨(some 89), .load1 (.tmp 88), none, 32, false, false, (some (.tmp 88))⟩,
      .o 90 (.mv (.tmp 8)),
      .p 91 (.iaddr 5 (.tmp 89) (.tmp 90)) 224,
      ⟨(some 92), .loadN 5 (.tmp 91), none, 480, false, false, (some (.tmp 91))⟩,
      ⟨(some 93), .call (.const (.fn 33 [])) [(.tmp 87), (.tmp 92)], none, 1023, true, true, none⟩,
      .p 94 (.not (.tmp 93)) 2047])
    (.cond (.tmp 94)
     (.seq (.reg [
        .o 4 (.mv (.const (.bool false)))])
      .ret)
     .skip)))
   (.reg [
     .o 81 (.mv (.tmp 8)),
     .o 82 (.ints .add (.tmp 81) (.const (.int .i64 1))),
     .o 8 (.mv (.tmp 82))]))))))
 (.seq (.reg [
   .o 4 (.mv (.const (.bool true)))])
 .ret)))))
theorem x_policies : tblX Tryz.prog X0 17 = some (.fn ⟨95, [(4, none)], s_policies.den⟩) := by kernel_rfl
def s_pairs : SC := (.seq (.reg [
   .o 4 (.mv (.const (.bool false)))])
 (.seq (.seq (.reg [
   .o 6 (.mv (.tmp 0)),
   .o 7 (.lenL (.tmp 6)),
   .o 8 (.mv (.tmp 1)),
   .o 9 (.lenL (.tmp 8)),
   .o 10 (.eql (.b .int) true (.tmp 7) (.tmp 9))])
 (.cond (.tmp 10)
  (.seq (.reg [
     .o 4 (.mv (.const (.bool false)))])
   .ret)
  .skip))
 (.seq (.seq (.reg [
   .o 5 (.mv (.const (.int .i64 0)))])
 (.block 0
  (.loop
   (.seq (.seq (.reg [
     .o 11 (.mv (.tmp 5)),
     .o 12 (.mv (.tmp 0)),
     .o 13 (.lenL (.tmp 12)),
     .o 14 (.ints .lss (.tmp 11) (.tmp 13))])
   (.cond (.tmp 14)
    .skip
    (.exit 0)))
   (.seq (.block 1
    (.seq (.dreg [
      .o 17 (.mv (.tmp 0)),
      .o 18 (.mv (.tmp 5)),
      .p 19 (.iaddr 2 (.tmp 17) (.tmp 18)) 3,
      ⟨(some 20), .loadN 2 (.tmp 19), none, 7, false, false, (some (.tmp 19))⟩,
      .o 21 (.mv (.tmp 1)),
      .o 22 (.mv (.tmp 5)),
      .p 23 (.iaddr 2 (.tmp 21) (.tmp 22)) 48,
      ⟨(some 24), .loadN 2 (.tmp 23), none, 112, false, false, (some (.tmp 23))⟩,
      .p 25 (.eql (.st [.str, .str]) true (.tmp 20) (.tmp 24)) 255])
    (.cond (.tmp 25)
     (.seq (.reg [
        .o 4 (.mv (.const (.bool false)))])
      .ret)
     .skip)))
   (.reg [
     .o 15 (.mv (.tmp 5)),
     .o 16 (.ints .add (.tmp 15) (.const (.int .i64 1))),
     .o 5 (.mv (.tmp 16))]))))))
 (.seq (.reg [
   .o 4 (.mv (.const (.bool true)))])
 .ret))))
theorem x_pairs : tblX Tryz.prog X0 18 = some (.fn ⟨26, [(4, none)], s_pairs.den⟩) := by kernel_rfl
def s_sameClass : SC := (.seq (.reg [
   .o 2 (.box (.tmp 0)),
   .o 3 (.box (.tmp 1)),
   .o 4 (.mv (.const (.bool false)))])
 (.seq (.reg [
   .o 5 (.faddr 0 (.tmp 2)),
   .o 6 (.load1 (.tmp 5)),
   .o 7 (.faddr 0 (.tmp 3)),
   .o 8 (.load1 (.tmp 7)),
   .o 9 (.eql (.b .str) false (.tmp 6) (.tmp 8)),
   .o 10 (.mv (.tmp 9)),
   .g 11 (.faddr 1 (.tmp 2)) 10 true 0,
   .g 12 (.load1 (.tmp 11)) 10 true 0,
   .g 13 (.faddr 1 (.tmp 3)) 10 true 0,
   .g 14 (.load1 (.tmp 13)) 10 true 0,
   .g 15 (.eql (.b .str) false (.tmp 12) (.tmp 14)) 10 true 0,
   .o 16 (.pick (.tmp 10) (.tmp 15) (.const (.bool false))),
   .o 17 (.mv (.tmp 16)),
   .g 18 (.faddr 2 (.tmp 2)) 17 true 0,
   .g 19 (.load1 (.tmp 18)) 17 true 0,
   .g 20 (.faddr 2 (.tmp 3)) 17 true 0,
   .g 21 (.load1 (.tmp 20)) 17 true 0,
   ⟨(some 22), .call (.const (.fn 38 [])) [(.tmp 19), (.tmp 21)], (some (17, true)), 0, true, false, none⟩,
   .o 23 (.pick (.tmp 17) (.tmp 22) (.const (.bool false))),
   .o 24 (.mv (.tmp 23)),
   .g 25 (.faddr 3 (.tmp 2)) 24 true 0,
   .g 26 (.load1 (.tmp 25)) 24 true 0,
   .g 27 (.faddr 3 (.tmp 3)) 24 true 0,
   .g 28 (.load1 (.tmp 27)) 24 true 0,
   ⟨(some 29), .call (.const (.fn 39 [])) [(.tmp 26), (.tmp 28), (.const (.fn 40 []))], (some (24, true)), 0, true, false, none⟩,
   .o 30 (.pick (.tmp 24) (.tmp 29) (.const (.bool false))),
   .o 4 (.mv (.tmp 30))])
 .ret))
theorem x_sameClass : tblX Tryz.prog X0 25 = some (.fn ⟨31, [(4, none)], s_sameClass.den⟩) := by kernel_rfl
def s_sameFunc : SC := (.seq (.reg [
   .o 2 (.box (.tmp 0)),
   .o 3 (.box (.tmp 1)),
   .o 4 (.mv (.const (.bool false)))])
 (.seq (.reg [
   .o 5 (.faddr 0 (.tmp 2)),
   .o 6 (.load1 (.tmp 5)),
   .o 7 (.faddr 0 (.tmp 3)),
   .o 8 (.load1 (.tmp 7)),
   .o 9 (.eql (.b .str) false (.tmp 6) (.tmp 8)),
   .o 10 (.mv (.tmp 9)),
   .g 11 (.faddr 1 (.tmp 2)) 10 true 0,
   .g 12 (.load1 (.tmp 11)) 10 true 0,
   .g 13 (.faddr 1 (.tmp 3)) 10 true 0,
   .g 14 (.load1 (.tmp 13)) 10 true 0,
   .g 15 (.eql (.b .str) false (.tmp 12) (.tmp 14)) 10 true 0,
   .o 16 (.pick (.tmp 10) (.tmp 15) (.const (.bool false))),
   .o 17 (.mv (.tmp 16)),
   .g 18 (.faddr 2 (.tmp 2)) 17 true 0,
   .g 19 (.load1 (.tmp 18)) 17 true 0,
   .g 20 (.faddr 2 (.tmp 3)) 17 true 0,
   .g 21 (.load1 (.tmp 20)) 17 true 0,
   .g 22 (.eql (.b .bool) false (.tmp 19) (.tmp 21)) 17 true 0,
   .o 23 (.pick (.tmp 17) (.tmp 22) (.const (.bool false))),
   .o 24 (.mv (.tmp 23)),
   .g 25 (.faddr 3 (.tmp 2)) 24 true 0,
   .g 26 (.load1 (.tmp 25)) 24 true 0,
   .g 27 (.faddr 3 (.tmp 3)) 24 true 0,
   .g 28 (.load1 (.tmp 27)) 24 true 0,
   .g 29 (.eql (.b .int) false (.tmp 26) (.tmp 28)) 24 true 0,
   .o 30 (.pick (.tmp 24) (.tmp 29) (.const (.bool false))),
   .o 31 (.mv (.tmp 30)),
   .g 32 (.faddr 4 (.tmp 2)) 31 true 0,
   .g 33 (.load1 (.tmp 32)) 31 true 0,
   .g 34 (.faddr 4 (.tmp 3)) 31 true 0,
   .g 35 (.load1 (.tmp 34)) 31 true 0,
   ⟨(some 36), .call (.const (.fn 38 [])) [(.tmp 33), (.tmp 35)], (some (31, true)), 0, true, false, none⟩,
   .o 37 (.pick (.tmp 31) (.tmp 36) (.const (.bool false))),
   .o 38 (.mv (.tmp 37)),
   .g 39 (.faddr 5 (.tmp 2)) 38 true 0,
   .g 40 (.load1 (.tmp 39)) 38 true 0,
   .g 41 (.faddr 5 (.tmp 3)) 38 true 0,
   .g 42 (.load1 (.tmp 41)) 38 true 0,
   .g 43 (.eql (.b .str) false (.tmp 40) (.tmp 42)) 38 true 0,
   .o 44 (.pick (.tmp 38) (.tmp 43) (.const (.bool false))),
   .o 45 (.mv (.tmp 44)),
   .g 46 (.faddr 6 (.tmp 2)) 45 true 0,
   .g 47 (.load1 (.tmp 46)) 45 true 0,
   .g 48 (.faddr 6 (.tmp 3)) 45 true 0,
   .g 49 (.load1 (.tmp 48)) 45 true 0,
   ⟨(some 50), .call (.const (.fn 41 [])) [(.tmp 47), (.tmp 49), (.const (.fn 42 []))], (some (45, true)), 0, true, false, none⟩,
   .o 51 (.pick (.tmp 45) (.tmp 50) (.const (.bool false))),
   .o 4 (.mv (.tmp 51))])
 .ret))
theorem x_sameFunc : tblX Tryz.prog X0 27 = some (.fn ⟨52, [(4, none)], s_sameFunc.den⟩) := by kernel_rfl
def s_R12Same : SC := (.seq (.reg [
   .o 2 (.box (.tmp 0)),
   .o 3 (.box (.tmp 1)),
   .o 4 (.mv (.const (.bool false)))])
 (.seq (.seq (.reg [
   .o 6 (.faddr 2 (.tmp 2)),
   .o 7 (.load1 (.tmp 6)),
   .o 8 (.faddr 2 (.tmp 3)),
   .o 9 (.load1 (.tmp 8)),
   .o 10 (.eql (.b .int) true (.tmp 7) (.tmp 9)),
   .o 11 (.mv (.tmp 10)),
   .g 12 (.faddr 1 (.tmp 2)) 11 false 0,
   .g 13 (.load1 (.tmp 12)) 11 false 0,
   .g 14 (.lenL (.tmp 13)) 11 false 0,
   .g 15 (.faddr 1 (.tmp 3)) 11 false 0,
   .g 16 (.load1 (.tmp 15)) 11 false 0,
   .g 17 (.lenL (.tmp 16)) 11 false 0,
   .g 18 (.eql (.b .int) true (.tmp 14) (.tmp 17)) 11 false 0,
   .o 19 (.pick (.tmp 11) (.const (.bool true)) (.tmp 18)),
   .o 20 (.mv (.tmp 19)),
   .g 21 (.faddr 0 (.tmp 2)) 20 false 0,
   .g 22 (.loadN 1 (.tmp 21)) 20 false 0,
   .g 23 (.faddr 0 (.tmp 3)) 20 false 0,
   .g 24 (.loadN 1 (.tmp 23)) 20 false 0,
   ⟨(some 25), .call (.const (.fn 43 [])) [(.tmp 22), (.tmp 24)], (some (20, false)), 0, true, false, none⟩,
   .g 26 (.not (.tmp 25)) 20 false 0,
   .o 27 (.pick (.tmp 20) (.const (.bool true)) (.tmp 26))])
 (.cond (.tmp 27)
  (.seq (.reg [
     .o 4 (.mv (.const (.bool false)))])
   .ret)
  .skip))
 (.seq (.seq (.reg [
   .o 5 (.mv (.const (.int .i64 0)))])
 (.block 0
  (.loop
   (.seq (.seq (.reg [
     .o 28 (.mv (.tmp 5)),
     .o 29 (.faddr 1 (.tmp 2)),
     .o 30 (.load1 (.tmp 29)),
     .o 31 (.lenL (.tmp 30)),
     .o 32 (.ints .lss (.tmp 28) (.tmp 31))])
   (.cond (.tmp 32)
    .skip
    (.exit 0)))
   (.seq (.block 1
    (.seq (.dreg [
      .o 35 (.faddr 1 (.tmp 2)),
      ⟨(some 36), .load1 (.tmp 35), none, 1, false, false, (some (.tmp 35))⟩,
      .o 37 (.mv (.tmp 5)),
      .p 38 (.iaddr 7 (.tmp 36) (.tmp 37)) 7,
      ⟨(some 39), .loadN 7 (.tmp 38), none, 15, false, false, (some (.tmp 38))⟩,
      .o 40 (.faddr 1 (.tmp 3)),
      ⟨(some 41), .load1 (.tmp 40), none, 32, false, false, (some (.tmp 40))⟩,
      .o 42 (.mv (.tmp 5)),
      .p 43 (.iaddr 7 (.tmp 41) (.tmp 42)) 224,
      ⟨(some 44), .loadN 7 (.tmp 43), none, 480, false, false, (some (.tmp 43))⟩,
      ⟨(some 45), .call (.const (.fn 44 [])) [(.tmp 39), (.tmp 44)], none, 1023, true, true, none⟩,
      .p 46 (.not (.tmp 45)) 2047])
    (.cond (.tmp 46)
     (.seq (.reg [
        .o 4 (.mv (.const (.bool false)))])
      .ret)
     .skip)))
   (.reg [
     .o 33 (.mv (.tmp 5)),
     .o 34 (.ints .add (.tmp 33) (.const (.int .i64 1))),
     .o 5 (.mv (.tmp 34))]))))))
 (.seq (.reg [
   .o 4 (.mv (.const (.bool true)))])
 .ret))))
theorem x_R12Same : tblX Tryz.prog X0 31 = some (.fn ⟨47, [(4, none)], s_R12Same.den⟩) := by kernel_rfl
def s_paths : SC := (.seq (.reg [
   .o 2 (.box (.tmp 0)),
   .o 3 (.box (.tmp 1)),
   .o 4 (.mv (.const (.bool false)))])
 (.seq (.seq (.reg [
   .o 6 (.faddr 0 (.tmp 2)),
   .o 7 (.load1 (.tmp 6)),
   .o 8 (.faddr 0 (.tmp 3)),
   .o 9 (.load1 (.tmp 8)),
   .o 10 (.eql (.b .int) true (.tmp 7) (.tmp 9)),
   .o 11 (.mv (.tmp 10)),
   .g 12 (.faddr 1 (.tmp 2)) 11 false 0,
   .g 13 (.load1 (.tmp 12)) 11 false 0,
   .g 14 (.faddr 1 (.tmp 3)) 11 false 0,
   .g 15 (.load1 (.tmp 14)) 11 false 0,
   .g 16 (.eql (.b .int) true (.tmp 13) (.tmp 15)) 11 false 0,
   .o 17 (.pick (.tmp 11) (.const (.bool true)) (.tmp 16)),
   .o 18 (.mv (.tmp 17)),
   .g 19 (.faddr 3 (.tmp 2)) 18 false 0,
   .g 20 (.load1 (.tmp 19)) 18 false 0,
   .g 21 (.faddr 3 (.tmp 3)) 18 false 0,
   .g 22 (.load1 (.tmp 21)) 18 false 0,
   .g 23 (.eql (.b .bool) true (.tmp 20) (.tmp 22)) 18 false 0,
   .o 24 (.pick (.tmp 18) (.const (.bool true)) (.tmp 23)),
   .o 25 (.mv (.tmp 24)),
   .g 26 (.faddr 2 (.tmp 2)) 25 false 0,
   .g 27 (.load1 (.tmp 26)) 25 false 0,
   .g 28 (.lenL (.tmp 27)) 25 false 0,
   .g 29 (.faddr 2 (.tmp 3)) 25 false 0,
   .g 30 (.load1 (.tmp 29)) 25 false 0,
   .g 31 (.lenL (.tmp 30)) 25 false 0,
   .g 32 (.eql (.b .int) true (.tmp 28) (.tmp 31)) 25 false 0,
   .o 33 (.pick (.tmp 25) (.const (.bool true)) (.tmp 32))])
 (.cond (.tmp 33)
  (.seq (.reg [
     .o 4 (.mv (.const (.bool false)))])
   .ret)
  .skip))
 (.seq (.seq (.reg [
   .o 5 (.mv (.const (.int .i64 0)))])
 (.block 0
  (.loop
   (.seq (.seq (.reg [
     .o 34 (.mv (.tmp 5)),
     .o 35 (.faddr 2 (.tmp 2)),
     .o 36 (.load1 (.tmp 35)),
     .o 37 (.lenL (.tmp 36)),
     .o 38 (.ints .lss (.tmp 34) (.tmp 37))])
   (.cond (.tmp 38)
    .skip
    (.exit 0)))
   (.seq (.block 1
    (.seq (.dreg [
      .o 41 (.faddr 2 (.tmp 2)),
      ⟨(some 42), .load1 (.tmp 41), none, 1, false, false, (some (.tmp 41))⟩,
      .o 43 (.mv (.tmp 5)),
      .p 44 (.iaddr 1 (.tmp 42) (.tmp 43)) 7,
      ⟨(some 45), .load1 (.tmp 44), none, 15, false, false, (some (.tmp 44))⟩,
      .o 46 (.faddr 2 (.tmp 3)),
      ⟨(some 47), .load1 (.tmp 46), none, 32, false, false, (some (.tmp 46))⟩,
      .o 48 (.mv (.tmp 5)),
      .p 49 (.iaddr 1 (.tmp 47) (.tmp 48)) 224,
      ⟨(some 50), .load1 (.tmp 49), none, 480, false, false, (some (.tmp 49))⟩,
      .p 51 (.eql (.b .str) true (.tmp 45) (.tmp 50)) 1023])
    (.cond (.tmp 51)
     (.seq (.reg [
        .o 4 (.mv (.const (.bool false)))])
      .ret)
     .skip)))
   (.reg [
     .o 39 (.mv (.tmp 5)),
     .o 40 (.ints .add (.tmp 39) (.const (.int .i64 1))),
     .o 5 (.mv (.tmp 40))]))))))
 (.seq (.reg [
   .o 4 (.mv (.const (.bool true)))])
 .ret))))
theorem x_paths : tblX Tryz.prog X0 32 = some (.fn ⟨52, [(4, none)], s_paths.den⟩) := by kernel_rfl
def s_protocols : SC := (.seq (.reg [
   .o 2 (.box (.tmp 0)),
   .o 3 (.box (.tmp 1)),
   .o 4 (.mv (.const (.bool false)))])
 (.seq (.seq (.reg [
   .o 7 (.faddr 0 (.tmp 2)),
   .o 8 (.load1 (.tmp 7)),
   .o 9 (.faddr 0 (.tmp 3)),
   .o 10 (.load1 (.tmp 9)),
   .o 11 (.eql (.b .str) true (.tmp 8) (.tmp 10)),
   .o 12 (.mv (.tmp 11)),
   .g 13 (.faddr 2 (.tmp 2)) 12 false 0,
   .g 14 (.load1 (.tmp 13)) 12 false 0,
   .g 15 (.faddr 2 (.tmp 3)) 12 false 0,
   .g 16 (.load1 (.tmp 15)) 12 false 0,
   .g 17 (.eql (.b .int) true (.tmp 14) (.tmp 16)) 12 false 0,
   .o 18 (.pick (.tmp 12) (.const (.bool true)) (.tmp 17)),
   .o 19 (.mv (.tmp 18)),
   .g 20 (.faddr 3 (.tmp 2)) 19 false 0,
   .g 21 (.load1 (.tmp 20)) 19 false 0,
   .g 22 (.faddr 3 (.tmp 3)) 19 false 0,
   .g 23 (.load1 (.tmp 22)) 19 false 0,
   .g 24 (.eql (.b .int) true (.tmp 21) (.tmp 23)) 19 false 0,
   .o 25 (.pick (.tmp 19) (.const (.bool true)) (.tmp 24)),
   .o 26 (.mv (.tmp 25)),
   .g 27 (.faddr 1 (.tmp 2)) 26 false 0,
   .g 28 (.load1 (.tmp 27)) 26 false 0,
   .g 29 (.lenL (.tmp 28)) 26 false 0,
   .g 30 (.faddr 1 (.tmp 3)) 26 false 0,
   .g 31 (.load1 (.tmp 30)) 26 false 0,
   .g 32 (.lenL (.tmp 31)) 26 false 0,
   .g 33 (.eql (.b .int) true (.tmp 29) (.tmp 32)) 26 false 0,
   .o 34 (.pick (.tmp 26) (.const (.bool true)) (.tmp 33)),
   .o 35 (.mv (.tmp 34)),
   .g 36 (.faddr 4 (.tmp 2)) 35 false 0,
   .g 37 (.load1 (.tmp 36)) 35 false 0,
   .g 38 (.lenL (.tmp 37)) 35 false 0,
   .g 39 (.faddr 4 (.tmp 3)) 35 false 0,
   .g 40 (.load1 (.tmp 39)) 35 false 0,
   .g 41 (.lenL (.tmp 40)) 35 false 0,
   .g 42 (.eql (.b .int) true (.tmp 38) (.tmp 41)) 35 false 0,
   .o 43 (.pick (.tmp 35) (.const (.bool true)) (.tmp 42))])
 (.cond (.tmp 43)
  (.seq (.reg [
     .o 4 (.mv (.const (.bool false)))])
   .ret)
  .skip))
 (.seq (.seq (.reg [
   .o 5 (.mv (.const (.int .i64 0)))])
 (.block 0
  (.loop
   (.seq (.seq (.reg [
     .o 44 (.mv (.tmp 5)),
     .o 45 (.faddr 1 (.tmp 2)),
     .o 46 (.load1 (.tmp 45)),
     .o 47 (.lenL (.tmp 46)),
     .o 48 (.ints .lss (.tmp 44) (.tmp 47))])
   (.cond (.tmp 48)
    .skip
    (.exit 0)))
   (.seq (.block 1
    (.seq (.dreg [
      .o 51 (.faddr 1 (.tmp 2)),
      ⟨(some 52), .load1 (.tmp 51), none, 1, false, false, (some (.tmp 51))⟩,
      .o 53 (.mv (.tmp 5)),
      .p 54 (.iaddr 1 (.tmp 52) (.tmp 53)) 7,
      ⟨(some 55), .load1 (.tmp 54), none, 15, false, false, (some (.tmp 54))⟩,
      .o 56 (.faddr 1 (.tmp 3)),
      ⟨(some 57), .load1 (.tmp 56), none, 32, false, false, (some (.tmp 56))⟩,
      .o 58 (.mv (.tmp 5)),
      .p 59 (.iaddr 1 (.tmp 57) (.tmp 58)) 224,
      ⟨(some 60), .load1 (.tmp 59), none, 480, false, false, (some (.tmp 59))⟩,
      .p 61 (.eql (.b .str) true (.tmp 55) (.tmp 60)) 1023])
    (.cond (.tmp 61)
     (.seq (.reg [
        .o 4 (.mv (.const (.bool false)))])
      .ret)
     .skip)))
   (.reg [
     .o 49 (.mv (.tmp 5)),
     .o 50 (.ints .add (.tmp 49) (.const (.int .i64 1))),
     .o 5 (.mv (.tmp 50))]))))))
 (.seq (.seq (.reg [
   .o 6 (.mv (.const (.int .i64 0)))])
 (.block 2
  (.loop
   (.seq (.seq (.reg [
     .o 62 (.mv (.tmp 6)),
     .o 63 (.faddr 4 (.tmp 2)),
     .o 64 (.load1 (.tmp 63)),
     .o 65 (.lenL (.tmp 64)),
     .o 66 (.ints .lss (.tmp 62) (.tmp 65))])
   (.cond (.tmp 66)
    .skip
    (.exit 2)))
   (.seq (.block 3
    (.seq (.dreg [
      .o 69 (.faddr 4 (.tmp 2)),
      ⟨(some 70), .load1 (.tmp 69), none, 1, false, false, (some (.tmp 69))⟩,
      .o 71 (.mv (.tmp 6)),
      .p 72 (.iaddr 3 (.tmp 70) (.tmp 71)) 7,
      ⟨(some 73), .loadN 3 (.tmp 72), none, 15, false, false, (some (.tmp 72))⟩,
      .o 74 (.faddr 4 (.tmp 3)),
      ⟨(some 75), .load1 (.tmp 74), none, 32, false, false, (some (.tmp 74))⟩,
      .o 76 (.mv (.tmp 6)),
      .p 77 (.iaddr 3 (.tmp 75) (.tmp 76)) 224,
      ⟨(some 78), .loadN 3 (.tmp 77), none, 480, false, false, (some (.tmp 77))⟩,
      .p 79 (.eql (.st [.int, .str, .int]) true (.tmp 73) (.tmp 78)) 1023])
    (.cond (.tmp 79)
     (.seq (.reg [
        .o 4 (.mv (.const (.bool false)))])
      .ret)
     .skip)))
   (.reg [
     .o 67 (.mv (.tmp 6)),
     .o 68 (.ints .add (.tmp 67) (.const (.int .i64 1))),
     .o 6 (.mv (.tmp 68))]))))))
 (.seq (.reg [
   .o 4 (.mv (.const (.bool true)))])
 .ret)))))
theorem x_protocols : tblX Tryz.prog X0 33 = some (.fn ⟨80, [(4, none)], s_protocols.den⟩) := by kernel_rfl
def s_sameSig : SC := (.seq (.reg [
   .o 2 (.box (.tmp 0)),
   .o 3 (.box (.tmp 1)),
   .o 4 (.mv (.const (.bool false)))])
 (.seq (.reg [
   .o 5 (.faddr 0 (.tmp 2)),
   .o 6 (.load1 (.tmp 5)),
   .o 7 (.faddr 0 (.tmp 3)),
   .o 8 (.load1 (.tmp 7)),
   .o 9 (.eql (.b .str) false (.tmp 6) (.tmp 8)),
   .o 10 (.mv (.tmp 9)),
   .g 11 (.faddr 1 (.tmp 2)) 10 true 0,
   .g 12 (.load1 (.tmp 11)) 10 true 0,
   .g 13 (.faddr 1 (.tmp 3)) 10 true 0,
   .g 14 (.load1 (.tmp 13)) 10 true 0,
   .g 15 (.eql (.b .bool) false (.tmp 12) (.tmp 14)) 10 true 0,
   .o 16 (.pick (.tmp 10) (.tmp 15) (.const (.bool false))),
   .o 17 (.mv (.tmp 16)),
   .g 18 (.faddr 3 (.tmp 2)) 17 true 0,
   .g 19 (.load1 (.tmp 18)) 17 true 0,
   .g 20 (.faddr 3 (.tmp 3)) 17 true 0,
   .g 21 (.load1 (.tmp 20)) 17 true 0,
   .g 22 (.eql (.b .str) false (.tmp 19) (.tmp 21)) 17 true 0,
   .o 23 (.pick (.tmp 17) (.tmp 22) (.const (.bool false))),
   .o 24 (.mv (.tmp 23)),
   .g 25 (.faddr 2 (.tmp 2)) 24 true 0,
   .g 26 (.load1 (.tmp 25)) 24 true 0,
   .g 27 (.faddr 2 (.tmp 3)) 24 true 0,
   .g 28 (.load1 (.tmp 27)) 24 true 0,
   ⟨(some 29), .call (.const (.fn 28 [])) [(.tmp 26), (.tmp 28)], (some (24, true)), 0, true, false, none⟩,
   .o 30 (.pick (.tmp 24) (.tmp 29) (.const (.bool false))),
   .o 4 (.mv (.tmp 30))])
 .ret))
theorem x_sameSig : tblX Tryz.prog X0 40 = some (.fn ⟨31, [(4, none)], s_sameSig.den⟩) := by kernel_rfl
def s_sameInstr : SC := (.seq (.reg [
   .o 2 (.box (.tmp 0)),
   .o 3 (.box (.tmp 1)),
   .o 4 (.mv (.const (.bool false)))])
 (.seq (.reg [
   .o 5 (.faddr 0 (.tmp 2)),
   .o 6 (.load1 (.tmp 5)),
   .o 7 (.faddr 0 (.tmp 3)),
   .o 8 (.load1 (.tmp 7)),
   .o 9 (.eql (.b .int) false (.tmp 6) (.tmp 8)),
   .o 10 (.mv (.tmp 9)),
   .g 11 (.faddr 1 (.tmp 2)) 10 true 0,
   .g 12 (.load1 (.tmp 11)) 10 true 0,
   .g 13 (.faddr 1 (.tmp 3)) 10 true 0,
   .g 14 (.load1 (.tmp 13)) 10 true 0,
   .g 15 (.eql (.b .int) false (.tmp 12) (.tmp 14)) 10 true 0,
   .o 16 (.pick (.tmp 10) (.tmp 15) (.const (.bool false))),
   .o 17 (.mv (.tmp 16)),
   .g 18 (.faddr 2 (.tmp 2)) 17 true 0,
   .g 19 (.load1 (.tmp 18)) 17 true 0,
   .g 20 (.faddr 2 (.tmp 3)) 17 true 0,
   .g 21 (.load1 (.tmp 20)) 17 true 0,
   .g 22 (.eql (.b .int) false (.tmp 19) (.tmp 21)) 17 true 0,
   .o 23 (.pick (.tmp 17) (.tmp 22) (.const (.bool false))),
   .o 24 (.mv (.tmp 23)),
   .g 25 (.faddr 3 (.tmp 2)) 24 true 0,
   .g 26 (.load1 (.tmp 25)) 24 true 0,
   .g 27 (.faddr 3 (.tmp 3)) 24 true 0,
   .g 28 (.load1 (.tmp 27)) 24 true 0,
   .g 29 (.eql (.b .int) false (.tmp 26) (.tmp 28)) 24 true 0,
   .o 30 (.pick (.tmp 24) (.tmp 29) (.const (.bool false))),
   .o 31 (.mv (.tmp 30)),
   .g 32 (.faddr 4 (.tmp 2)) 31 true 0,
   .g 33 (.load1 (.tmp 32)) 31 true 0,
   .g 34 (.faddr 4 (.tmp 3)) 31 true 0,
   .g 35 (.load1 (.tmp 34)) 31 true 0,
   .g 36 (.eql (.b .int) false (.tmp 33) (.tmp 35)) 31 true 0,
   .o 37 (.pick (.tmp 31) (.tmp 36) (.const (.bool false))),
   .o 38 (.mv (.tmp 37)),
   .g 39 (.faddr 5 (.tmp 2)) 38 true 0,
   .g 40 (.load1 (.tmp 39)) 38 true 0,
   .g 41 (.faddr 5 (.tmp 3)) 38 true 0,
   .g 42 (.load1 (.tmp 41)) 38 true 0,
   .g 43 (.eql (.b .str) false (.tmp 40) (.tmp 42)) 38 true 0,
   .o 44 (.pick (.tmp 38) (.tmp 43) (.const (.bool false))),
   .o 45 (.mv (.tmp 44)),
   .g 46 (.faddr 6 (.tmp 2)) 45 true 0,
   .g 47 (.load1 (.tmp 46)) 45 true 0,
   .g 48 (.faddr 6 (.tmp 3)) 45 true 0,
   .g 49 (.load1 (.tmp 48)) 45 true 0,
   .g 50 (.eql (.b .str) false (.tmp 47) (.tmp 49)) 45 true 0,
   .o 51 (.pick (.tmp 45) (.tmp 50) (.const (.bool false))),
   .o 52 (.mv (.tmp 51)),
   .g 53 (.faddr 7 (.tmp 2)) 52 true 0,
   .g 54 (.load1 (.tmp 53)) 52 true 0,
   .g 55 (.faddr 7 (.tmp 3)) 52 true 0,
   .g 56 (.load1 (.tmp 55)) 52 true 0,
   ⟨(some 57), .call (.const (.fn 76 [])) [(.tmp 54), (.tmp 56)], (some (52, true)), 0, true, false, none⟩,
   .o 58 (.pick (.tmp 52) (.tmp 57) (.const (.bool false))),
   .o 59 (.mv (.tmp 58)),
   .g 60 (.faddr 8 (.tmp 2)) 59 true 0,
   .g 61 (.load1 (.tmp 60)) 59 true 0,
   .g 62 (.faddr 8 (.tmp 3)) 59 true 0,
   .g 63 (.load1 (.tmp 62)) 59 true 0,
   .g 64 (.eql (.b .int) false (.tmp 61) (.tmp 63)) 59 true 0,
   .o 65 (.pick (.tmp 59) (.tmp 64) (.const (.bool false))),
   .o 66 (.mv (.tmp 65)),
   .g 67 (.faddr 9 (.tmp 2)) 66 true 0,
   .g 68 (.load1 (.tmp 67)) 66 true 0,
   .g 69 (.faddr 9 (.tmp 3)) 66 true 0,
   .g 70 (.load1 (.tmp 69)) 66 true 0,
   .g 71 (.eql (.b .int) false (.tmp 68) (.tmp 70)) 66 true 0,
   .o 72 (.pick (.tmp 66) (.tmp 71) (.const (.bool false))),
   .o 4 (.mv (.tmp 72))])
 .ret))
theorem x_sameInstr : tblX Tryz.prog X0 42 = some (.fn ⟨73, [(4, none)], s_sameInstr.den⟩) := by kernel_rfl
def s_R10Same : SC := (.seq (.reg [
   .o 2 (.box (.tmp 0)),
   .o 3 (.box (.tmp 1)),
   .o 4 (.mv (.const (.bool false)))])
 (.seq (.seq (.reg [
   .o 10 (.faddr 0 (.tmp 2)),
   .o 11 (.load1 (.tmp 10)),
   .o 12 (.lenL (.tmp 11)),
   .o 13 (.faddr 0 (.tmp 3)),
   .o 14 (.load1 (.tmp 13)),
   .o 15 (.lenL (.tmp 14)),
   .o 16 (.eql (.b .int) true (.tmp 12) (.tmp 15))])
 (.cond (.tmp 16)
  (.seq (.reg [
     .o 4 (.mv (.const (.bool false)))])
   .ret)
  .skip))
 (.seq (.seq (.reg [
   .o 5 (.mv (.const (.int .i64 0)))])
 (.block 0
  (.loop
   (.seq (.seq (.reg [
     .o 17 (.mv (.tmp 5)),
     .o 18 (.faddr 0 (.tmp 2)),
     .o 19 (.load1 (.tmp 18)),
     .o 20 (.lenL (.tmp 19)),
     .o 21 (.ints .lss (.tmp 17) (.tmp 20))])
   (.cond (.tmp 21)
    .skip
    (.exit 0)))
   (.seq (.block 1
    (.seq (.dreg [
      .o 24 (.faddr 0 (.tmp 2)),
      ⟨(some 25), .load1 (.tmp 24), none, 1, false, false, (some (.tmp 24))⟩,
      .o 26 (.mv (.tmp 5)),
      .p 27 (.iaddr 4 (.tmp 25) (.tmp 26)) 7,
      ⟨(some 28), .loadN 4 (.tmp 27), none, 15, false, false, (some (.tmp 27))⟩,
      .o 29 (.faddr 0 (.tmp 3)),
      ⟨(some 30), .load1 (.tmp 29), none, 32, false, false, (some (.tmp 29))⟩,
      .o 31 (.mv (.tmp 5)),
      .p 32 (.iaddr 4 (.tmp 30) (.tmp 31)) 224,
      ⟨(some 33), .loadN 4 (.tmp 32), none, 480, false, false, (some (.tmp 32))⟩,
      .o 6 (.box (.const (.agg [(.str []), (.str []), .nils, .nils]))),
      .o 7 (.box (.const (.agg [(.str []), (.str []), .nils, .nils]))),
      ⟨none, .store 4 (.tmp 6) (.tmp 28), none, 3103, true, true, none⟩,
      ⟨none, .store 4 (.tmp 7) (.tmp 33), none, 8191, true, true, none⟩])
    (.seq (.seq (.reg [
      .o 34 (.faddr 0 (.tmp 6)),
      .o 35 (.load1 (.tmp 34)),
      .o 36 (.faddr 0 (.tmp 7)),
      .o 37 (.load1 (.tmp 36)),
      .o 38 (.eql (.b .str) true (.tmp 35) (.tmp 37)),
      .o 39 (.mv (.tmp 38)),
      .g 40 (.faddr 1 (.tmp 6)) 39 false 0,
      .g 41 (.load1 (.tmp 40)) 39 false 0,
      .g 42 (.faddr 1 (.tmp 7)) 39 false 0,
      .g 43 (.load1 (.tmp 42)) 39 false 0,
      .g 44 (.eql (.b .str) true (.tmp 41) (.tmp 43)) 39 false 0,
      .o 45 (.pick (.tmp 39) (.const (.bool true)) (.tmp 44)),
      .o 46 (.mv (.tmp 45)),
      .g 47 (.faddr 2 (.tmp 6)) 46 false 0,
      .g 48 (.load1 (.tmp 47)) 46 false 0,
      .g 49 (.lenL (.tmp 48)) 46 false 0,
      .g 50 (.faddr 2 (.tmp 7)) 46 false 0,
      .g 51 (.load1 (.tmp 50)) 46 false 0,
      .g 52 (.lenL (.tmp 51)) 46 false 0,
      .g 53 (.eql (.b .int) true (.tmp 49) (.tmp 52)) 46 false 0,
      .o 54 (.pick (.tmp 46) (.const (.bool true)) (.tmp 53)),
      .o 55 (.mv (.tmp 54)),
      .g 56 (.faddr 3 (.tmp 6)) 55 false 0,
      .g 57 (.load1 (.tmp 56)) 55 false 0,
      .g 58 (.lenL (.tmp 57)) 55 false 0,
      .g 59 (.faddr 3 (.tmp 7)) 55 false 0,
      .g 60 (.load1 (.tmp 59)) 55 false 0,
      .g 61 (.lenL (.tmp 60)) 55 false 0,
      .g 62 (.eql (.b .int) true (.tmp 58) (.tmp 61)) 55 false 0,
      .o 63 (.pick (.tmp 55) (.const (.bool true)) (.tmp 62))])
    (.cond (.tmp 63)
     (.seq (.reg [
        .o 4 (.mv (.const (.bool false)))])
      .ret)
     .skip))
    (.seq (.seq (.reg [
      .o 8 (.mv (.const (.int .i64 0)))])
    (.block 2
     (.loop
      (.seq (.seq (.reg [
        .o 64 (.mv (.tmp 8)),
        .o 65 (.faddr 2 (.tmp 6)),
        .o 66 (.load1 (.tmp 65)),
        .o 67 (.lenL (.tmp 66)),
        .o 68 (.ints .lss (.tmp 64) (.tmp 67))])
      (.cond (.tmp 68)
       .skip
       (.exit 2)))
      (.seq (.block 3
       (.seq (.dreg [
         .o 71 (.faddr 2 (.tmp 6)),
         ⟨(some 72), .load1 (.tmp 71), none, 1, false, false, (some (.tmp 71))⟩,
         .o 73 (.mv (.tmp 8)),
         .p 74 (.iaddr 2 (.tmp 72) (.tmp 73)) 7,
         ⟨(some 75), .loadN 2 (.tmp 74), none, 15, false, false, (some (.tmp 74))⟩,
         .o 76 (.faddr 2 (.tmp 7)),
         ⟨(some 77), .load1 (.tmp 76), none, 32, false, false, (some (.tmp 76))⟩,
         .o 78 (.mv (.tmp 8)),
         .p 79 (.iaddr 2 (.tmp 77) (.tmp 78)) 224,
         ⟨(some 80), .loadN 2 (.tmp 79), none, 480, false, false, (some (.tmp 79))⟩,
         .p 81 (.eql (.st [.str, .str]) true (.tmp 75) (.tmp 80)) 1023])
       (.cond (.tmp 81)
        (.seq (.reg [
           .o 4 (.mv (.const (.bool false)))])
         .ret)
        .skip)))
      (.reg [
        .o 69 (.mv (.tmp 8)),
        .o 70 (.ints .add (.tmp 69) (.const (.int .i64 1))),
        .o 8 (.mv (.tmp 70))]))))))
    (.seq (.reg [
      .o 9 (.mv (.const (.int .i64 0)))])
    (.block 4
     (.loop
      (.seq (.seq (.reg [
        .o 82 (.mv (.tmp 9)),
        .o 83 (.faddr 3 (.tmp 6)),
        .o 84 (.load1 (.tmp 83)),
        .o 85 (.lenL (.tmp 84)),
        .o 86 (.ints .lss (.tmp 82) (.tmp 85))])
      (.cond (.tmp 86)
       .skip
       (.exit 4)))
      (.seq (.block 5
       (.seq (.dreg [
         .o 89 (.faddr 3 (.tmp 6)),
         ⟨(some 90), .load1 (.tmp 89), none, 1, false, false, (some (.tmp 89))⟩,
         .o 91 (.mv (.tmp 9)),
         .p 92 (.iaddr 4 (.tmp 90) (.tmp 91)) 7,
         .p 93 (.faddr 0 (.tmp 92)) 15,
         ⟨(some 94), .load1 (.tmp 93), none, 31, false, false, (some (.tmp 93))⟩,
         .o 95 (.faddr 3 (.tmp 7)),
         ⟨(some 96), .load1 (.tmp 95), none, 64, false, false, (some (.tmp 95))⟩,
         .o 97 (.mv (.tmp 9)),
         .p 98 (.iaddr 4 (.tmp 96) (.tmp 97)) 448,
         .p 99 (.faddr 0 (.tmp 98)) 960,
         ⟨(some 100), .load1 (.tmp 99), none, 1984, false, false, (some (.tmp 99))⟩,
         .p 101 (.eql (.b .str) true (.tmp 94) (.tmp 100)) 4095,
         .p 102 (.mv (.tmp 101)) 8191,
         .g 103 (.faddr 3 (.tmp 6)) 102 false 16383,
         ⟨(some 104), .load1 (.tmp 103), (some (102, false)), 32767, false, false, (some (.tmp 103))⟩,
         .g 105 (.mv (.tmp 9)) 102 false 16383,
         .g 106 (.iaddr 4 (.tmp 104) (.tmp 105)) 102 false 131071,
         .g 107 (.faddr 1 (.tmp 106)) 102 false 262143,
         ⟨(some 108), .load1 (.tmp 107), (some (102, false)), 524287, false, false, (some (.tmp 107))⟩,
         .g 109 (.faddr 3 (.tmp 7)) 102 false 16383,
         ⟨(some 110), .load1 (.tmp 109), (some (102, false)), 1064959, false, false, (some (.tmp 109))⟩,
         .g 111 (.mv (.tmp 9)) 102 false 16383,
         .g 112 (.iaddr 4 (.tmp 110) (.tmp 111)) 102 false 7356415,
         .g 113 (.faddr 1 (.tmp 112)) 102 false 15745023,
         ⟨(some 114), .load1 (.tmp 113), (some (102, false)), 32522239, false, false, (some (.tmp 113))⟩,
         .g 115 (.eql (.b .bool) true (.tmp 108) (.tmp 114)) 102 false 67108863,
         .p 116 (.pick (.tmp 102) (.const (.bool true)) (.tmp 115)) 134217727,
         .p 117 (.mv (.tmp 116)) 268435455,
         .g 118 (.faddr 3 (.tmp 6)) 117 false 536870911,
         ⟨(some 119), .load1 (.tmp 118), (some (117, false)), 1073741823, false, false, (some (.tmp 118))⟩,
         .g 120 (.mv (.tmp 9)) 117 false 536870911,
         .g 121 (.iaddr 4 (.tmp 119) (.tmp 120)) 117 false 4294967295,
         ⟨(some 122), .loadN 4 (.tmp 121), (some (117, false)), 8589934591, false, false, (some (.tmp 121))⟩,
         .g 123 (.faddr 3 (.tmp 7)) 117 false 536870911,
         ⟨(some 124), .load1 (.tmp 123), (some (117, false)), 17716740095, false, false, (some (.tmp 123))⟩,
         .g 125 (.mv (.tmp 9)) 117 false 536870911,
         .g 126 (.iaddr 4 (.tmp 124) (.tmp 125)) 117 false 120795955199,
         ⟨(some 127), .loadN 4 (.tmp 126), (some (117, false)), 258234908671, false, false, (some (.tmp 126))⟩,
         ⟨(some 128), .call (.const (.fn 77 [])) [(.tmp 122), (.tmp 127)], (some (117, false)), 549755813887, true, true, none⟩,
         .g 129 (.not (.tmp 128)) 117 false 1099511627775,
         .p 130 (.pick (.tmp 117) (.const (.bool true)) (.tmp 129)) 2199023255551])
       (.cond (.tmp 130)
        (.seq (.reg [
           .o 4 (.mv (.const (.bool false)))])
         .ret)
        .skip)))
      (.reg [
        .o 87 (.mv (.tmp 9)),
        .o 88 (.ints .add (.tmp 87) (.const (.int .i64 1))),
        .o 9 (.mv (.tmp 88))]))))))))))
   (.reg [
     .o 22 (.mv (.tmp 5)),
     .o 23 (.ints .add (.tmp 22) (.const (.int .i64 1))),
     .o 5 (.mv (.tmp 23))]))))))
 (.seq (.reg [
   .o 4 (.mv (.const (.bool true)))])
 .ret))))
theorem x_R10Same : tblX Tryz.prog X0 43 = some (.fn ⟨131, [(4, none)], s_R10Same.den⟩) := by kernel_rfl
def s_R12SameFunc : SC := (.seq (.reg [
   .o 2 (.box (.tmp 0)),
   .o 3 (.box (.tmp 1)),
   .o 4 (.mv (.const (.bool false)))])
 (.seq (.seq (.reg [
   .o 9 (.faddr 0 (.tmp 2)),
   .o 10 (.load1 (.tmp 9)),
   .o 11 (.faddr 0 (.tmp 3)),
   .o 12 (.load1 (.tmp 11)),
   .o 13 (.eql (.b .str) true (.tmp 10) (.tmp 12)),
   .o 14 (.mv (.tmp 13)),
   .g 15 (.faddr 1 (.tmp 2)) 14 false 0,
   .g 16 (.load1 (.tmp 15)) 14 false 0,
   .g 17 (.faddr 1 (.tmp 3)) 14 false 0,
   .g 18 (.load1 (.tmp 17)) 14 false 0,
   .g 19 (.eql (.b .str) true (.tmp 16) (.tmp 18)) 14 false 0,
   .o 20 (.pick (.tmp 14) (.const (.bool true)) (.tmp 19)),
   .o 21 (.mv (.tmp 20)),
   .g 22 (.faddr 2 (.tmp 2)) 21 false 0,
   .g 23 (.load1 (.tmp 22)) 21 false 0,
   .g 24 (.faddr 2 (.tmp 3)) 21 false 0,
   .g 25 (.load1 (.tmp 24)) 21 false 0,
   .g 26 (.eql (.b .bool) true (.tmp 23) (.tmp 25)) 21 false 0,
   .o 27 (.pick (.tmp 21) (.const (.bool true)) (.tmp 26)),
   .o 28 (.mv (.tmp 27)),
   .g 29 (.faddr 3 (.tmp 2)) 28 false 0,
   .g 30 (.load1 (.tmp 29)) 28 false 0,
   .g 31 (.faddr 3 (.tmp 3)) 28 false 0,
   .g 32 (.load1 (.tmp 31)) 28 false 0,
   .g 33 (.eql (.b .int) true (.tmp 30) (.tmp 32)) 28 false 0,
   .o 34 (.pick (.tmp 28) (.const (.bool true)) (.tmp 33)),
   .o 35 (.mv (.tmp 34)),
   .g 36 (.faddr 5 (.tmp 2)) 35 false 0,
   .g 37 (.load1 (.tmp 36)) 35 false 0,
   .g 38 (.faddr 5 (.tmp 3)) 35 false 0,
   .g 39 (.load1 (.tmp 38)) 35 false 0,
   .g 40 (.eql (.b .str) true (.tmp 37) (.tmp 39)) 35 false 0,
   .o 41 (.pick (.tmp 35) (.const (.bool true)) (.tmp 40)),
   .o 42 (.mv (.tmp 41)),
   .g 43 (.faddr 4 (.tmp 2)) 42 false 0,
   .g 44 (.load1 (.tmp 43)) 42 false 0,
   .g 45 (.lenL (.tmp 44)) 42 false 0,
   .g 46 (.faddr 4 (.tmp 3)) 42 false 0,
   .g 47 (.load1 (.tmp 46)) 42 false 0,
   .g 48 (.lenL (.tmp 47)) 42 false 0,
   .g 49 (.eql (.b .int) true (.tmp 45) (.tmp 48)) 42 false 0,
   .o 50 (.pick (.tmp 42) (.const (.bool true)) (.tmp 49)),
   .o 51 (.mv (.tmp 50)),
   .g 52 (.faddr 6 (.tmp 2)) 51 false 0,
   .g 53 (.load1 (.tmp 52)) 51 false 0,
   .g 54 (.lenL (.tmp 53)) 51 false 0,
   .g 55 (.faddr 6 (.tmp 3)) 51 false 0,
   .g 56 (.load1 (.tmp 55)) 51 false 0,
   .g 57 (.lenL (.tmp 56)) 51 false 0,
   .g 58 (.eql (.b .int) true (.tmp 54) (.tmp 57)) 51 false 0,
   .o 59 (.pick (.tmp 51) (.const (.bool true)) (.tmp 58))])
 (.cond (.tmp 59)
  (.seq (.reg [
     .o 4 (.mv (.const (.bool false)))])
   .ret)
  .skip))
 (.seq (.seq (.reg [
   .o 5 (.mv (.const (.int .i64 0)))])
 (.block 0
  (.loop
   (.seq (.seq (.reg [
     .o 60 (.mv (.tmp 5)),
     .o 61 (.faddr 4 (.tmp 2)),
     .o 62 (.load1 (.tmp 61)),
     .o 63 (.lenL (.tmp 62)),
     .o 64 (.ints .lss (.tmp 60) (.tmp 63))])
   (.cond (.tmp 64)
    .skip
    (.exit 0)))
   (.seq (.block 1
    (.seq (.dreg [
      .o 67 (.faddr 4 (.tmp 2)),
      ⟨(some 68), .load1 (.tmp 67), none, 1, false, false, (some (.tmp 67))⟩,
      .o 69 (.mv (.tmp 5)),
      .p 70 (.iaddr 2 (.tmp 68) (.tmp 69)) 7,
      ⟨(some 71), .loadN 2 (.tmp 70), none, 15, false, false, (some (.tmp 70))⟩,
      .o 72 (.faddr 4 (.tmp 3)),
      ⟨(some 73), .load1 (.tmp 72), none, 32, false, false, (some (.tmp 72))⟩,
      .o 74 (.mv (.tmp 5)),
      .p 75 (.iaddr 2 (.tmp 73) (.tmp 74)) 224,
      ⟨(some 76), .loadN 2 (.tmp 75), none, 480, false, false, (some (.tmp 75))⟩,
      .p 77 (.eql (.st [.str, .str]) true (.tmp 71) (.tmp 76)) 1023])
    (.cond (.tmp 77)
     (.seq (.reg [
        .o 4 (.mv (.const (.bool false)))])
      .ret)
     .skip)))
   (.reg [
     .o 65 (.mv (.tmp 5)),
     .o 66 (.ints .add (.tmp 65) (.const (.int .i64 1))),
     .o 5 (.mv (.tmp 66))]))))))
 (.seq (.seq (.reg [
   .o 6 (.mv (.const (.int .i64 0)))])
 (.block 2
  (.loop
   (.seq (.seq (.reg [
     .o 78 (.mv (.tmp 6)),
     .o 79 (.faddr 6 (.tmp 2)),
     .o 80 (.load1 (.tmp 79)),
     .o 81 (.lenL (.tmp 80)),
     .o 82 (.ints .lss (.tmp 78) (.tmp 81))])
   (.cond (.tmp 82)
    .skip
    (.exit 2)))
   (.seq (.block 3
    (.seq (.dreg [
      .o 85 (.faddr 6 (.tmp 2)),
      ⟨(some 86), .load1 (.tmp 85), none, 1, false, false, (some (.tmp 85))⟩,
      .o 87 (.mv (.tmp 6)),
      .p 88 (.iaddr 10 (.tmp 86) (.tmp 87)) 7,
      ⟨(some 89), .loadN 10 (.tmp 88), none, 15, false, false, (some (.tmp 88))⟩,
      .o 90 (.faddr 6 (.tmp 3)),
      ⟨(some 91), .load1 (.tmp 90), none, 32, false, false, (some (.tmp 90))⟩,
      .o 92 (.mv (.tmp 6)),
      .p 93 (.iaddr 10 (.tmp 91) (.tmp 92)) 224,
      ⟨(some 94), .loadN 10 (.tmp 93), none, 480, false, false, (some (.tmp 93))⟩,
      .o 7 (.box (.const (.agg [(.int .i64 0), (.int .i64 0), (.int .i64 0), (.int .i64 0), (.int .i64 0), (.str []), (.str []), .nils, (.int .i64 0), (.int .i64 0)]))),
      .o 8 (.box (.const (.agg [(.int .i64 0), (.int .i64 0), (.int .i64 0), (.int .i64 0), (.int .i64 0), (.str []), (.str []), .nils, (.int .i64 0), (.int .i64 0)]))),
      ⟨none, .store 10 (.tmp 7) (.tmp 89), none, 3103, true, true, none⟩,
      ⟨none, .store 10 (.tmp 8) (.tmp 94), none, 8191, true, true, none⟩])
    (.seq (.reg [
      .o 95 (.faddr 0 (.tmp 7)),
      .o 96 (.load1 (.tmp 95)),
      .o 97 (.faddr 0 (.tmp 8)),
      .o 98 (.load1 (.tmp 97)),
      .o 99 (.eql (.b .int) true (.tmp 96) (.tmp 98)),
      .o 100 (.mv (.tmp 99)),
      .g 101 (.faddr 1 (.tmp 7)) 100 false 0,
      .g 102 (.load1 (.tmp 101)) 100 false 0,
      .g 103 (.faddr 1 (.tmp 8)) 100 false 0,
      .g 104 (.load1 (.tmp 103)) 100 false 0,
      .g 105 (.eql (.b .int) true (.tmp 102) (.tmp 104)) 100 false 0,
      .o 106 (.pick (.tmp 100) (.const (.bool true)) (.tmp 105)),
      .o 107 (.mv (.tmp 106)),
      .g 108 (.faddr 2 (.tmp 7)) 107 false 0,
      .g 109 (.load1 (.tmp 108)) 107 false 0,
      .g 110 (.faddr 2 (.tmp 8)) 107 false 0,
      .g 111 (.load1 (.tmp 110)) 107 false 0,
      .g 112 (.eql (.b .int) true (.tmp 109) (.tmp 111)) 107 false 0,
      .o 113 (.pick (.tmp 107) (.const (.bool true)) (.tmp 112)),
      .o 114 (.mv (.tmp 113)),
      .g 115 (.faddr 3 (.tmp 7)) 114 false 0,
      .g 116 (.load1 (.tmp 115)) 114 false 0,
      .g 117 (.faddr 3 (.tmp 8)) 114 false 0,
      .g 118 (.load1 (.tmp 117)) 114 false 0,
      .g 119 (.eql (.b .int) true (.tmp 116) (.tmp 118)) 114 false 0,
      .o 120 (.pick (.tmp 114) (.const (.bool true)) (.tmp 119)),
      .o 121 (.mv (.tmp 120)),
      .g 122 (.faddr 4 (.tmp 7)) 121 false 0,
      .g 123 (.load1 (.tmp 122)) 121 false 0,
      .g 124 (.faddr 4 (.tmp 8)) 121 false 0,
      .g 125 (.load1 (.tmp 124)) 121 false 0,
      .g 126 (.eql (.b .int) true (.tmp 123) (.tmp 125)) 121 false 0,
      .o 127 (.pick (.tmp 121) (.const (.bool true)) (.tmp 126)),
      .o 128 (.mv (.tmp 127)),
      .g 129 (.faddr 5 (.tmp 7)) 128 false 0,
      .g 130 (.load1 (.tmp 129)) 128 false 0,
      .g 131 (.faddr 5 (.tmp 8)) 128 false 0,
      .g 132 (.load1 (.tmp 131)) 128 false 0,
      .g 133 (.eql (.b .str) true (.tmp 130) (.tmp 132)) 128 false 0,
      .o 134 (.pick (.tmp 128) (.const (.bool true)) (.tmp 133)),
      .o 135 (.mv (.tmp 134)),
      .g 136 (.faddr 6 (.tmp 7)) 135 false 0,
      .g 137 (.load1 (.tmp 136)) 135 false 0,
      .g 138 (.faddr 6 (.tmp 8)) 135 false 0,
      .g 139 (.load1 (.tmp 138)) 135 false 0,
      .g 140 (.eql (.b .str) true (.tmp 137) (.tmp 139)) 135 false 0,
      .o 141 (.pick (.tmp 135) (.const (.bool true)) (.tmp 140)),
      .o 142 (.mv (.tmp 141)),
      .g 143 (.faddr 8 (.tmp 7)) 142 false 0,
      .g 144 (.load1 (.tmp 143)) 142 false 0,
      .g 145 (.faddr 8 (.tmp 8)) 142 false 0,
      .g 146 (.load1 (.tmp 145)) 142 false 0,
      .g 147 (.eql (.b .int) true (.tmp 144) (.tmp 146)) 142 false 0,
      .o 148 (.pick (.tmp 142) (.const (.bool true)) (.tmp 147)),
      .o 149 (.mv (.tmp 148)),
      .g 150 (.faddr 9 (.tmp 7)) 149 false 0,
      .g 151 (.load1 (.tmp 150)) 149 false 0,
      .g 152 (.faddr 9 (.tmp 8)) 149 false 0,
      .g 153 (.load1 (.tmp 152)) 149 false 0,
      .g 154 (.eql (.b .int) true (.tmp 151) (.tmp 153)) 149 false 0,
      .o 155 (.pick (.tmp 149) (.const (.bool true)) (.tmp 154)),
      .o 156 (.mv (.tmp 155)),
      .g 157 (.faddr 7 (.tmp 7)) 156 false 0,
      .g 158 (.load1 (.tmp 157)) 156 false 0,
      .g 159 (.faddr 7 (.tmp 8)) 156 false 0,
      .g 160 (.load1 (.tmp 159)) 156 false 0,
      ⟨(some 161), .call (.const (.fn 78 [])) [(.tmp 158), (.tmp 160)], (some (156, false)), 0, true, false, none⟩,
      .g 162 (.not (.tmp 161)) 156 false 0,
      .o 163 (.pick (.tmp 156) (.const (.bool true)) (.tmp 162))])
    (.cond (.tmp 163)
     (.seq (.reg [
        .o 4 (.mv (.const (.bool false)))])
      .ret)
     .skip))))
   (.reg [
     .o 83 (.mv (.tmp 6)),
     .o 84 (.ints .add (.tmp 83) (.const (.int .i64 1))),
     .o 6 (.mv (.tmp 84))]))))))
 (.seq (.reg [
   .o 4 (.mv (.const (.bool true)))])
 .ret)))))
theorem x_R12SameFunc : tblX Tryz.prog X0 44 = some (.fn ⟨164, [(4, none)], s_R12SameFunc.den⟩) := by kernel_rfl
def s_R10SameSig : SC := (.seq (.reg [
   .o 2 (.box (.tmp 0)),
   .o 3 (.box (.tmp 1)),
   .o 4 (.mv (.const (.bool false)))])
 (.seq (.seq (.reg [
   .o 6 (.faddr 2 (.tmp 2)),
   .o 7 (.load1 (.tmp 6)),
   .o 8 (.lenL (.tmp 7)),
   .o 9 (.faddr 2 (.tmp 3)),
   .o 10 (.load1 (.tmp 9)),
   .o 11 (.lenL (.tmp 10)),
   .o 12 (.eql (.b .int) true (.tmp 8) (.tmp 11)),
   .o 13 (.mv (.tmp 12)),
   .g 14 (.faddr 3 (.tmp 2)) 13 false 0,
   .g 15 (.load1 (.tmp 14)) 13 false 0,
   .g 16 (.faddr 3 (.tmp 3)) 13 false 0,
   .g 17 (.load1 (.tmp 16)) 13 false 0,
   .g 18 (.eql (.b .str) true (.tmp 15) (.tmp 17)) 13 false 0,
   .o 19 (.pick (.tmp 13) (.const (.bool true)) (.tmp 18))])
 (.cond (.tmp 19)
  (.seq (.reg [
     .o 4 (.mv (.const (.bool false)))])
   .ret)
  .skip))
 (.seq (.seq (.reg [
   .o 5 (.mv (.const (.int .i64 0)))])
 (.block 0
  (.loop
   (.seq (.seq (.reg [
     .o 20 (.mv (.tmp 5)),
     .o 21 (.faddr 2 (.tmp 2)),
     .o 22 (.load1 (.tmp 21)),
     .o 23 (.lenL (.tmp 22)),
     .o 24 (.ints .lss (.tmp 20) (.tmp 23))])
   (.cond (.tmp 24)
    .skip
    (.exit 0)))
   (.seq (.block 1
    (.seq (.dreg [
      .o 27 (.faddr 2 (.tmp 2)),
      ⟨(some 28), .load1 (.tmp 27), none, 1, false, false, (some (.tmp 27))⟩,
      .o 29 (.mv (.tmp 5)),
      .p 30 (.iaddr 1 (.tmp 28) (.tmp 29)) 7,
      ⟨(some 31), .load1 (.tmp 30), none, 15, false, false, (some (.tmp 30))⟩,
      .o 32 (.faddr 2 (.tmp 3)),
      ⟨(some 33), .load1 (.tmp 32), none, 32, false, false, (some (.tmp 32))⟩,
      .o 34 (.mv (.tmp 5)),
      .p 35 (.iaddr 1 (.tmp 33) (.tmp 34)) 224,
      ⟨(some 36), .load1 (.tmp 35), none, 480, false, false, (some (.tmp 35))⟩,
      .p 37 (.eql (.b .str) true (.tmp 31) (.tmp 36)) 1023])
    (.cond (.tmp 37)
     (.seq (.reg [
        .o 4 (.mv (.const (.bool false)))])
      .ret)
     .skip)))
   (.reg [
     .o 25 (.mv (.tmp 5)),
     .o 26 (.ints .add (.tmp 25) (.const (.int .i64 1))),
     .o 5 (.mv (.tmp 26))]))))))
 (.seq (.reg [
   .o 4 (.mv (.const (.bool true)))])
 .ret))))
theorem x_R10SameSig : tblX Tryz.prog X0 77 = some (.fn ⟨38, [(4, none)], s_R10SameSig.den⟩) := by kernel_rfl
def s_R12SameInts : SC := (.seq (.reg [
   .o 4 (.mv (.const (.bool false)))])
 (.seq (.seq (.reg [
   .o 6 (.mv (.tmp 0)),
   .o 7 (.lenL (.tmp 6)),
   .o 8 (.mv (.tmp 1)),
   .o 9 (.lenL (.tmp 8)),
   .o 10 (.eql (.b .int) true (.tmp 7) (.tmp 9))])
 (.cond (.tmp 10)
  (.seq (.reg [
     .o 4 (.mv (.const (.bool false)))])
   .ret)
  .skip))
 (.seq (.seq (.reg [
   .o 5 (.mv (.const (.int .i64 0)))])
 (.block 0
  (.loop
   (.seq (.seq (.reg [
     .o 11 (.mv (.tmp 5)),
     .o 12 (.mv (.tmp 0)),
     .o 13 (.lenL (.tmp 12)),
     .o 14 (.ints .lss (.tmp 11) (.tmp 13))])
   (.cond (.tmp 14)
    .skip
    (.exit 0)))
   (.seq (.block 1
    (.seq (.dreg [
      .o 17 (.mv (.tmp 0)),
      .o 18 (.mv (.tmp 5)),
      .p 19 (.iaddr 1 (.tmp 17) (.tmp 18)) 3,
      ⟨(some 20), .load1 (.tmp 19), none, 7, false, false, (some (.tmp 19))⟩,
      .o 21 (.mv (.tmp 1)),
      .o 22 (.mv (.tmp 5)),
      .p 23 (.iaddr 1 (.tmp 21) (.tmp 22)) 48,
      ⟨(some 24), .load1 (.tmp 23), none, 112, false, false, (some (.tmp 23))⟩,
      .p 25 (.eql (.b .int) true (.tmp 20) (.tmp 24)) 255])
    (.cond (.tmp 25)
     (.seq (.reg [
        .o 4 (.mv (.const (.bool false)))])
      .ret)
     .skip)))
   (.reg [
     .o 15 (.mv (.tmp 5)),
     .o 16 (.ints .add (.tmp 15) (.const (.int .i64 1))),
     .o 5 (.mv (.tmp 16))]))))))
 (.seq (.reg [
   .o 4 (.mv (.const (.bool true)))])
 .ret))))
theorem x_R12SameInts : tblX Tryz.prog X0 78 = some (.fn ⟨26, [(4, none)], s_R12SameInts.den⟩) := by kernel_rfl
def s_efRule : SC := (.seq (.reg [
   .o 6 (.mv (.const (.bool false)))])
 (.seq (.seq (.reg [
   .o 10 (.mv (.tmp 0)),
   .o 11 (.lenL (.tmp 10)),
   .o 12 (.mv (.tmp 1)),
   .o 13 (.lenL (.tmp 12)),
   .o 14 (.eql (.b .int) true (.tmp 11) (.tmp 13))])
 (.cond (.tmp 14)
  (.seq (.reg [
     .o 6 (.mv (.const (.bool false)))])
   .ret)
  .skip))
 (.seq (.seq (.reg [
   .o 15 (.mv (.tmp 0)),
   .o 16 (.lenL (.tmp 15)),
   .o 17 (.mv (.const (.int .i64 0)))])
 (.block 0
  (.loop
   (.seq (.reg [
     .o 18 (.ints .lss (.tmp 17) (.tmp 16))])
   (.seq (.cond (.tmp 18)
    .skip
    (.exit 0))
   (.seq (.block 1
    (.seq (.reg [
      .o 19 (.mv (.tmp 17)),
      .o 20 (.iaddr 8 (.tmp 15) (.tmp 17)),
      .o 21 (.loadN 8 (.tmp 20)),
      .o 8 (.box (.const (.agg [(.int .i64 0), (.str []), (.str []), (.int .i64 0), (.int .i64 0), .nils, (.bool false), (.str [])]))),
      .o 7 (.mv (.tmp 19)),
      ⟨none, .store 8 (.tmp 8) (.tmp 21), none, 0, true, false, none⟩])
    (.seq (.reg [
      .o 22 (.mv (.tmp 1)),
      .o 23 (.mv (.tmp 7)),
      .o 24 (.iaddr 8 (.tmp 22) (.tmp 23)),
      .o 25 (.loadN 8 (.tmp 24)),
      .o 9 (.box (.const (.agg [(.int .i64 0), (.str []), (.str []), (.int .i64 0), (.int .i64 0), .nils, (.bool false), (.str [])]))),
      ⟨none, .store 8 (.tmp 9) (.tmp 25), none, 0, true, false, none⟩])
    (.seq (.reg [
      .o 26 (.mv (.tmp 2)),
      .o 27 (.loadN 8 (.tmp 8)),
      .o 28 (.loadN 8 (.tmp 9)),
      ⟨(some 29), .call (.tmp 26) [(.tmp 27), (.tmp 28)], none, 0, true, false, none⟩,
      .o 30 (.not (.tmp 29))])
    (.cond (.tmp 30)
     (.seq (.reg [
        .o 6 (.mv (.const (.bool false)))])
      .ret)
     .skip)))))
   (.reg [
     .o 31 (.ints .add (.tmp 17) (.const (.int .i64 1))),
     .o 17 (.mv (.tmp 31))])))))))
 (.seq (.reg [
   .o 6 (.mv (.const (.bool true)))])
 .ret))))
theorem x_efRule : tblX Tryz.prog X0 10 = some (.fn ⟨32, [(6, none)], s_efRule.den⟩) := by kernel_rfl
def s_efProtocol : SC := (.seq (.reg [
   .o 6 (.mv (.const (.bool false)))])
 (.seq (.seq (.reg [
   .o 10 (.mv (.tmp 0)),
   .o 11 (.lenL (.tmp 10)),
   .o 12 (.mv (.tmp 1)),
   .o 13 (.lenL (.tmp 12)),
   .o 14 (.eql (.b .int) true (.tmp 11) (.tmp 13))])
 (.cond (.tmp 14)
  (.seq (.reg [
     .o 6 (.mv (.const (.bool false)))])
   .ret)
  .skip))
 (.seq (.seq (.reg [
   .o 15 (.mv (.tmp 0)),
   .o 16 (.lenL (.tmp 15)),
   .o 17 (.mv (.const (.int .i64 0)))])
 (.block 0
  (.loop
   (.seq (.reg [
     .o 18 (.ints .lss (.tmp 17) (.tmp 16))])
   (.seq (.cond (.tmp 18)
    .skip
    (.exit 0))
   (.seq (.block 1
    (.seq (.reg [
      .o 19 (.mv (.tmp 17)),
      .o 20 (.iaddr 5 (.tmp 15) (.tmp 17)),
      .o 21 (.loadN 5 (.tmp 20)),
      .o 8 (.box (.const (.agg [(.str []), .nils, (.int .i64 0), (.int .i64 0), .nils]))),
      .o 7 (.mv (.tmp 19)),
      ⟨none, .store 5 (.tmp 8) (.tmp 21), none, 0, true, false, none⟩])
    (.seq (.reg [
      .o 22 (.mv (.tmp 1)),
      .o 23 (.mv (.tmp 7)),
      .o 24 (.iaddr 5 (.tmp 22) (.tmp 23)),
      .o 25 (.loadN 5 (.tmp 24)),
      .o 9 (.box (.const (.agg [(.str []), .nils, (.int .i64 0), (.int .i64 0), .nils]))),
      ⟨none, .store 5 (.tmp 9) (.tmp 25), none, 0, true, false, none⟩])
    (.seq (.reg [
      .o 26 (.mv (.tmp 2)),
      .o 27 (.loadN 5 (.tmp 8)),
      .o 28 (.loadN 5 (.tmp 9)),
      ⟨(some 29), .call (.tmp 26) [(.tmp 27), (.tmp 28)], none, 0, true, false, none⟩,
      .o 30 (.not (.tmp 29))])
    (.cond (.tmp 30)
     (.seq (.reg [
        .o 6 (.mv (.const (.bool false)))])
      .ret)
     .skip)))))
   (.reg [
     .o 31 (.ints .add (.tmp 17) (.const (.int .i64 1))),
     .o 17 (.mv (.tmp 31))])))))))
 (.seq (.reg [
   .o 6 (.mv (.const (.bool true)))])
 .ret))))
theorem x_efProtocol : tblX Tryz.prog X0 12 = some (.fn ⟨32, [(6, none)], s_efProtocol.den⟩) := by kernel_rfl
def s_efMemo : SC := (.seq (.reg [
   .o 6 (.mv (.const (.bool false)))])
 (.seq (.seq (.reg [
   .o 10 (.mv (.tmp 0)),
   .o 11 (.lenL (.tmp 10)),
   .o 12 (.mv (.tmp 1)),
   .o 13 (.lenL (.tmp 12)),
   .o 14 (.eql (.b .int) true (.tmp 11) (.tmp 13))])
 (.cond (.tmp 14)
  (.seq (.reg [
     .o 6 (.mv (.const (.bool false)))])
   .ret)
  .skip))
 (.seq (.seq (.reg [
   .o 15 (.mv (.tmp 0)),
   .o 16 (.lenL (.tmp 15)),
   .o 17 (.mv (.const (.int .i64 0)))])
 (.block 0
  (.loop
   (.seq (.reg [
     .o 18 (.ints .lss (.tmp 17) (.tmp 16))])
   (.seq (.cond (.tmp 18)
    .skip
    (.exit 0))
   (.seq (.block 1
    (.seq (.reg [
      .o 19 (.mv (.tmp 17)),
      .o 20 (.iaddr 5 (.tmp 15) (.tmp 17)),
      .o 21 (.loadN 5 (.tmp 20)),
      .o 8 (.box (.const (.agg [(.str []), (.str []), (.str []), .nils, .nils]))),
      .o 7 (.mv (.tmp 19)),
      ⟨none, .store 5 (.tmp 8) (.tmp 21), none, 0, true, false, none⟩])
    (.seq (.reg [
      .o 22 (.mv (.tmp 1)),
      .o 23 (.mv (.tmp 7)),
      .o 24 (.iaddr 5 (.tmp 22) (.tmp 23)),
      .o 25 (.loadN 5 (.tmp 24)),
      .o 9 (.box (.const (.agg [(.str []), (.str []), (.str []), .nils, .nils]))),
      ⟨none, .store 5 (.tmp 9) (.tmp 25), none, 0, true, false, none⟩])
    (.seq (.reg [
      .o 26 (.mv (.tmp 2)),
      .o 27 (.loadN 5 (.tmp 8)),
      .o 28 (.loadN 5 (.tmp 9)),
      ⟨(some 29), .call (.tmp 26) [(.tmp 27), (.tmp 28)], none, 0, true, false, none⟩,
      .o 30 (.not (.tmp 29))])
    (.cond (.tmp 30)
     (.seq (.reg [
        .o 6 (.mv (.const (.bool false)))])
      .ret)
     .skip)))))
   (.reg [
     .o 31 (.ints .add (.tmp 17) (.const (.int .i64 1))),
     .o 17 (.mv (.tmp 31))])))))))
 (.seq (.reg [
   .o 6 (.mv (.const (.bool true)))])
 .ret))))
theorem x_efMemo : tblX Tryz.prog X0 14 = some (.fn ⟨32, [(6, none)], s_efMemo.den⟩) := by kernel_rfl
def s_efClassDecl : SC := (.seq (.reg [
   .o 6 (.mv (.const (.bool false)))])
 (.seq (.seq (.reg [
   .o 10 (.mv (.tmp 0)),
   .o 11 (.lenL (.tmp 10)),
   .o 12 (.mv (.tmp 1)),
   .o 13 (.lenL (.tmp 12)),
   .o 14 (.eql (.b .int) true (.tmp 11) (.tmp 13))])
 (.cond (.tmp 14)
  (.seq (.reg [
     .o 6 (.mv (.const (.bool false)))])
   .ret)
  .skip))
 (.seq (.seq (.reg [
   .o 15 (.mv (.tmp 0)),
   .o 16 (.lenL (.tmp 15)),
   .o 17 (.mv (.const (.int .i64 0)))])
 (.block 0
  (.loop
   (.seq (.reg [
     .o 18 (.ints .lss (.tmp 17) (.tmp 16))])
   (.seq (.cond (.tmp 18)
    .skip
    (.exit 0))
   (.seq (.block 1
    (.seq (.reg [
      .o 19 (.mv (.tmp 17)),
      .o 20 (.iaddr 4 (.tmp 15) (.tmp 17)),
      .o 21 (.loadN 4 (.tmp 20)),
      .o 8 (.box (.const (.agg [(.str []), (.str []), .nils, .nils]))),
      .o 7 (.mv (.tmp 19)),
      ⟨none, .store 4 (.tmp 8) (.tmp 21), none, 0, true, false, none⟩])
    (.seq (.reg [
      .o 22 (.mv (.tmp 1)),
      .o 23 (.mv (.tmp 7)),
      .o 24 (.iaddr 4 (.tmp 22) (.tmp 23)),
      .o 25 (.loadN 4 (.tmp 24)),
      .o 9 (.box (.const (.agg [(.str []), (.str []), .nils, .nils]))),
      ⟨none, .store 4 (.tmp 9) (.tmp 25), none, 0, true, false, none⟩])
    (.seq (.reg [
      .o 26 (.mv (.tmp 2)),
      .o 27 (.loadN 4 (.tmp 8)),
      .o 28 (.loadN 4 (.tmp 9)),
      ⟨(some 29), .call (.tmp 26) [(.tmp 27), (.tmp 28)], none, 0, true, false, none⟩,
      .o 30 (.not (.tmp 29))])
    (.cond (.tmp 30)
     (.seq (.reg [
        .o 6 (.mv (.const (.bool false)))])
      .ret)
     .skip)))))
   (.reg [
     .o 31 (.ints .add (.tmp 17) (.const (.int .i64 1))),
     .o 17 (.mv (.tmp 31))])))))))
 (.seq (.reg [
   .o 6 (.mv (.const (.bool true)))])
 .ret))))
theorem x_efClassDecl : tblX Tryz.prog X0 24 = some (.fn ⟨32, [(6, none)], s_efClassDecl.den⟩) := by kernel_rfl
def s_efFunc : SC := (.seq (.reg [
   .o 6 (.mv (.const (.bool false)))])
 (.seq (.seq (.reg [
   .o 10 (.mv (.tmp 0)),
   .o 11 (.lenL (.tmp 10)),
   .o 12 (.mv (.tmp 1)),
   .o 13 (.lenL (.tmp 12)),
   .o 14 (.eql (.b .int) true (.tmp 11) (.tmp 13))])
 (.cond (.tmp 14)
  (.seq (.reg [
     .o 6 (.mv (.const (.bool false)))])
   .ret)
  .skip))
 (.seq (.seq (.reg [
   .o 15 (.mv (.tmp 0)),
   .o 16 (.lenL (.tmp 15)),
   .o 17 (.mv (.const (.int .i64 0)))])
 (.block 0
  (.loop
   (.seq (.reg [
     .o 18 (.ints .lss (.tmp 17) (.tmp 16))])
   (.seq (.cond (.tmp 18)
    .skip
    (.exit 0))
   (.seq (.block 1
    (.seq (.reg [
      .o 19 (.mv (.tmp 17)),
      .o 20 (.iaddr 7 (.tmp 15) (.tmp 17)),
      .o 21 (.loadN 7 (.tmp 20)),
      .o 8 (.box (.const (.agg [(.str []), (.str []), (.bool false), (.int .i64 0), .nils, (.str []), .nils]))),
      .o 7 (.mv (.tmp 19)),
      ⟨none, .store 7 (.tmp 8) (.tmp 21), none, 0, true, false, none⟩])
    (.seq (.reg [
      .o 22 (.mv (.tmp 1)),
      .o 23 (.mv (.tmp 7)),
      .o 24 (.iaddr 7 (.tmp 22) (.tmp 23)),
      .o 25 (.loadN 7 (.tmp 24)),
      .o 9 (.box (.const (.agg [(.str []), (.str []), (.bool false), (.int .i64 0), .nils, (.str []), .nils]))),
      ⟨none, .store 7 (.tmp 9) (.tmp 25), none, 0, true, false, none⟩])
    (.seq (.reg [
      .o 26 (.mv (.tmp 2)),
      .o 27 (.loadN 7 (.tmp 8)),
      .o 28 (.loadN 7 (.tmp 9)),
      ⟨(some 29), .call (.tmp 26) [(.tmp 27), (.tmp 28)], none, 0, true, false, none⟩,
      .o 30 (.not (.tmp 29))])
    (.cond (.tmp 30)
     (.seq (.reg [
        .o 6 (.mv (.const (.bool false)))])
      .ret)
     .skip)))))
   (.reg [
     .o 31 (.ints .add (.tmp 17) (.const (.int .i64 1))),
     .o 17 (.mv (.tmp 31))])))))))
 (.seq (.reg [
   .o 6 (.mv (.const (.bool true)))])
 .ret))))
theorem x_efFunc : tblX Tryz.prog X0 26 = some (.fn ⟨32, [(6, none)], s_efFunc.den⟩) := by kernel_rfl
def s_efSig : SC := (.seq (.reg [
   .o 6 (.mv (.const (.bool false)))])
 (.seq (.seq (.reg [
   .o 10 (.mv (.tmp 0)),
   .o 11 (.lenL (.tmp 10)),
   .o 12 (.mv (.tmp 1)),
   .o 13 (.lenL (.tmp 12)),
   .o 14 (.eql (.b .int) true (.tmp 11) (.tmp 13))])
 (.cond (.tmp 14)
  (.seq (.reg [
     .o 6 (.mv (.const (.bool false)))])
   .ret)
  .skip))
 (.seq (.seq (.reg [
   .o 15 (.mv (.tmp 0)),
   .o 16 (.lenL (.tmp 15)),
   .o 17 (.mv (.const (.int .i64 0)))])
 (.block 0
  (.loop
   (.seq (.reg [
     .o 18 (.ints .lss (.tmp 17) (.tmp 16))])
   (.seq (.cond (.tmp 18)
    .skip
    (.exit 0))
   (.seq (.block 1
    (.seq (.reg [
      .o 19 (.mv (.tmp 17)),
      .o 20 (.iaddr 4 (.tmp 15) (.tmp 17)),
      .o 21 (.loadN 4 (.tmp 20)),
      .o 8 (.box (.const (.agg [(.str []), (.bool false), .nils, (.str [])]))),
      .o 7 (.mv (.tmp 19)),
      ⟨none, .store 4 (.tmp 8) (.tmp 21), none, 0, true, false, none⟩])
    (.seq (.reg [
      .o 22 (.mv (.tmp 1)),
      .o 23 (.mv (.tmp 7)),
      .o 24 (.iaddr 4 (.tmp 22) (.tmp 23)),
      .o 25 (.loadN 4 (.tmp 24)),
      .o 9 (.box (.const (.agg [(.str []), (.bool false), .nils, (.str [])]))),
      ⟨none, .store 4 (.tmp 9) (.tmp 25), none, 0, true, false, none⟩])
    (.seq (.reg [
      .o 26 (.mv (.tmp 2)),
      .o 27 (.loadN 4 (.tmp 8)),
      .o 28 (.loadN 4 (.tmp 9)),
      ⟨(some 29), .call (.tmp 26) [(.tmp 27), (.tmp 28)], none, 0, true, false, none⟩,
      .o 30 (.not (.tmp 29))])
    (.cond (.tmp 30)
     (.seq (.reg [
        .o 6 (.mv (.const (.bool false)))])
      .ret)
     .skip)))))
   (.reg [
     .o 31 (.ints .add (.tmp 17) (.const (.int .i64 1))),
     .o 17 (.mv (.tmp 31))])))))))
 (.seq (.reg [
   .o 6 (.mv (.const (.bool true)))])
 .ret))))
theorem x_efSig : tblX Tryz.prog X0 39 = some (.fn ⟨32, [(6, none)], s_efSig.den⟩) := by kernel_rfl
def s_efInstr : SC := (.seq (.reg [
   .o 6 (.mv (.const (.bool false)))])
 (.seq (.seq (.reg [
   .o 10 (.mv (.tmp 0)),
   .o 11 (.lenL (.tmp 10)),
   .o 12 (.mv (.tmp 1)),
   .o 13 (.lenL (.tmp 12)),
   .o 14 (.eql (.b .int) true (.tmp 11) (.tmp 13))])
 (.cond (.tmp 14)
  (.seq (.reg [
     .o 6 (.mv (.const (.bool false)))])
   .ret)
  .skip))
 (.seq (.seq (.reg [
   .o 15 (.mv (.tmp 0)),
   .o 16 (.lenL (.tmp 15)),
   .o 17 (.mv (.const (.int .i64 0)))])
 (.block 0
  (.loop
   (.seq (.reg [
     .o 18 (.ints .lss (.tmp 17) (.tmp 16))])
   (.seq (.cond (.tmp 18)
    .skip
    (.exit 0))
   (.seq (.block 1
    (.seq (.reg [
      .o 19 (.mv (.tmp 17)),
      .o 20 (.iaddr 10 (.tmp 15) (.tmp 17)),
      .o 21 (.loadN 10 (.tmp 20)),
      .o 8 (.box (.const (.agg [(.int .i64 0), (.int .i64 0), (.int .i64 0), (.int .i64 0), (.int .i64 0), (.str []), (.str []), .nils, (.int .i64 0), (.int .i64 0)]))),
      .o 7 (.mv (.tmp 19)),
      ⟨none, .store 10 (.tmp 8) (.tmp 21), none, 0, true, false, none⟩])
    (.seq (.reg [
      .o 22 (.mv (.tmp 1)),
      .o 23 (.mv (.tmp 7)),
      .o 24 (.iaddr 10 (.tmp 22) (.tmp 23)),
      .o 25 (.loadN 10 (.tmp 24)),
      .o 9 (.box (.const (.agg [(.int .i64 0), (.int .i64 0), (.int .i64 0), (.int .i64 0), (.int .i64 0), (.str []), (.str []), .nils, (.int .i64 0), (.int .i64 0)]))),
      ⟨none, .store 10 (.tmp 9) (.tmp 25), none, 0, true, false, none⟩])
    (.seq (.reg [
      .o 26 (.mv (.tmp 2)),
      .o 27 (.loadN 10 (.tmp 8)),
      .o 28 (.loadN 10 (.tmp 9)),
      ⟨(some 29), .call (.tmp 26) [(.tmp 27), (.tmp 28)], none, 0, true, false, none⟩,
      .o 30 (.not (.tmp 29))])
    (.cond (.tmp 30)
     (.seq (.reg [
        .o 6 (.mv (.const (.bool false)))])
      .ret)
     .skip)))))
   (.reg [
     .o 31 (.ints .add (.tmp 17) (.const (.int .i64 1))),
     .o 17 (.mv (.tmp 31))])))))))
 (.seq (.reg [
   .o 6 (.mv (.const (.bool true)))])
 .ret))))
theorem x_efInstr : tblX Tryz.prog X0 41 = some (.fn ⟨32, [(6, none)], s_efInstr.den⟩) := by kernel_rfl
def s_eqStr : SC := (.seq (.reg [
   .o 4 (.mv (.const (.bool false)))])
 (.seq (.seq (.reg [
   .o 6 (.mv (.tmp 0)),
   .o 7 (.lenL (.tmp 6)),
   .o 8 (.mv (.tmp 1)),
   .o 9 (.lenL (.tmp 8)),
   .o 10 (.eql (.b .int) true (.tmp 7) (.tmp 9))])
 (.cond (.tmp 10)
  (.seq (.reg [
     .o 4 (.mv (.const (.bool false)))])
   .ret)
  .skip))
 (.seq (.seq (.reg [
   .o 11 (.mv (.tmp 0)),
   .o 12 (.lenL (.tmp 11)),
   .o 13 (.mv (.const (.int .i64 0)))])
 (.block 0
  (.loop
   (.seq (.reg [
     .o 14 (.ints .lss (.tmp 13) (.tmp 12))])
   (.seq (.cond (.tmp 14)
    .skip
    (.exit 0))
   (.seq (.block 1
    (.seq (.reg [
      .o 15 (.mv (.tmp 13)),
      .o 5 (.mv (.tmp 15))])
    (.seq (.dreg [
      .o 16 (.mv (.tmp 0)),
      .o 17 (.mv (.tmp 5)),
      .p 18 (.iaddr 1 (.tmp 16) (.tmp 17)) 3,
      ⟨(some 19), .load1 (.tmp 18), none, 7, false, false, (some (.tmp 18))⟩,
      .o 20 (.mv (.tmp 1)),
      .o 21 (.mv (.tmp 5)),
      .p 22 (.iaddr 1 (.tmp 20) (.tmp 21)) 48,
      ⟨(some 23), .load1 (.tmp 22), none, 112, false, false, (some (.tmp 22))⟩,
      .p 24 (.eql (.b .str) true (.tmp 19) (.tmp 23)) 255])
    (.cond (.tmp 24)
     (.seq (.reg [
        .o 4 (.mv (.const (.bool false)))])
      .ret)
     .skip))))
   (.reg [
     .o 25 (.ints .add (.tmp 13) (.const (.int .i64 1))),
     .o 13 (.mv (.tmp 25))])))))))
 (.seq (.reg [
   .o 4 (.mv (.const (.bool true)))])
 .ret))))
theorem x_eqStr : tblX Tryz.prog X0 28 = some (.fn ⟨26, [(4, none)], s_eqStr.den⟩) := by kernel_rfl
def s_eqInt : SC := (.seq (.reg [
   .o 4 (.mv (.const (.bool false)))])
 (.seq (.seq (.reg [
   .o 6 (.mv (.tmp 0)),
   .o 7 (.lenL (.tmp 6)),
   .o 8 (.mv (.tmp 1)),
   .o 9 (.lenL (.tmp 8)),
   .o 10 (.eql (.b .int) true (.tmp 7) (.tmp 9))])
 (.cond (.tmp 10)
  (.seq (.reg [
     .o 4 (.mv (.const (.bool false)))])
   .ret)
  .skip))
 (.seq (.seq (.reg [
   .o 11 (.mv (.tmp 0)),
   .o 12 (.lenL (.tmp 11)),
   .o 13 (.mv (.const (.int .i64 0)))])
 (.block 0
  (.loop
   (.seq (.reg [
     .o 14 (.ints .lss (.tmp 13) (.tmp 12))])
   (.seq (.cond (.tmp 14)
    .skip
    (.exit 0))
   (.seq (.block 1
    (.seq (.reg [
      .o 15 (.mv (.tmp 13)),
      .o 5 (.mv (.tmp 15))])
    (.seq (.dreg [
      .o 16 (.mv (.tmp 0)),
      .o 17 (.mv (.tmp 5)),
      .p 18 (.iaddr 1 (.tmp 16) (.tmp 17)) 3,
      ⟨(some 19), .load1 (.tmp 18), none, 7, false, false, (some (.tmp 18))⟩,
      .o 20 (.mv (.tmp 1)),
      .o 21 (.mv (.tmp 5)),
      .p 22 (.iaddr 1 (.tmp 20) (.tmp 21)) 48,
      ⟨(some 23), .load1 (.tmp 22), none, 112, false, false, (some (.tmp 22))⟩,
      .p 24 (.eql (.b .int) true (.tmp 19) (.tmp 23)) 255])
    (.cond (.tmp 24)
     (.seq (.reg [
        .o 4 (.mv (.const (.bool false)))])
      .ret)
     .skip))))
   (.reg [
     .o 25 (.ints .add (.tmp 13) (.const (.int .i64 1))),
     .o 13 (.mv (.tmp 25))])))))))
 (.seq (.reg [
   .o 4 (.mv (.const (.bool true)))])
 .ret))))
theorem x_eqInt : tblX Tryz.prog X0 76 = some (.fn ⟨26, [(4, none)], s_eqInt.den⟩) := by kernel_rfl
def s_eqMove : SC := (.seq (.reg [
   .o 4 (.mv (.const (.bool false)))])
 (.seq (.seq (.reg [
   .o 6 (.mv (.tmp 0)),
   .o 7 (.lenL (.tmp 6)),
   .o 8 (.mv (.tmp 1)),
   .o 9 (.lenL (.tmp 8)),
   .o 10 (.eql (.b .int) true (.tmp 7) (.tmp 9))])
 (.cond (.tmp 10)
  (.seq (.reg [
     .o 4 (.mv (.const (.bool false)))])
   .ret)
  .skip))
 (.seq (.seq (.reg [
   .o 11 (.mv (.tmp 0)),
   .o 12 (.lenL (.tmp 11)),
   .o 13 (.mv (.const (.int .i64 0)))])
 (.block 0
  (.loop
   (.seq (.reg [
     .o 14 (.ints .lss (.tmp 13) (.tmp 12))])
   (.seq (.cond (.tmp 14)
    .skip
    (.exit 0))
   (.seq (.block 1
    (.seq (.reg [
      .o 15 (.mv (.tmp 13)),
      .o 5 (.mv (.tmp 15))])
    (.seq (.dreg [
      .o 16 (.mv (.tmp 0)),
      .o 17 (.mv (.tmp 5)),
      .p 18 (.iaddr 3 (.tmp 16) (.tmp 17)) 3,
      ⟨(some 19), .loadN 3 (.tmp 18), none, 7, false, false, (some (.tmp 18))⟩,
      .o 20 (.mv (.tmp 1)),
      .o 21 (.mv (.tmp 5)),
      .p 22 (.iaddr 3 (.tmp 20) (.tmp 21)) 48,
      ⟨(some 23), .loadN 3 (.tmp 22), none, 112, false, false, (some (.tmp 22))⟩,
      .p 24 (.eql (.st [.int, .str, .int]) true (.tmp 19) (.tmp 23)) 255])
    (.cond (.tmp 24)
     (.seq (.reg [
        .o 4 (.mv (.const (.bool false)))])
      .ret)
     .skip))))
   (.reg [
     .o 25 (.ints .add (.tmp 13) (.const (.int .i64 1))),
     .o 13 (.mv (.tmp 25))])))))))
 (.seq (.reg [
   .o 4 (.mv (.const (.bool true)))])
 .ret))))
theorem x_eqMove : tblX Tryz.prog X0 29 = some (.fn ⟨26, [(4, none)], s_eqMove.den⟩) := by kernel_rfl
def s_eqNamedPair : SC := (.seq (.reg [
   .o 4 (.mv (.const (.bool false)))])
 (.seq (.seq (.reg [
   .o 6 (.mv (.tmp 0)),
   .o 7 (.lenL (.tmp 6)),
   .o 8 (.mv (.tmp 1)),
   .o 9 (.lenL (.tmp 8)),
   .o 10 (.eql (.b .int) true (.tmp 7) (.tmp 9))])
 (.cond (.tmp 10)
  (.seq (.reg [
     .o 4 (.mv (.const (.bool false)))])
   .ret)
  .skip))
 (.seq (.seq (.reg [
   .o 11 (.mv (.tmp 0)),
   .o 12 (.lenL (.tmp 11)),
   .o 13 (.mv (.const (.int .i64 0)))])
 (.block 0
  (.loop
   (.seq (.reg [
     .o 14 (.ints .lss (.tmp 13) (.tmp 12))])
   (.seq (.cond (.tmp 14)
    .skip
    (.exit 0))
   (.seq (.block 1
    (.seq (.reg [
      .o 15 (.mv (.tmp 13)),
      .o 5 (.mv (.tmp 15))])
    (.seq (.dreg [
      .o 16 (.mv (.tmp 0)),
      .o 17 (.mv (.tmp 5)),
      .p 18 (.iaddr 2 (.tmp 16) (.tmp 17)) 3,
      ⟨(some 19), .loadN 2 (.tmp 18), none, 7, false, false, (some (.tmp 18))⟩,
      .o 20 (.mv (.tmp 1)),
      .o 21 (.mv (.tmp 5)),
      .p 22 (.iaddr 2 (.tmp 20) (.tmp 21)) 48,
      ⟨(some 23), .loadN 2 (.tmp 22), none, 112, false, false, (some (.tmp 22))⟩,
      .p 24 (.eql (.st [.str, .str]) true (.tmp 19) (.tmp 23)) 255])
    (.cond (.tmp 24)
     (.seq (.reg [
        .o 4 (.mv (.const (.bool false)))])
      .ret)
     .skip))))
   (.reg [
     .o 25 (.ints .add (.tmp 13) (.const (.int .i64 1))),
     .o 13 (.mv (.tmp 25))])))))))
 (.seq (.reg [
   .o 4 (.mv (.const (.bool true)))])
 .ret))))
theorem x_eqNamedPair : tblX Tryz.prog X0 30 = some (.fn ⟨26, [(4, none)], s_eqNamedPair.den⟩) := by kernel_rfl
def s_eqField : SC := (.seq (.reg [
   .o 4 (.mv (.const (.bool false)))])
 (.seq (.seq (.reg [
   .o 6 (.mv (.tmp 0)),
   .o 7 (.lenL (.tmp 6)),
   .o 8 (.mv (.tmp 1)),
   .o 9 (.lenL (.tmp 8)),
   .o 10 (.eql (.b .int) true (.tmp 7) (.tmp 9))])
 (.cond (.tmp 10)
  (.seq (.reg [
     .o 4 (.mv (.const (.bool false)))])
   .ret)
  .skip))
 (.seq (.seq (.reg [
   .o 11 (.mv (.tmp 0)),
   .o 12 (.lenL (.tmp 11)),
   .o 13 (.mv (.const (.int .i64 0)))])
 (.block 0
  (.loop
   (.seq (.reg [
     .o 14 (.ints .lss (.tmp 13) (.tmp 12))])
   (.seq (.cond (.tmp 14)
    .skip
    (.exit 0))
   (.seq (.block 1
    (.seq (.reg [
      .o 15 (.mv (.tmp 13)),
      .o 5 (.mv (.tmp 15))])
    (.seq (.dreg [
      .o 16 (.mv (.tmp 0)),
      .o 17 (.mv (.tmp 5)),
      .p 18 (.iaddr 2 (.tmp 16) (.tmp 17)) 3,
      ⟨(some 19), .loadN 2 (.tmp 18), none, 7, false, false, (some (.tmp 18))⟩,
      .o 20 (.mv (.tmp 1)),
      .o 21 (.mv (.tmp 5)),
      .p 22 (.iaddr 2 (.tmp 20) (.tmp 21)) 48,
      ⟨(some 23), .loadN 2 (.tmp 22), none, 112, false, false, (some (.tmp 22))⟩,
      .p 24 (.eql (.st [.str, .str]) true (.tmp 19) (.tmp 23)) 255])
    (.cond (.tmp 24)
     (.seq (.reg [
        .o 4 (.mv (.const (.bool false)))])
      .ret)
     .skip))))
   (.reg [
     .o 25 (.ints .add (.tmp 13) (.const (.int .i64 1))),
     .o 13 (.mv (.tmp 25))])))))))
 (.seq (.reg [
   .o 4 (.mv (.const (.bool true)))])
 .ret))))
theorem x_eqField : tblX Tryz.prog X0 38 = some (.fn ⟨26, [(4, none)], s_eqField.den⟩) := by kernel_rfl
end Go.Proofs.YtaioinkajndjkaaGreatDoor.Ev