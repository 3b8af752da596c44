/- The code of the functions, as the evaluator has it (printed by a program). -/
import Derived.Test.YtmdceifbbmnfgaaGreatDoorProg
import Derived.Test.YtmdceifbbmnfgaaGreatDoorSyI
import Derived.Test.YtmdceifbbmnfgaaGreatDoorTgO
import Derived.Test.YtmdceifbbmnfgaaGreatDoorIx
import Derived.KernelRfl
set_option linter.unusedVariables false
set_option linter.unusedSimpArgs false
set_option maxHeartbeats 4000000
namespace Go.Proofs.YtmdceifbbmnfgaaGreatDoor.Ev
open Go
def SR.o (d : Nat) (x : SO) : SR := ⟨some d, x, none, 0, false, false, none⟩
def SR.p (d : Nat) (x : SO) (p : Nat) : SR := ⟨some d, x, none, p, false, false, none⟩
def SR.g (d : Nat) (x : SO) (g : Nat) (b : Bool) (p : Nat) : SR := ⟨some d, x, some (g, b), p, false, false, none⟩
/-- calls whose answers are known -/
def knM : Mf := MK knF hStart
theorem knM_no {f : Nat} (q : Nat.beq f knF = false) (args : List AV) (c : C) (h : H) : knM f args c h = none := MK_other q args c h
def srF : Nat := 44
def cpF : Nat := 45
def bsF : Nat := 25
def Mx : Mf := orM knM (orM (sortSM srF) (orM (compSM cpF) (findSM bsF)))
def knNo (f : Nat) : Bool := !Nat.beq f knF && (!Nat.beq f srF && (!Nat.beq f cpF && !Nat.beq f bsF))
theorem Mx_no {f : Nat} (q : knNo f = true) (args : List AV) (c : C) (h : H) : Mx f args c h = none := by
  unfold knNo at q
  simp only [Bool.and_eq_true, Bool.not_eq_true'] at q
  exact orM_none (knM_no q.1 args c h) (orM_none (sortSM_no q.2.1 args c h) (orM_none (compSM_no q.2.2.1 args c h) (findSM_no q.2.2.2 args c h)))
instance (n : Nat) : OfNat XV n := ⟨.tmp n⟩
abbrev XV.n (n : Int) : XV := .const (.int .i64 n)
abbrev XV.ff : XV := .const (.bool false)
abbrev XV.tt : XV := .const (.bool true)
abbrev XV.nl : XV := .const .nils
abbrev XV.f (f : Nat) : XV := .const (.fn f [])
abbrev XV.t (s : List Nat) : XV := .const (.str s)
def SR.l (d : Nat) (x : SO) (p : Nat) (f : XV) : SR := ⟨some d, x, none, p, false, false, some f⟩
def SR.m (d : Nat) (x : SO) : SR := ⟨some d, x, none, 0, true, false, none⟩
def SR.c (d : Nat) (x : SO) (p : Nat) : SR := ⟨some d, x, none, p, true, true, none⟩
def SR.s (x : SO) : SR := ⟨none, x, none, 0, true, false, none⟩
def SR.S (x : SO) (p : Nat) : SR := ⟨none, x, none, p, true, true, none⟩
abbrev SR.v (d : Nat) (x : XV) : SR := ⟨some d, .mv x, none, 0, false, false, none⟩
abbrev SR.w (d : Nat) (x : XV) (p : Nat) : SR := ⟨some d, .mv x, none, p, false, false, none⟩
abbrev SR.a (d o : Nat) (x : XV) : SR := ⟨some d, .faddr o x, none, 0, false, false, none⟩
abbrev SR.r (d : Nat) (x : XV) : SR := ⟨some d, .load1 x, none, 0, false, false, none⟩
abbrev SR.b (d : Nat) (x : XV) : SR := ⟨some d, .box x, none, 0, false, false, none⟩
abbrev SR.y (d e : Nat) (x y : XV) : SR := ⟨some d, .iaddr e x y, none, 0, false, false, none⟩
abbrev SR.i (d : Nat) (f : SI) (x y : XV) : SR := ⟨some d, .ints f x y, none, 0, false, false, none⟩
abbrev SR.L (d : Nat) (x : XV) (p : Nat) : SR := ⟨some d, .load1 x, none, p, false, false, some x⟩
abbrev SC.q (l : List SR) (b : SC) : SC := .seq (.reg l) b
def s_law : SC := (.q [
 .b 2 0,
 .b 3 1,
 .v 4 .ff] (.seq (.q [
 .o 5 (.loadN 3 2),
 .m 6 (.call (.f 4) [5, (.n 70)]),
 .o 7 (.not 6)] (.cond 7
 (.q [
 .v 4 .tt]
 .ret)
 .skip))
 (.seq (.dreg [
 .l 8 (.loadN 3 2) 0 2,
 .a 9 0 3,
 .L 10 9 2,
 .a 11 1 3,
 .L 12 11 8,
 .c 13 (.call (.f 5) [8, 10, 12]) 31,
 .l 14 (.loadN 3 2) 0 2,
 .a 15 0 3,
 .L 16 15 128,
 .a 17 1 3,
 .L 18 17 512,
 .c 19 (.call (.f 6) [14, 16, 18]) 2047,
 .p 20 (.eql (.b .int) false 13 19) 4095,
 .w 21 20 8191,
 ⟨(some 22), .loadN 3 2, (some (21, true)), 16383, false, false, (some 2)⟩,
 .g 23 (.faddr 2 3) 21 true 16383,
 ⟨(some 24), .loadN 2 23, (some (21, true)), 49151, false, false, (some 23)⟩,
 ⟨(some 25), .call (.f 7) [22, 24], (some (21, true)), 131071, true, true, none⟩,
 ⟨(some 26), .loadN 3 2, (some (21, true)), 16383, false, false, (some 2)⟩,
 .g 27 (.faddr 2 3) 21 true 16383,
 ⟨(some 28), .loadN 2 27, (some (21, true)), 540671, false, false, (some 27)⟩,
 ⟨(some 29), .call (.f 8) [26, 28], (some (21, true)), 2097151, true, true, none⟩,
 .g 30 (.eql (.b .int) false 25 29) 21 true 4194303,
 .p 31 (.pick 21 30 .ff) 8388607,
 .w 32 31 16777215,
 ⟨(some 33), .call (.f 9) [], (some (32, true)), 33554431, true, true, none⟩,
 .p 34 (.pick 32 33 .ff) 67108863,
 .w 4 34 134217727])
 .ret)))
theorem x_law : tblX Tryz.prog X0 3 = some (.fn ⟨35, [(4, none)], s_law.den⟩) := by kernel_rfl
def s_Small : SC := (.q [
 .b 2 0,
 .v 4 .ff] (.seq (.q [
 .o 8 (.loadN 3 2),
 .v 9 1,
 .m 10 (.call (.f 10) [8, 9]),
 .o 11 (.not 10)] (.cond 11
 (.q [
 .v 4 .ff]
 .ret)
 .skip))
 (.q [
 .o 13 (.loadN 3 2),
 .m 14 (.call (.f 11) [13]),
 .v 12 14,
 .o 15 (.extr 12 0),
 .o 16 (.extr 12 1),
 .o 17 (.extr 12 2),
 .v 5 15,
 .v 6 16,
 .v 7 17] (.q [
 .v 18 7,
 .o 19 (.eql (.b .int) false 18 (.n 0)),
 .v 4 19]
 .ret))))
theorem x_Small : tblX Tryz.prog X0 4 = some (.fn ⟨20, [(4, none)], s_Small.den⟩) := by kernel_rfl
def s_Fit : SC := (.q [
 .b 2 0,
 .v 4 .ff] (.seq (.q [
 .a 12 1 2,
 .r 13 12,
 .o 14 (.lenL 13),
 .i 15 .gtr 14 (.n 20),
 .v 16 15,
 .g 17 (.faddr 0 2) 16 false 0,
 .g 18 (.faddr 0 17) 16 false 0,
 .g 19 (.load1 18) 16 false 0,
 .g 20 (.lenL 19) 16 false 0,
 .g 21 (.ints .gtr 20 (.n 12)) 16 false 0,
 .o 22 (.pick 16 .tt 21)] (.cond 22
 (.q [
 .v 4 .ff]
 .ret)
 .skip))
 (.seq (.q [
 .v 5 (.n 0)] (.block 0
 (.loop
 (.seq (.q [
 .v 23 5,
 .a 24 0 2,
 .a 25 0 24,
 .r 26 25,
 .o 27 (.lenL 26),
 .i 28 .lss 23 27] (.cond 28
 .skip
 (.exit 0)))
 (.seq (.block 1
 (.q [
 .a 31 0 2,
 .a 32 0 31,
 .r 33 32,
 .v 34 5,
 .y 35 4 33 34,
 .o 36 (.loadN 4 35),
 .o 6 (.box (.const (.agg [(.str []), (.str []), .nils, .nils]))),
 .s (.store 4 6 36)] (.seq (.q [
 .a 37 2 6,
 .r 38 37,
 .o 39 (.lenL 38),
 .i 40 .gtr 39 (.n 20),
 .v 41 40,
 .g 42 (.faddr 3 6) 41 false 0,
 .g 43 (.load1 42) 41 false 0,
 .g 44 (.lenL 43) 41 false 0,
 .g 45 (.ints .gtr 44 (.n 20)) 41 false 0,
 .o 46 (.pick 41 .tt 45)] (.cond 46
 (.q [
 .v 4 .ff]
 .ret)
 .skip))
 (.q [
 .v 7 (.n 0)] (.block 2
 (.loop
 (.seq (.q [
 .v 47 7,
 .a 48 3 6,
 .r 49 48,
 .o 50 (.lenL 49),
 .i 51 .lss 47 50] (.cond 51
 .skip
 (.exit 2)))
 (.seq (.block 3
 (.q [
 .a 54 3 6,
 .r 55 54,
 .v 56 7,
 .y 57 4 55 56,
 .a 58 2 57,
 .r 59 58,
 .o 60 (.lenL 59),
 .i 61 .gtr 60 (.n 20)] (.cond 61
 (.q [
 .v 4 .ff]
 .ret)
 .skip)))
 (.reg [
 .v 52 7,
 .i 53 .add 52 (.n 1),
 .v 7 53])))))))))
 (.reg [
 .v 29 5,
 .i 30 .add 29 (.n 1),
 .v 5 30]))))))
 (.q [
 .v 8 (.n 0)] (.seq (.q [
 .v 9 (.n 0)] (.block 4
 (.loop
 (.seq (.q [
 .v 62 9,
 .a 63 1 2,
 .r 64 63,
 .o 65 (.lenL 64),
 .i 66 .lss 62 65] (.cond 66
 .skip
 (.exit 4)))
 (.seq (.block 5
 (.q [
 .a 69 1 2,
 .r 70 69,
 .v 71 9,
 .y 72 7 70 71,
 .a 73 6 72,
 .r 74 73,
 .v 10 74] (.seq (.q [
 .v 75 10,
 .o 76 (.lenL 75),
 .v 77 1,
 .i 78 .gtr 76 77,
 .v 79 78,
 .g 80 (.faddr 1 2) 79 false 0,
 .g 81 (.load1 80) 79 false 0,
 .g 82 (.mv 9) 79 false 0,
 .g 83 (.iaddr 7 81 82) 79 false 0,
 .g 84 (.faddr 4 83) 79 false 0,
 .g 85 (.load1 84) 79 false 0,
 .g 86 (.lenL 85) 79 false 0,
 .g 87 (.mv 1) 79 false 0,
 .g 88 (.ints .gtr 86 87) 79 false 0,
 .o 89 (.pick 79 .tt 88)] (.cond 89
 (.q [
 .v 4 .ff]
 .ret)
 .skip))
 (.q [
 .v 90 8,
 .v 91 10,
 .o 92 (.lenL 91),
 .i 93 .add 90 92,
 .v 8 93] (.q [
 .v 11 (.n 0)] (.block 6
 (.loop
 (.seq (.q [
 .v 94 11,
 .v 95 10,
 .o 96 (.lenL 95),
 .i 97 .lss 94 96] (.cond 97
 .skip
 (.exit 6)))
 (.seq (.block 7
 (.q [
 .v 100 10,
 .v 101 11,
 .y 102 10 100 101,
 .a 103 7 102,
 .r 104 103,
 .o 105 (.lenL 104),
 .i 106 .gtr 105 (.n 20)] (.cond 106
 (.q [
 .v 4 .ff]
 .ret)
 .skip)))
 (.reg [
 .v 98 11,
 .i 99 .add 98 (.n 1),
 .v 11 99]))))))))))
 (.reg [
 .v 67 9,
 .i 68 .add 67 (.n 1),
 .v 9 68]))))))
 (.q [
 .v 107 8,
 .v 108 1,
 .i 109 .leq 107 108,
 .v 4 109]
 .ret))))))
theorem x_Fit : tblX Tryz.prog X0 10 = some (.fn ⟨110, [(4, none)], s_Fit.den⟩) := by kernel_rfl
def s_tVarFact : SC := (.q [
 .b 3 0,
 .v 6 (.n 0)] (.q [
 .o 7 (.loadN 3 3),
 .v 8 1,
 .v 9 2,
 .m 10 (.call (.f 12) [7, 8, 9]),
 .v 6 10]
 .ret))
theorem x_tVarFact : tblX Tryz.prog X0 5 = some (.fn ⟨11, [(6, none)], s_tVarFact.den⟩) := by kernel_rfl
def s_rVarFact : SC := (.q [
 .b 3 0,
 .v 6 (.n 0)] (.q [
 .o 7 (.loadN 3 3),
 .v 8 1,
 .v 9 2,
 .m 10 (.call (.f 13) [7, 8, 9]),
 .v 6 10]
 .ret))
theorem x_rVarFact : tblX Tryz.prog X0 6 = some (.fn ⟨11, [(6, none)], s_rVarFact.den⟩) := by kernel_rfl
def s_tCellFact : SC := (.q [
 .b 2 0,
 .b 3 1,
 .v 4 (.n 0)] (.seq (.dreg [
 .l 5 (.loadN 3 2) 0 2,
 .c 6 (.call (.f 14) [5]) 1,
 .l 7 (.loadN 2 3) 0 3,
 .c 8 (.call (.f 15) [6, 7]) 7,
 .w 4 8 15])
 .ret))
theorem x_tCellFact : tblX Tryz.prog X0 7 = some (.fn ⟨9, [(4, none)], s_tCellFact.den⟩) := by kernel_rfl
def s_rCellFact : SC := (.q [
 .b 2 0,
 .b 3 1,
 .v 4 (.n 0)] (.q [
 .o 7 (.loadN 3 2),
 .m 8 (.call (.f 16) [7]),
 .v 5 8] (.seq (.q [
 .v 6 (.n 0)] (.block 0
 (.loop
 (.seq (.q [
 .v 9 6,
 .v 10 5,
 .o 11 (.lenL 10),
 .i 12 .lss 9 11] (.cond 12
 .skip
 (.exit 0)))
 (.seq (.block 1
 (.seq (.dreg [
 .v 15 5,
 .v 16 6,
 .p 17 (.iaddr 2 15 16) 3,
 .l 18 (.loadN 2 17) 7 17,
 .l 19 (.loadN 2 3) 0 3,
 .p 20 (.eql (.st [.int, .str]) false 18 19) 31])
 (.cond 20
 (.q [
 .o 21 (.loadN 3 2),
 .m 22 (.call (.f 17) [21]),
 .v 23 6,
 .i 24 .add 22 23,
 .v 4 24]
 .ret)
 .skip)))
 (.reg [
 .v 13 6,
 .i 14 .add 13 (.n 1),
 .v 6 14]))))))
 (.q [
 .o 4 (.mv (.const (.int .i64 (-1))))]
 .ret))))
theorem x_rCellFact : tblX Tryz.prog X0 8 = some (.fn ⟨25, [(4, none)], s_rCellFact.den⟩) := by kernel_rfl
def s_R13Check : SC := (.q [
 .b 1 0,
 .v 2 (.n 0),
 .v 3 (.n 0),
 .v 4 (.n 0)] (.q [
 .o 5 (.loadN 3 1),
 .m 6 (.call (.f 21) [5]),
 .o 7 (.extr 6 0),
 .o 8 (.extr 6 1),
 .o 9 (.extr 6 2),
 .v 2 7,
 .v 3 8,
 .v 4 9]
 .ret))
theorem x_R13Check : tblX Tryz.prog X0 11 = some (.fn ⟨10, [(2, none), (3, none), (4, none)], s_R13Check.den⟩) := by kernel_rfl
def s_uFact : SC := (.q [
 .b 3 0,
 .v 6 (.n 0)] (.seq (.q [
 .v 10 1,
 .i 11 .lss 10 (.n 0),
 .v 12 11,
 .g 13 (.mv 1) 12 false 0,
 .g 14 (.faddr 1 3) 12 false 0,
 .g 15 (.load1 14) 12 false 0,
 .g 16 (.lenL 15) 12 false 0,
 .g 17 (.ints .geq 13 16) 12 false 0,
 .o 18 (.pick 12 .tt 17),
 .v 19 18,
 .g 20 (.mv 2) 19 false 0,
 .g 21 (.ints .lss 20 (.n 0)) 19 false 0,
 .o 22 (.pick 19 .tt 21),
 .v 23 22,
 .g 24 (.mv 2) 23 false 0,
 .g 25 (.faddr 1 3) 23 false 0,
 .g 26 (.load1 25) 23 false 0,
 .g 27 (.mv 1) 23 false 0,
 .g 28 (.iaddr 7 26 27) 23 false 0,
 .g 29 (.faddr 4 28) 23 false 0,
 .g 30 (.load1 29) 23 false 0,
 .g 31 (.lenL 30) 23 false 0,
 .g 32 (.ints .add 31 (.n 1)) 23 false 0,
 .g 33 (.ints .gtr 24 32) 23 false 0,
 .o 34 (.pick 23 .tt 33)] (.cond 34
 (.q [
 .o 6 (.mv (.const (.int .i64 (-1))))]
 .ret)
 .skip))
 (.q [
 .v 35 2,
 .i 36 .add (.n 1) 35,
 .v 7 36] (.seq (.q [
 .a 37 1 3,
 .r 38 37,
 .v 39 1,
 .o 40 (.slice 7 38 none (some 39)),
 .o 41 (.lenL 40),
 .v 42 (.n 0)] (.block 0
 (.loop
 (.q [
 .i 43 .lss 42 41] (.seq (.cond 43
 .skip
 (.exit 0))
 (.seq (.block 1
 (.q [
 .y 44 7 40 42,
 .o 45 (.loadN 7 44),
 .o 9 (.box (.const (.agg [(.str []), (.str []), (.bool false), (.int .i64 0), .nils, (.str []), .nils]))),
 .s (.store 7 9 45)] (.reg [
 .v 46 7,
 .a 47 4 9,
 .r 48 47,
 .o 49 (.lenL 48),
 .i 50 .add 49 (.n 2),
 .i 51 .add 46 50,
 .v 7 51])))
 (.reg [
 .i 52 .add 42 (.n 1),
 .v 42 52])))))))
 (.q [
 .v 53 7,
 .v 6 53]
 .ret)))))
theorem x_uFact : tblX Tryz.prog X0 12 = some (.fn ⟨54, [(6, none)], s_uFact.den⟩) := by kernel_rfl
def s_rFact : SC := (.q [
 .b 3 0,
 .v 6 (.n 0)] (.seq (.q [
 .v 7 1,
 .i 8 .lss 7 (.n 0),
 .v 9 8,
 .g 10 (.mv 1) 9 false 0,
 .g 11 (.faddr 1 3) 9 false 0,
 .g 12 (.load1 11) 9 false 0,
 .g 13 (.lenL 12) 9 false 0,
 .g 14 (.ints .geq 10 13) 9 false 0,
 .o 15 (.pick 9 .tt 14),
 .v 16 15,
 .g 17 (.mv 2) 16 false 0,
 .g 18 (.ints .lss 17 (.n 0)) 16 false 0,
 .o 19 (.pick 16 .tt 18),
 .v 20 19,
 .g 21 (.mv 2) 20 false 0,
 .g 22 (.faddr 1 3) 20 false 0,
 .g 23 (.load1 22) 20 false 0,
 .g 24 (.mv 1) 20 false 0,
 .g 25 (.iaddr 7 23 24) 20 false 0,
 .g 26 (.faddr 4 25) 20 false 0,
 .g 27 (.load1 26) 20 false 0,
 .g 28 (.lenL 27) 20 false 0,
 .g 29 (.ints .add 28 (.n 1)) 20 false 0,
 .g 30 (.ints .gtr 21 29) 20 false 0,
 .o 31 (.pick 20 .tt 30)] (.cond 31
 (.q [
 .o 6 (.mv (.const (.int .i64 (-1))))]
 .ret)
 .skip))
 (.q [
 .o 32 (.loadN 3 3),
 .v 33 1,
 .m 34 (.call (.f 22) [32, 33]),
 .i 35 .add (.n 1) 34,
 .v 36 2,
 .i 37 .add 35 36,
 .v 6 37]
 .ret)))
theorem x_rFact : tblX Tryz.prog X0 13 = some (.fn ⟨38, [(6, none)], s_rFact.den⟩) := by kernel_rfl
def s_newLayout : SC := (.q [
 .b 1 0,
 .o 2 (.box (.const (.agg [.nils, .nils, (.int .i64 0), .nils, .nilm, (.int .i64 0), .nils, (.int .i64 0)])))] (.seq (.dreg [
 .l 10 (.loadN 3 1) 0 1,
 .l 11 (.loadN 3 1) 0 1,
 .c 12 (.call (.f 23) [11]) 2,
 .o 13 (.mkmap),
 .p 14 (.build [.nils, .nils, (.int .i64 0), .nils, .nilm, (.int .i64 0), .nils, (.int .i64 0)] [(0, 3, 10), (3, 1, 12), (4, 1, 13), (5, 1, (.n 1))]) 15,
 .o 3 (.box (.const (.agg [.nils, .nils, (.int .i64 0), .nils, .nilm, (.int .i64 0), .nils, (.int .i64 0)]))),
 .S (.store 8 3 14) 63])
 (.seq (.q [
 .a 15 1 1,
 .r 16 15,
 .o 17 (.lenL 16),
 .v 18 (.n 0)] (.block 0
 (.loop
 (.q [
 .i 19 .lss 18 17] (.seq (.cond 19
 .skip
 (.exit 0))
 (.seq (.block 1
 (.q [
 .y 20 7 16 18,
 .o 21 (.loadN 7 20),
 .o 5 (.box (.const (.agg [(.str []), (.str []), (.bool false), (.int .i64 0), .nils, (.str []), .nils]))),
 .s (.store 7 5 21)] (.reg [
 .a 22 5 3,
 .r 23 22,
 .a 24 4 5,
 .r 25 24,
 .o 26 (.lenL 25),
 .i 27 .add 26 (.n 2),
 .i 28 .add 23 27,
 .a 29 5 3,
 .s (.store 1 29 28)])))
 (.reg [
 .i 30 .add 18 (.n 1),
 .v 18 30])))))))
 (.q [
 .a 31 5 3,
 .r 32 31,
 .a 33 7 3,
 .s (.store 1 33 32)] (.seq (.q [
 .a 34 3 3,
 .r 35 34,
 .o 36 (.lenL 35),
 .v 37 (.n 0)] (.block 2
 (.loop
 (.q [
 .i 38 .lss 37 36] (.seq (.cond 38
 .skip
 (.exit 2))
 (.seq (.block 3
 (.q [
 .y 39 3 35 37,
 .o 40 (.loadN 3 39),
 .o 7 (.box (.const (.agg [(.int .i64 0), (.int .i64 0), (.str [])]))),
 .s (.store 3 7 40)] (.q [
 .a 42 4 3,
 .r 43 42,
 .a 44 2 7,
 .r 45 44,
 .o 46 (.lookup (.b .str) .nils 43 45 true),
 .v 41 46,
 .o 47 (.extr 41 0),
 .o 48 (.extr 41 1),
 .v 8 47,
 .v 9 48] (.seq (.q [
 .v 49 9,
 .o 50 (.not 49)] (.cond 50
 (.q [
 .a 51 0 1,
 .o 52 (.loadN 1 51),
 .a 53 2 7,
 .r 54 53,
 .m 55 (.call (.f 24) [52, 54]),
 .v 8 55] (.reg [
 .a 56 4 3,
 .r 57 56,
 .a 58 2 7,
 .r 59 58,
 .v 60 8,
 .s (.mapup (.b .str) 57 59 60)]))
 .skip))
 (.q [
 .a 61 6 3,
 .r 62 61,
 .a 63 7 3,
 .r 64 63,
 .o 65 (.bslice 1 [(.int .i64 0)] [(0, 1, 64)]),
 .m 66 (.append 1 62 65),
 .a 67 6 3,
 .s (.store 1 67 66)] (.reg [
 .a 68 7 3,
 .r 69 68,
 .v 70 8,
 .o 71 (.lenL 70),
 .i 72 .add 69 71,
 .a 73 7 3,
 .s (.store 1 73 72)]))))))
 (.reg [
 .i 74 .add 37 (.n 1),
 .v 37 74])))))))
 (.q [
 .o 75 (.loadN 8 3),
 .s (.store 8 2 75)]
 .ret))))))
theorem x_newLayout : tblX Tryz.prog X0 14 = some (.fn ⟨76, [(2, some (some 8))], s_newLayout.den⟩) := by kernel_rfl
def s_cell : SC := (.q [
 .b 2 0,
 .b 3 1,
 .v 4 (.n 0)] (.seq (.q [
 .a 7 0 3,
 .r 8 7,
 .i 9 .lss 8 (.n 0),
 .v 10 9,
 .g 11 (.faddr 0 3) 10 false 0,
 .g 12 (.load1 11) 10 false 0,
 .g 13 (.faddr 3 2) 10 false 0,
 .g 14 (.load1 13) 10 false 0,
 .g 15 (.lenL 14) 10 false 0,
 .g 16 (.ints .geq 12 15) 10 false 0,
 .o 17 (.pick 10 .tt 16)] (.cond 17
 (.q [
 .o 4 (.mv (.const (.int .i64 (-1))))]
 .ret)
 .skip))
 (.seq (.dreg [
 .a 19 4 2,
 .L 20 19 1,
 .a 21 3 2,
 .L 22 21 4,
 .a 23 0 3,
 .L 24 23 16,
 .p 25 (.iaddr 3 22 24) 60,
 .p 26 (.faddr 2 25) 124,
 .L 27 26 252,
 .l 28 (.lookup (.b .str) .nils 20 27 false) 511 20,
 .a 29 1 3,
 .L 30 29 1024,
 .c 31 (.call (.f 25) [28, 30]) 4095,
 .w 18 31 8191,
 .p 32 (.extr 18 0) 16383,
 .p 33 (.extr 18 1) 16383,
 .w 5 32 32767,
 .w 6 33 131071])
 (.seq (.q [
 .v 34 6,
 .o 35 (.not 34)] (.cond 35
 (.q [
 .o 4 (.mv (.const (.int .i64 (-1))))]
 .ret)
 .skip))
 (.q [
 .a 36 6 2,
 .r 37 36,
 .a 38 0 3,
 .r 39 38,
 .y 40 1 37 39,
 .r 41 40,
 .v 42 5,
 .i 43 .add 41 42,
 .v 4 43]
 .ret)))))
theorem x_cell : tblX Tryz.prog X0 15 = some (.fn ⟨44, [(4, none)], s_cell.den⟩) := by kernel_rfl
def s_Cells : SC := (.q [
 .b 1 0,
 .v 2 .nl] (.q [
 .v 3 .nl] (.q [
 .o 8 (.loadN 3 1),
 .m 9 (.call (.f 26) [8]),
 .v 4 9] (.seq (.q [
 .v 5 (.n 0)] (.block 0
 (.loop
 (.seq (.q [
 .v 10 5,
 .v 11 4,
 .o 12 (.lenL 11),
 .i 13 .lss 10 12] (.cond 13
 .skip
 (.exit 0)))
 (.seq (.block 1
 (.seq (.dreg [
 .l 16 (.loadN 3 1) 0 1,
 .v 17 4,
 .v 18 5,
 .p 19 (.iaddr 3 17 18) 6,
 .p 20 (.faddr 2 19) 14,
 .L 21 20 30,
 .c 22 (.call (.f 27) [16, 21]) 63,
 .w 6 22 127])
 (.q [
 .v 7 (.n 0)] (.block 2
 (.loop
 (.seq (.q [
 .v 23 7,
 .v 24 6,
 .o 25 (.lenL 24),
 .i 26 .lss 23 25] (.cond 26
 .skip
 (.exit 2)))
 (.seq (.block 3
 (.reg [
 .v 29 3,
 .v 30 5,
 .v 31 6,
 .v 32 7,
 .y 33 1 31 32,
 .r 34 33,
 .o 35 (.build [(.int .i64 0), (.str [])] [(0, 1, 30), (1, 1, 34)]),
 .o 36 (.bslice 1 [(.int .i64 0), (.str [])] [(0, 2, 35)]),
 .m 37 (.append 2 29 36),
 .v 3 37]))
 (.reg [
 .v 27 7,
 .i 28 .add 27 (.n 1),
 .v 7 28]))))))))
 (.reg [
 .v 14 5,
 .i 15 .add 14 (.n 1),
 .v 5 15]))))))
 (.q [
 .v 38 3,
 .v 2 38]
 .ret)))))
theorem x_Cells : tblX Tryz.prog X0 16 = some (.fn ⟨39, [(2, none)], s_Cells.den⟩) := by kernel_rfl
def s_Count : SC := (.q [
 .b 1 0,
 .v 2 (.n 0)] (.q [
 .o 3 (.loadN 3 1),
 .a 4 1 1,
 .r 5 4,
 .o 6 (.lenL 5),
 .m 7 (.call (.f 22) [3, 6]),
 .i 8 .add (.n 1) 7,
 .v 2 8]
 .ret))
theorem x_Count : tblX Tryz.prog X0 17 = some (.fn ⟨9, [(2, none)], s_Count.den⟩) := by kernel_rfl
def s_R12Check : SC := (.q [
 .b 1 0,
 .v 2 (.n 0),
 .v 3 (.n 0),
 .v 4 (.n 0)] (.q [
 .o 14 (.loadN 3 1),
 .m 15 (.call (.f 39) [14]),
 .v 5 15] (.seq (.q [
 .v 16 5,
 .o 17 (.eql (.b .int) true 16 (.n 0))] (.cond 17
 (.q [
 .v 18 5,
 .o 2 (.mv (.const (.int .i64 (-1)))),
 .o 3 (.mv (.const (.int .i64 (-1)))),
 .v 4 18]
 .ret)
 .skip))
 (.q [
 .v 6 (.n 0)] (.seq (.q [
 .v 7 (.n 0)] (.block 0
 (.loop
 (.seq (.q [
 .v 19 7,
 .a 20 1 1,
 .r 21 20,
 .o 22 (.lenL 21),
 .i 23 .lss 19 22] (.cond 23
 .skip
 (.exit 0)))
 (.seq (.block 1
 (.q [
 .a 27 0 1,
 .o 28 (.loadN 1 27),
 .v 29 7,
 .m 30 (.call (.f 40) [28, 29]),
 .v 26 30,
 .o 31 (.extr 26 0),
 .o 32 (.extr 26 1),
 .o 33 (.extr 26 2),
 .o 9 (.box (.const (.agg [(.str []), (.bool false), .nils, (.str [])]))),
 .v 8 31,
 .s (.store 4 9 32),
 .v 10 33] (.seq (.dreg [
 .a 35 0 1,
 .l 36 (.loadN 1 35) 1 35,
 .a 37 1 1,
 .L 38 37 4,
 .v 39 7,
 .p 40 (.iaddr 7 38 39) 28,
 .l 41 (.loadN 7 40) 60 40,
 .v 42 8,
 .l 43 (.loadN 4 9) 0 9,
 .c 44 (.call (.f 41) [36, 41, 42, 43]) 511,
 .w 34 44 1023,
 .p 45 (.extr 34 0) 2047,
 .p 46 (.extr 34 1) 2047,
 .w 11 45 4095,
 .w 12 46 16383])
 (.seq (.q [
 .v 47 12,
 .o 48 (.eql (.b .int) true 47 (.n 0))] (.cond 48
 (.q [
 .v 49 7,
 .v 50 11,
 .v 51 12,
 .v 2 49,
 .v 3 50,
 .v 4 51]
 .ret)
 .skip))
 (.q [
 .v 13 (.n 0)] (.block 2
 (.loop
 (.seq (.q [
 .v 52 13,
 .a 53 1 1,
 .r 54 53,
 .v 55 7,
 .y 56 7 54 55,
 .a 57 6 56,
 .r 58 57,
 .o 59 (.lenL 58),
 .i 60 .lss 52 59] (.cond 60
 .skip
 (.exit 2)))
 (.seq (.block 3
 (.q [
 .a 63 1 1,
 .r 64 63,
 .v 65 7,
 .y 66 7 64 65,
 .a 67 6 66,
 .r 68 67,
 .v 69 13,
 .y 70 10 68 69,
 .a 71 0 70,
 .r 72 71,
 .o 73 (.eql (.b .int) false 72 (.n 6))] (.cond 73
 (.reg [
 .v 74 6,
 .i 75 .add 74 (.n 1),
 .v 6 75])
 .skip)))
 (.reg [
 .v 61 13,
 .i 62 .add 61 (.n 1),
 .v 13 62]))))))))))
 (.reg [
 .v 24 7,
 .i 25 .add 24 (.n 1),
 .v 7 25]))))))
 (.seq (.q [
 .v 76 6,
 .i 77 .gtr 76 (.n 1024)] (.cond 77
 (.q [
 .o 2 (.mv (.const (.int .i64 (-1)))),
 .o 3 (.mv (.const (.int .i64 (-1)))),
 .v 4 (.n 3)]
 .ret)
 .skip))
 (.q [
 .v 2 (.n 0),
 .v 3 (.n 0),
 .v 4 (.n 0)]
 .ret)))))))
theorem x_R12Check : tblX Tryz.prog X0 21 = some (.fn ⟨78, [(2, none), (3, none), (4, none)], s_R12Check.den⟩) := by kernel_rfl
def s_offset : SC := (.q [
 .b 2 0,
 .v 4 (.n 0)] (.q [
 .v 5 (.n 0)] (.seq (.q [
 .v 6 (.n 0)] (.block 0
 (.loop
 (.seq (.q [
 .v 7 6,
 .v 8 1,
 .i 9 .lss 7 8] (.cond 9
 .skip
 (.exit 0)))
 (.seq (.block 1
 (.reg [
 .v 12 5,
 .a 13 1 2,
 .r 14 13,
 .v 15 6,
 .y 16 7 14 15,
 .a 17 4 16,
 .r 18 17,
 .o 19 (.lenL 18),
 .i 20 .add 12 19,
 .i 21 .add 20 (.n 2),
 .v 5 21]))
 (.reg [
 .v 10 6,
 .i 11 .add 10 (.n 1),
 .v 6 11]))))))
 (.q [
 .v 22 5,
 .v 4 22]
 .ret))))
theorem x_offset : tblX Tryz.prog X0 22 = some (.fn ⟨23, [(4, none)], s_offset.den⟩) := by kernel_rfl
def s_oSites : SC := (.q [
 .b 1 0,
 .v 2 .nl] (.q [
 .v 3 .nl] (.seq (.q [
 .a 8 1 1,
 .r 9 8,
 .o 10 (.lenL 9),
 .v 11 (.n 0)] (.block 0
 (.loop
 (.q [
 .i 12 .lss 11 10] (.seq (.cond 12
 .skip
 (.exit 0))
 (.seq (.block 1
 (.q [
 .v 13 11,
 .y 14 7 9 11,
 .o 15 (.loadN 7 14),
 .o 5 (.box (.const (.agg [(.str []), (.str []), (.bool false), (.int .i64 0), .nils, (.str []), .nils]))),
 .v 4 13,
 .s (.store 7 5 15)] (.q [
 .a 16 6 5,
 .r 17 16,
 .o 18 (.lenL 17),
 .v 19 (.n 0)] (.block 2
 (.loop
 (.q [
 .i 20 .lss 19 18] (.seq (.cond 20
 .skip
 (.exit 2))
 (.seq (.block 3
 (.q [
 .v 21 19,
 .y 22 10 17 19,
 .o 23 (.loadN 10 22),
 .o 7 (.box (.const (.agg [(.int .i64 0), (.int .i64 0), (.int .i64 0), (.int .i64 0), (.int .i64 0), (.str []), (.str []), .nils, (.int .i64 0), (.int .i64 0)]))),
 .v 6 21,
 .s (.store 10 7 23)] (.q [
 .a 24 0 7,
 .r 25 24,
 .o 26 (.eql (.b .int) false 25 (.n 6))] (.cond 26
 (.reg [
 .v 27 3,
 .v 28 4,
 .v 29 6,
 .a 30 5 7,
 .r 31 30,
 .o 32 (.build [(.int .i64 0), (.int .i64 0), (.str [])] [(0, 1, 28), (1, 1, 29), (2, 1, 31)]),
 .o 33 (.bslice 1 [(.int .i64 0), (.int .i64 0), (.str [])] [(0, 3, 32)]),
 .m 34 (.append 3 27 33),
 .v 3 34])
 .skip))))
 (.reg [
 .i 35 .add 19 (.n 1),
 .v 19 35])))))))))
 (.reg [
 .i 36 .add 11 (.n 1),
 .v 11 36])))))))
 (.q [
 .v 37 3,
 .v 2 37]
 .ret))))
theorem x_oSites : tblX Tryz.prog X0 23 = some (.fn ⟨38, [(2, none)], s_oSites.den⟩) := by kernel_rfl
def s_fieldsOf : SC := (.q [
 .b 2 0,
 .v 4 .nl] (.q [
 .v 5 .nl] (.seq (.q [
 .o 11 (.loadN 1 2),
 .v 12 1,
 .m 13 (.call (.f 42) [11, 12]),
 .o 14 (.lenL 13),
 .v 15 (.n 0)] (.block 0
 (.loop
 (.q [
 .i 16 .lss 15 14] (.seq (.cond 16
 .skip
 (.exit 0))
 (.seq (.block 1
 (.q [
 .y 17 1 13 15,
 .r 18 17,
 .v 7 18] (.q [
 .o 19 (.loadN 1 2),
 .v 20 7,
 .m 21 (.call (.f 43) [19, 20]),
 .v 8 21] (.q [
 .v 22 8,
 .i 23 .geq 22 (.n 0)] (.cond 23
 (.q [
 .a 24 0 2,
 .r 25 24,
 .v 26 8,
 .y 27 4 25 26,
 .a 28 2 27,
 .r 29 28,
 .o 30 (.lenL 29),
 .v 31 (.n 0)] (.block 2
 (.loop
 (.q [
 .i 32 .lss 31 30] (.seq (.cond 32
 .skip
 (.exit 2))
 (.seq (.block 3
 (.q [
 .y 33 2 29 31,
 .o 34 (.loadN 2 33),
 .o 10 (.box (.const (.agg [(.str []), (.str [])]))),
 .s (.store 2 10 34)] (.reg [
 .v 35 5,
 .a 36 0 10,
 .r 37 36,
 .o 38 (.bslice 1 [(.str [])] [(0, 1, 37)]),
 .m 39 (.append 1 35 38),
 .v 5 39])))
 (.reg [
 .i 40 .add 31 (.n 1),
 .v 31 40])))))))
 .skip)))))
 (.reg [
 .i 41 .add 15 (.n 1),
 .v 15 41])))))))
 (.q [
 .v 42 5,
 .m 43 (.call (.f 44) [42])] (.q [
 .v 44 5,
 .m 45 (.call (.f 45) [44]),
 .v 4 45]
 .ret)))))
theorem x_fieldsOf : tblX Tryz.prog X0 24 = some (.fn ⟨46, [(4, none)], s_fieldsOf.den⟩) := by kernel_rfl
def s_rSites : SC := (.q [
 .b 1 0,
 .v 2 .nl] (.q [
 .v 3 .nl] (.seq (.q [
 .v 4 (.n 0)] (.block 0
 (.loop
 (.seq (.q [
 .v 6 4,
 .a 7 1 1,
 .r 8 7,
 .o 9 (.lenL 8),
 .i 10 .lss 6 9] (.cond 10
 .skip
 (.exit 0)))
 (.seq (.block 1
 (.q [
 .v 5 (.n 0)] (.block 2
 (.loop
 (.seq (.q [
 .v 13 5,
 .a 14 1 1,
 .r 15 14,
 .v 16 4,
 .y 17 7 15 16,
 .a 18 6 17,
 .r 19 18,
 .o 20 (.lenL 19),
 .i 21 .lss 13 20] (.cond 21
 .skip
 (.exit 2)))
 (.seq (.block 3
 (.q [
 .a 24 1 1,
 .r 25 24,
 .v 26 4,
 .y 27 7 25 26,
 .a 28 6 27,
 .r 29 28,
 .v 30 5,
 .y 31 10 29 30,
 .a 32 0 31,
 .r 33 32,
 .o 34 (.eql (.b .int) false 33 (.n 6))] (.cond 34
 (.reg [
 .v 35 3,
 .v 36 4,
 .v 37 5,
 .a 38 1 1,
 .r 39 38,
 .v 40 4,
 .y 41 7 39 40,
 .a 42 6 41,
 .r 43 42,
 .v 44 5,
 .y 45 10 43 44,
 .a 46 5 45,
 .r 47 46,
 .o 48 (.build [(.int .i64 0), (.int .i64 0), (.str [])] [(0, 1, 36), (1, 1, 37), (2, 1, 47)]),
 .o 49 (.bslice 1 [(.int .i64 0), (.int .i64 0), (.str [])] [(0, 3, 48)]),
 .m 50 (.append 3 35 49),
 .v 3 50])
 .skip)))
 (.reg [
 .v 22 5,
 .i 23 .add 22 (.n 1),
 .v 5 23])))))))
 (.reg [
 .v 11 4,
 .i 12 .add 11 (.n 1),
 .v 4 12]))))))
 (.q [
 .v 51 3,
 .v 2 51]
 .ret))))
theorem x_rSites : tblX Tryz.prog X0 26 = some (.fn ⟨52, [(2, none)], s_rSites.den⟩) := by kernel_rfl
def s_rfields : SC := (.q [
 .b 2 0,
 .v 4 .nl] (.q [
 .v 5 .nl] (.q [
 .a 10 0 2,
 .o 11 (.loadN 1 10),
 .v 12 1,
 .m 13 (.call (.f 48) [11, 12]),
 .v 6 13] (.seq (.q [
 .v 7 (.n 0)] (.block 0
 (.loop
 (.seq (.q [
 .v 14 7,
 .v 15 6,
 .o 16 (.lenL 15),
 .i 17 .lss 14 16] (.cond 17
 .skip
 (.exit 0)))
 (.seq (.block 1
 (.seq (.dreg [
 .a 20 0 2,
 .p 21 (.faddr 0 20) 1,
 .L 22 21 3,
 .a 23 0 2,
 .l 24 (.loadN 1 23) 8 23,
 .v 25 6,
 .v 26 7,
 .p 27 (.iaddr 1 25 26) 96,
 .L 28 27 224,
 .c 29 (.call (.f 49) [24, 28]) 504,
 .p 30 (.iaddr 4 22 29) 1023,
 .l 31 (.loadN 4 30) 2047 30,
 .o 8 (.box (.const (.agg [(.str []), (.str []), .nils, .nils]))),
 .S (.store 4 8 31) 8191])
 (.q [
 .v 9 (.n 0)] (.block 2
 (.loop
 (.seq (.q [
 .v 32 9,
 .a 33 2 8,
 .r 34 33,
 .o 35 (.lenL 34),
 .i 36 .lss 32 35] (.cond 36
 .skip
 (.exit 2)))
 (.seq (.block 3
 (.reg [
 .v 39 5,
 .a 40 2 8,
 .r 41 40,
 .v 42 9,
 .y 43 2 41 42,
 .a 44 0 43,
 .r 45 44,
 .m 46 (.call (.f 50) [39, 45]),
 .v 5 46]))
 (.reg [
 .v 37 9,
 .i 38 .add 37 (.n 1),
 .v 9 38]))))))))
 (.reg [
 .v 18 7,
 .i 19 .add 18 (.n 1),
 .v 7 19]))))))
 (.q [
 .v 47 5,
 .v 4 47]
 .ret)))))
theorem x_rfields : tblX Tryz.prog X0 27 = some (.fn ⟨48, [(4, none)], s_rfields.den⟩) := by kernel_rfl
def s_whole : SC := (.q [
 .b 1 0,
 .v 2 (.n 0)] (.q [
 .a 9 0 1,
 .o 10 (.loadN 1 9),
 .m 11 (.call (.f 81) [10]),
 .v 8 11,
 .o 12 (.extr 8 0),
 .o 13 (.extr 8 1),
 .v 3 12,
 .v 4 13] (.seq (.q [
 .v 14 4,
 .o 15 (.eql (.b .int) true 14 (.n 0))] (.cond 15
 (.q [
 .v 16 4,
 .v 2 16]
 .ret)
 .skip))
 (.seq (.q [
 .a 17 1 1,
 .r 18 17,
 .o 19 (.lenL 18),
 .i 20 .gtr 19 (.n 256)] (.cond 20
 (.q [
 .v 2 (.n 3)]
 .ret)
 .skip))
 (.q [
 .v 5 (.n 0)] (.seq (.q [
 .v 6 (.n 0)] (.block 0
 (.loop
 (.seq (.q [
 .v 21 6,
 .a 22 0 1,
 .a 23 0 22,
 .r 24 23,
 .o 25 (.lenL 24),
 .i 26 .lss 21 25] (.cond 26
 .skip
 (.exit 0)))
 (.seq (.block 1
 (.reg [
 .v 29 5,
 .a 30 0 1,
 .a 31 0 30,
 .r 32 31,
 .v 33 6,
 .y 34 4 32 33,
 .a 35 3 34,
 .r 36 35,
 .o 37 (.lenL 36),
 .i 38 .add 29 37,
 .v 5 38]))
 (.reg [
 .v 27 6,
 .i 28 .add 27 (.n 1),
 .v 6 28]))))))
 (.seq (.q [
 .v 39 5,
 .a 40 1 1,
 .r 41 40,
 .o 42 (.lenL 41),
 .o 43 (.eql (.b .int) true 39 42)] (.cond 43
 (.q [
 .v 2 (.n 20)]
 .ret)
 .skip))
 (.seq (.q [
 .a 44 2 1,
 .r 45 44,
 .i 46 .lss 45 (.n 0),
 .v 47 46,
 .g 48 (.faddr 2 1) 47 false 0,
 .g 49 (.load1 48) 47 false 0,
 .g 50 (.mv 5) 47 false 0,
 .g 51 (.ints .geq 49 50) 47 false 0,
 .o 52 (.pick 47 .tt 51)] (.cond 52
 (.q [
 .v 2 (.n 14)]
 .ret)
 .skip))
 (.q [
 .a 53 1 1,
 .r 54 53,
 .a 55 2 1,
 .r 56 55,
 .y 57 7 54 56,
 .o 58 (.loadN 7 57),
 .o 7 (.box (.const (.agg [(.str []), (.str []), (.bool false), (.int .i64 0), .nils, (.str []), .nils]))),
 .s (.store 7 7 58)] (.seq (.q [
 .a 59 0 7,
 .r 60 59,
 .o 61 (.eql (.b .str) true 60 (.t [77, 97, 105, 110])),
 .v 62 61,
 .g 63 (.faddr 1 7) 62 false 0,
 .g 64 (.load1 63) 62 false 0,
 .g 65 (.eql (.b .str) true 64 (.t [109, 97, 105, 110])) 62 false 0,
 .o 66 (.pick 62 .tt 65),
 .v 67 66,
 .g 68 (.faddr 2 7) 67 false 0,
 .g 69 (.load1 68) 67 false 0,
 .g 70 (.not 69) 67 false 0,
 .o 71 (.pick 67 .tt 70),
 .v 72 71,
 .g 73 (.faddr 3 7) 72 false 0,
 .g 74 (.load1 73) 72 false 0,
 .g 75 (.eql (.b .int) true 74 (.n 0)) 72 false 0,
 .o 76 (.pick 72 .tt 75),
 .v 77 76,
 .g 78 (.faddr 5 7) 77 false 0,
 .g 79 (.load1 78) 77 false 0,
 .g 80 (.eql (.b .str) true 79 (.t [])) 77 false 0,
 .o 81 (.pick 77 .tt 80)] (.cond 81
 (.q [
 .v 2 (.n 14)]
 .ret)
 .skip))
 (.q [
 .v 2 (.n 0)]
 .ret)))))))))))
theorem x_whole : tblX Tryz.prog X0 39 = some (.fn ⟨82, [(2, none)], s_whole.den⟩) := by kernel_rfl
def s_numbered : SC := (.q [
 .b 2 0,
 .v 4 (.t []),
 .o 5 (.box (.const (.agg [(.str []), (.bool false), .nils, (.str [])]))),
 .v 6 .ff] (.seq (.q [
 .v 7 (.n 0)] (.block 0
 (.loop
 (.seq (.q [
 .v 9 7,
 .a 10 0 2,
 .r 11 10,
 .o 12 (.lenL 11),
 .i 13 .lss 9 12] (.cond 13
 .skip
 (.exit 0)))
 (.seq (.block 1
 (.q [
 .a 16 0 2,
 .r 17 16,
 .v 18 7,
 .y 19 4 17 18,
 .a 20 3 19,
 .r 21 20,
 .v 8 21] (.seq (.q [
 .v 22 1,
 .v 23 8,
 .o 24 (.lenL 23),
 .i 25 .lss 22 24] (.cond 25
 (.seq (.dreg [
 .a 26 0 2,
 .L 27 26 1,
 .v 28 7,
 .p 29 (.iaddr 4 27 28) 7,
 .p 30 (.faddr 0 29) 15,
 .L 31 30 31,
 .v 32 8,
 .v 33 1,
 .p 34 (.iaddr 4 32 33) 192,
 .l 35 (.loadN 4 34) 448 34,
 .w 4 31 63,
 .S (.store 4 5 35) 2047,
 .w 6 .tt 4095])
 .ret)
 .skip))
 (.reg [
 .v 36 1,
 .v 37 8,
 .o 38 (.lenL 37),
 .i 39 .sub 36 38,
 .v 1 39]))))
 (.reg [
 .v 14 7,
 .i 15 .add 14 (.n 1),
 .v 7 15]))))))
 (.q [
 .o 40 (.build [(.str []), (.bool false), .nils, (.str [])] []),
 .v 4 (.t []),
 .s (.store 4 5 40),
 .v 6 .ff]
 .ret)))
theorem x_numbered : tblX Tryz.prog X0 40 = some (.fn ⟨41, [(4, none), (5, some (some 4)), (6, none)], s_numbered.den⟩) := by kernel_rfl
def s_checkFunc : SC := (.q [
 .b 4 0,
 .b 5 1,
 .b 7 3,
 .v 8 (.n 0),
 .v 9 (.n 0)] (.seq (.q [
 .o 12 (.loadN 7 5),
 .v 13 2,
 .o 14 (.loadN 4 7),
 .m 15 (.call (.f 82) [12, 13, 14]),
 .o 16 (.not 15)] (.cond 16
 (.q [
 .o 8 (.mv (.const (.int .i64 (-1)))),
 .v 9 (.n 20)]
 .ret)
 .skip))
 (.seq (.q [
 .a 17 4 5,
 .r 18 17,
 .o 19 (.lenL 18),
 .i 20 .gtr 19 (.n 256),
 .v 21 20,
 .g 22 (.faddr 6 5) 21 false 0,
 .g 23 (.load1 22) 21 false 0,
 .g 24 (.lenL 23) 21 false 0,
 .g 25 (.ints .gtr 24 (.n 1024)) 21 false 0,
 .o 26 (.pick 21 .tt 25)] (.cond 26
 (.q [
 .o 8 (.mv (.const (.int .i64 (-1)))),
 .v 9 (.n 3)]
 .ret)
 .skip))
 (.q [
 .o 27 (.loadN 1 4),
 .o 28 (.loadN 7 5),
 .m 29 (.call (.f 83) [27, 28]),
 .v 10 29] (.seq (.q [
 .v 30 10,
 .o 31 (.eql (.b .int) true 30 (.n 0))] (.cond 31
 (.q [
 .v 32 10,
 .o 8 (.mv (.const (.int .i64 (-1)))),
 .v 9 32]
 .ret)
 .skip))
 (.seq (.q [
 .a 33 6 5,
 .r 34 33,
 .o 35 (.lenL 34),
 .o 36 (.eql (.b .int) false 35 (.n 0))] (.cond 36
 (.q [
 .o 8 (.mv (.const (.int .i64 (-1)))),
 .v 9 (.n 1)]
 .ret)
 .skip))
 (.seq (.q [
 .v 11 (.n 0)] (.block 0
 (.loop
 (.seq (.q [
 .v 37 11,
 .a 38 6 5,
 .r 39 38,
 .o 40 (.lenL 39),
 .i 41 .lss 37 40] (.cond 41
 .skip
 (.exit 0)))
 (.seq (.block 1
 (.q [
 .o 44 (.loadN 1 4),
 .o 45 (.loadN 7 5),
 .v 46 11,
 .m 47 (.call (.f 84) [44, 45, 46]),
 .v 10 47] (.q [
 .v 48 10,
 .o 49 (.eql (.b .int) true 48 (.n 0))] (.cond 49
 (.q [
 .v 50 11,
 .v 51 10,
 .v 8 50,
 .v 9 51]
 .ret)
 .skip))))
 (.reg [
 .v 42 11,
 .i 43 .add 42 (.n 1),
 .v 11 43]))))))
 (.q [
 .v 8 (.n 0),
 .v 9 (.n 0)]
 .ret))))))))
theorem x_checkFunc : tblX Tryz.prog X0 41 = some (.fn ⟨52, [(8, none), (9, none)], s_checkFunc.den⟩) := by kernel_rfl
def s_hSupers : SC := (.q [
 .b 2 0,
 .v 4 .nl] (.q [
 .o 9 (.loadN 1 2),
 .m 10 (.call (.f 85) [9]),
 .o 5 (.box (.const (.agg [.nils, .nilm]))),
 .s (.store 2 5 10)] (.q [
 .v 6 .nl] (.seq (.q [
 .o 11 (.loadN 2 5),
 .v 12 1,
 .m 13 (.call (.f 86) [11, 12]),
 .o 14 (.lenL 13),
 .v 15 (.n 0)] (.block 0
 (.loop
 (.q [
 .i 16 .lss 15 14] (.seq (.cond 16
 .skip
 (.exit 0))
 (.seq (.block 1
 (.q [
 .y 17 1 13 15,
 .r 18 17,
 .v 8 18] (.reg [
 .v 19 6,
 .a 20 0 5,
 .r 21 20,
 .v 22 8,
 .y 23 4 21 22,
 .a 24 0 23,
 .r 25 24,
 .o 26 (.bslice 1 [(.str [])] [(0, 1, 25)]),
 .m 27 (.append 1 19 26),
 .v 6 27])))
 (.reg [
 .i 28 .add 15 (.n 1),
 .v 15 28])))))))
 (.q [
 .v 29 6,
 .v 4 29]
 .ret)))))
theorem x_hSupers : tblX Tryz.prog X0 42 = some (.fn ⟨30, [(4, none)], s_hSupers.den⟩) := by kernel_rfl
def s_hFind : SC := (.q [
 .b 2 0,
 .b 3 1,
 .v 4 (.n 0)] (.q [
 .a 5 0 2,
 .r 6 5,
 .o 7 (.mkfn 88 [3]),
 .m 8 (.call (.f 87) [6, 7]),
 .v 4 8]
 .ret))
theorem x_hFind : tblX Tryz.prog X0 43 = some (.fn ⟨9, [(4, none)], s_hFind.den⟩) := by kernel_rfl
def s_rSupers : SC := (.q [
 .b 2 0,
 .v 4 .nl] (.q [
 .o 8 (.loadN 1 2),
 .v 9 1,
 .m 10 (.call (.f 90) [8, 9]),
 .v 7 10,
 .o 11 (.extr 7 0),
 .o 12 (.extr 7 1),
 .v 5 11,
 .v 6 12] (.q [
 .v 13 5,
 .v 4 13]
 .ret)))
theorem x_rSupers : tblX Tryz.prog X0 48 = some (.fn ⟨14, [(4, none)], s_rSupers.den⟩) := by kernel_rfl
def s_rFind : SC := (.q [
 .b 2 0,
 .v 4 (.n 0)] (.seq (.q [
 .v 5 (.n 0)] (.block 0
 (.loop
 (.seq (.q [
 .v 6 5,
 .a 7 0 2,
 .r 8 7,
 .o 9 (.lenL 8),
 .i 10 .lss 6 9] (.cond 10
 .skip
 (.exit 0)))
 (.seq (.block 1
 (.q [
 .a 13 0 2,
 .r 14 13,
 .v 15 5,
 .y 16 4 14 15,
 .a 17 0 16,
 .r 18 17,
 .v 19 1,
 .o 20 (.eql (.b .str) false 18 19)] (.cond 20
 (.q [
 .v 21 5,
 .v 4 21]
 .ret)
 .skip)))
 (.reg [
 .v 11 5,
 .i 12 .add 11 (.n 1),
 .v 5 12]))))))
 (.q [
 .o 4 (.mv (.const (.int .i64 (-1))))]
 .ret)))
theorem x_rFind : tblX Tryz.prog X0 49 = some (.fn ⟨22, [(4, none)], s_rFind.den⟩) := by kernel_rfl
def s_insert : SC := (.q [
 .v 4 .nl] (.q [
 .v 5 .nl] (.q [
 .v 6 .ff] (.seq (.q [
 .v 7 (.n 0)] (.block 0
 (.loop
 (.seq (.q [
 .v 8 7,
 .v 9 0,
 .o 10 (.lenL 9),
 .i 11 .lss 8 10] (.cond 11
 .skip
 (.exit 0)))
 (.seq (.block 1
 (.seq (.q [
 .v 14 6,
 .o 15 (.not 14),
 .v 16 15,
 .g 17 (.mv 1) 16 true 0,
 .g 18 (.mv 0) 16 true 0,
 .g 19 (.mv 7) 16 true 0,
 .g 20 (.iaddr 1 18 19) 16 true 0,
 .g 21 (.load1 20) 16 true 0,
 .g 22 (.scmp .lss 17 21) 16 true 0,
 .o 23 (.pick 16 22 .ff)] (.cond 23
 (.q [
 .v 24 5,
 .v 25 1,
 .o 26 (.bslice 1 [(.str [])] [(0, 1, 25)]),
 .m 27 (.append 1 24 26),
 .v 5 27] (.reg [
 .v 6 .tt]))
 .skip))
 (.reg [
 .v 28 5,
 .v 29 0,
 .v 30 7,
 .y 31 1 29 30,
 .r 32 31,
 .o 33 (.bslice 1 [(.str [])] [(0, 1, 32)]),
 .m 34 (.append 1 28 33),
 .v 5 34])))
 (.reg [
 .v 12 7,
 .i 13 .add 12 (.n 1),
 .v 7 13]))))))
 (.seq (.q [
 .v 35 6,
 .o 36 (.not 35)] (.cond 36
 (.reg [
 .v 37 5,
 .v 38 1,
 .o 39 (.bslice 1 [(.str [])] [(0, 1, 38)]),
 .m 40 (.append 1 37 39),
 .v 5 40])
 .skip))
 (.q [
 .v 41 5,
 .v 4 41]
 .ret))))))
theorem x_insert : tblX Tryz.prog X0 50 = some (.fn ⟨42, [(4, none)], s_insert.den⟩) := by kernel_rfl
def s_R10Check : SC := (.q [
 .b 1 0,
 .v 2 (.n 0),
 .v 3 (.n 0)] (.seq (.q [
 .a 6 0 1,
 .r 7 6,
 .o 8 (.lenL 7),
 .i 9 .gtr 8 (.n 64)] (.cond 9
 (.q [
 .o 2 (.mv (.const (.int .i64 (-1)))),
 .v 3 (.n 3)]
 .ret)
 .skip))
 (.seq (.q [
 .v 4 (.n 0)] (.block 0
 (.loop
 (.seq (.q [
 .v 10 4,
 .a 11 0 1,
 .r 12 11,
 .o 13 (.lenL 12),
 .i 14 .lss 10 13] (.cond 14
 .skip
 (.exit 0)))
 (.seq (.block 1
 (.q [
 .o 17 (.loadN 1 1),
 .v 18 4,
 .m 19 (.call (.f 153) [17, 18]),
 .v 5 19] (.q [
 .v 20 5,
 .o 21 (.eql (.b .int) true 20 (.n 0))] (.cond 21
 (.q [
 .v 22 4,
 .v 23 5,
 .v 2 22,
 .v 3 23]
 .ret)
 .skip))))
 (.reg [
 .v 15 4,
 .i 16 .add 15 (.n 1),
 .v 4 16]))))))
 (.q [
 .v 2 (.n 0),
 .v 3 (.n 0)]
 .ret))))
theorem x_R10Check : tblX Tryz.prog X0 81 = some (.fn ⟨24, [(2, none), (3, none)], s_R10Check.den⟩) := by kernel_rfl
def s_fits12 : SC := (.q [
 .b 3 0,
 .b 5 2,
 .v 6 .ff] (.seq (.q [
 .a 9 0 3,
 .r 10 9,
 .v 11 1,
 .o 12 (.eql (.b .str) true 10 11),
 .v 13 12,
 .g 14 (.faddr 1 3) 13 false 0,
 .g 15 (.load1 14) 13 false 0,
 .g 16 (.faddr 0 5) 13 false 0,
 .g 17 (.load1 16) 13 false 0,
 .g 18 (.eql (.b .str) true 15 17) 13 false 0,
 .o 19 (.pick 13 .tt 18),
 .v 20 19,
 .g 21 (.faddr 2 3) 20 false 0,
 .g 22 (.load1 21) 20 false 0,
 .g 23 (.faddr 1 5) 20 false 0,
 .g 24 (.load1 23) 20 false 0,
 .g 25 (.eql (.b .bool) true 22 24) 20 false 0,
 .o 26 (.pick 20 .tt 25),
 .v 27 26,
 .g 28 (.faddr 5 3) 27 false 0,
 .g 29 (.load1 28) 27 false 0,
 .g 30 (.faddr 3 5) 27 false 0,
 .g 31 (.load1 30) 27 false 0,
 .g 32 (.eql (.b .str) true 29 31) 27 false 0,
 .o 33 (.pick 27 .tt 32)] (.cond 33
 (.q [
 .v 6 .ff]
 .ret)
 .skip))
 (.q [
 .a 34 2 5,
 .r 35 34,
 .o 36 (.lenL 35),
 .v 7 36] (.seq (.q [
 .a 37 1 5,
 .r 38 37,
 .o 39 (.not 38)] (.cond 39
 (.reg [
 .v 40 7,
 .i 41 .add 40 (.n 1),
 .v 7 41])
 .skip))
 (.seq (.q [
 .a 42 3 3,
 .r 43 42,
 .v 44 7,
 .o 45 (.eql (.b .int) true 43 44),
 .v 46 45,
 .g 47 (.faddr 4 3) 46 false 0,
 .g 48 (.load1 47) 46 false 0,
 .g 49 (.lenL 48) 46 false 0,
 .g 50 (.mv 7) 46 false 0,
 .g 51 (.ints .lss 49 50) 46 false 0,
 .o 52 (.pick 46 .tt 51)] (.cond 52
 (.q [
 .v 6 .ff]
 .ret)
 .skip))
 (.seq (.q [
 .a 53 1 5,
 .r 54 53,
 .o 55 (.not 54),
 .v 56 55,
 .g 57 (.faddr 4 3) 56 true 0,
 .g 58 (.load1 57) 56 true 0,
 .g 59 (.iaddr 2 58 (.n 0)) 56 true 0,
 .g 60 (.faddr 0 59) 56 true 0,
 .g 61 (.load1 60) 56 true 0,
 .g 62 (.eql (.b .str) true 61 (.t [116, 104, 105, 115])) 56 true 0,
 .g 63 (.mv 62) 56 true 0,
 .g 64 (.faddr 4 3) 63 false 0,
 .g 65 (.load1 64) 63 false 0,
 .g 66 (.iaddr 2 65 (.n 0)) 63 false 0,
 .g 67 (.faddr 1 66) 63 false 0,
 .g 68 (.load1 67) 63 false 0,
 .g 69 (.mv 1) 63 false 0,
 .g 70 (.eql (.b .str) true 68 69) 63 false 0,
 .g 71 (.pick 63 .tt 70) 56 true 0,
 .o 72 (.pick 56 71 .ff)] (.cond 72
 (.q [
 .v 6 .ff]
 .ret)
 .skip))
 (.seq (.q [
 .v 8 (.n 0)] (.block 0
 (.loop
 (.seq (.q [
 .v 73 8,
 .a 74 2 5,
 .r 75 74,
 .o 76 (.lenL 75),
 .i 77 .lss 73 76] (.cond 77
 .skip
 (.exit 0)))
 (.seq (.block 1
 (.seq (.dreg [
 .a 80 4 3,
 .L 81 80 1,
 .v 82 7,
 .a 83 2 5,
 .L 84 83 8,
 .p 85 (.lenL 84) 24,
 .p 86 (.ints .sub 82 85) 60,
 .v 87 8,
 .p 88 (.ints .add 86 87) 252,
 .p 89 (.iaddr 2 81 88) 511,
 .p 90 (.faddr 1 89) 1023,
 .L 91 90 2047,
 .a 92 2 5,
 .L 93 92 4096,
 .v 94 8,
 .p 95 (.iaddr 1 93 94) 28672,
 .L 96 95 61440,
 .p 97 (.eql (.b .str) true 91 96) 131071])
 (.cond 97
 (.q [
 .v 6 .ff]
 .ret)
 .skip)))
 (.reg [
 .v 78 8,
 .i 79 .add 78 (.n 1),
 .v 8 79]))))))
 (.q [
 .v 6 .tt]
 .ret))))))))
theorem x_fits12 : tblX Tryz.prog X0 82 = some (.fn ⟨98, [(6, none)], s_fits12.den⟩) := by kernel_rfl
def s_names12 : SC := (.q [
 .b 2 0,
 .b 3 1,
 .v 4 (.n 0)] (.seq (.q [
 .v 5 (.n 0)] (.block 0
 (.loop
 (.seq (.q [
 .v 9 5,
 .a 10 4 3,
 .r 11 10,
 .o 12 (.lenL 11),
 .i 13 .lss 9 12] (.cond 13
 .skip
 (.exit 0)))
 (.seq (.block 1
 (.seq (.dreg [
 .a 16 4 3,
 .L 17 16 1,
 .v 18 5,
 .p 19 (.iaddr 2 17 18) 7,
 .p 20 (.faddr 0 19) 15,
 .L 21 20 31,
 .a 22 4 3,
 .L 23 22 64,
 .v 24 5,
 .p 25 (.iaddr 2 23 24) 448,
 .p 26 (.faddr 1 25) 960,
 .L 27 26 1984,
 .w 6 21 63,
 .w 7 27 8191])
 (.q [
 .v 28 5,
 .o 29 (.eql (.b .int) false 28 (.n 0)),
 .v 30 29,
 .g 31 (.faddr 2 3) 30 true 0,
 .g 32 (.load1 31) 30 true 0,
 .g 33 (.not 32) 30 true 0,
 .o 34 (.pick 30 33 .ff),
 .v 35 34,
 .g 36 (.mv 6) 35 true 0,
 .g 37 (.eql (.b .str) false 36 (.t [116, 104, 105, 115])) 35 true 0,
 .o 38 (.pick 35 37 .ff),
 .v 8 38] (.seq (.q [
 .v 39 8,
 .o 40 (.not 39),
 .v 41 40,
 .g 42 (.mv 6) 41 true 0,
 ⟨(some 43), .call (.f 154) [42], (some (41, true)), 0, true, false, none⟩,
 .g 44 (.not 43) 41 true 0,
 .o 45 (.pick 41 44 .ff),
 .v 46 45,
 .g 47 (.mv 6) 46 true 0,
 .g 48 (.lenS 47) 46 true 0,
 .g 49 (.ints .lss 48 (.n 2)) 46 true 0,
 .g 50 (.mv 49) 46 true 0,
 .g 51 (.mv 6) 50 false 0,
 .g 52 (.lenS 51) 50 false 0,
 .g 53 (.ints .gtr 52 (.n 32)) 50 false 0,
 .g 54 (.pick 50 .tt 53) 46 true 0,
 .g 55 (.mv 54) 46 true 0,
 .g 56 (.mv 6) 55 false 0,
 .g 57 (.idxS 56 (.n 0)) 55 false 0,
 .g 58 (.eql (.b .int) true 57 (.const (.int .u8 36))) 55 false 0,
 .g 59 (.pick 55 .tt 58) 46 true 0,
 .g 60 (.mv 59) 46 true 0,
 .g 61 (.mv 6) 60 false 0,
 .g 62 (.sliceS 61 (some (.n 1)) none) 60 false 0,
 ⟨(some 63), .call (.f 155) [62], (some (60, false)), 0, true, false, none⟩,
 .g 64 (.not 63) 60 false 0,
 .g 65 (.pick 60 .tt 64) 46 true 0,
 .o 66 (.pick 46 65 .ff)] (.cond 66
 (.q [
 .v 4 (.n 5)]
 .ret)
 .skip))
 (.q [
 .v 67 7,
 .o 68 (.eql (.b .str) true 67 (.t [110, 117, 108, 108])),
 .v 69 68,
 .g 70 (.loadN 1 2) 69 true 0,
 .g 71 (.mv 7) 69 true 0,
 ⟨(some 72), .call (.f 156) [70, 71], (some (69, true)), 0, true, false, none⟩,
 .g 73 (.not 72) 69 true 0,
 .o 74 (.pick 69 73 .ff)] (.cond 74
 (.q [
 .v 4 (.n 8)]
 .ret)
 .skip))))))
 (.reg [
 .v 14 5,
 .i 15 .add 14 (.n 1),
 .v 5 15]))))))
 (.q [
 .v 4 (.n 0)]
 .ret)))
theorem x_names12 : tblX Tryz.prog X0 83 = some (.fn ⟨75, [(4, none)], s_names12.den⟩) := by kernel_rfl
def s_instr12 : SC := (.q [
 .b 3 0,
 .b 4 1,
 .v 6 (.n 0)] (.q [
 .a 8 6 4,
 .r 9 8,
 .v 10 2,
 .y 11 10 9 10,
 .o 12 (.loadN 10 11),
 .o 7 (.box (.const (.agg [(.int .i64 0), (.int .i64 0), (.int .i64 0), (.int .i64 0), (.int .i64 0), (.str []), (.str []), .nils, (.int .i64 0), (.int .i64 0)]))),
 .s (.store 10 7 12)] (.seq (.q [
 .a 13 0 7,
 .r 14 13,
 .m 15 (.call (.f 157) [14]),
 .o 16 (.eql (.b .str) false 15 (.t [])),
 .v 17 16,
 .g 18 (.faddr 0 7) 17 false 0,
 .g 19 (.load1 18) 17 false 0,
 .g 20 (.eql (.b .int) false 19 (.n 4)) 17 false 0,
 .g 21 (.mv 20) 17 false 0,
 .g 22 (.faddr 4 7) 21 true 0,
 .g 23 (.load1 22) 21 true 0,
 .g 24 (.ints .lss 23 (.n 1)) 21 true 0,
 .g 25 (.mv 24) 21 true 0,
 .g 26 (.faddr 4 7) 25 false 0,
 .g 27 (.load1 26) 25 false 0,
 .g 28 (.ints .gtr 27 (.n 5)) 25 false 0,
 .g 29 (.pick 25 .tt 28) 21 true 0,
 .g 30 (.pick 21 29 .ff) 17 false 0,
 .o 31 (.pick 17 .tt 30)] (.cond 31
 (.q [
 .v 6 (.n 12)]
 .ret)
 .skip))
 (.seq (.q [
 .o 32 (.loadN 10 7),
 .m 33 (.call (.f 158) [32]),
 .o 34 (.not 33)] (.cond 34
 (.q [
 .v 6 (.n 1)]
 .ret)
 .skip))
 (.seq (.q [
 .o 35 (.loadN 7 4),
 .o 36 (.loadN 10 7),
 .m 37 (.call (.f 159) [35, 36]),
 .o 38 (.not 37)] (.cond 38
 (.q [
 .v 6 (.n 4)]
 .ret)
 .skip))
 (.seq (.q [
 .o 39 (.loadN 7 4),
 .v 40 2,
 .m 41 (.call (.f 160) [39, 40])] (.cond 41
 (.q [
 .v 6 (.n 1)]
 .ret)
 .skip))
 (.q [
 .o 42 (.loadN 1 3),
 .o 43 (.loadN 7 4),
 .o 44 (.loadN 10 7),
 .m 45 (.call (.f 161) [42, 43, 44]),
 .v 6 45]
 .ret)))))))
theorem x_instr12 : tblX Tryz.prog X0 84 = some (.fn ⟨46, [(6, none)], s_instr12.den⟩) := by kernel_rfl
def s_tableOf : SC := (.q [
 .b 1 0,
 .o 2 (.box (.const (.agg [.nils, .nilm])))] (.seq (.dreg [
 .a 8 0 1,
 .L 9 8 1,
 .a 10 0 1,
 .L 11 10 4,
 .p 12 (.lenL 11) 12,
 .p 13 (.mkmapH 12) 28,
 .p 14 (.build [.nils, .nilm] [(0, 1, 9), (1, 1, 13)]) 63,
 .o 3 (.box (.const (.agg [.nils, .nilm]))),
 .S (.store 2 3 14) 255])
 (.seq (.q [
 .a 15 0 1,
 .r 16 15,
 .o 17 (.lenL 16),
 .v 18 (.n 0)] (.block 0
 (.loop
 (.q [
 .i 19 .lss 18 17] (.seq (.cond 19
 .skip
 (.exit 0))
 (.seq (.block 1
 (.q [
 .v 20 18,
 .y 21 4 16 18,
 .o 22 (.loadN 4 21),
 .o 5 (.box (.const (.agg [(.str []), (.str []), .nils, .nils]))),
 .v 4 20,
 .s (.store 4 5 22)] (.q [
 .a 24 1 3,
 .r 25 24,
 .a 26 0 5,
 .r 27 26,
 .o 28 (.lookup (.b .str) (.int .i64 0) 25 27 true),
 .v 23 28,
 .o 29 (.extr 23 0),
 .o 30 (.extr 23 1),
 .v 6 29,
 .v 7 30] (.q [
 .v 31 7,
 .o 32 (.not 31)] (.cond 32
 (.reg [
 .a 33 1 3,
 .r 34 33,
 .a 35 0 5,
 .r 36 35,
 .v 37 4,
 .s (.mapup (.b .str) 34 36 37)])
 .skip)))))
 (.reg [
 .i 38 .add 18 (.n 1),
 .v 18 38])))))))
 (.q [
 .o 39 (.loadN 2 3),
 .s (.store 2 2 39)]
 .ret))))
theorem x_tableOf : tblX Tryz.prog X0 85 = some (.fn ⟨40, [(2, some (some 2))], s_tableOf.den⟩) := by kernel_rfl
def s_named : SC := (.q [
 .b 2 0,
 .v 4 .nl] (.seq (.dreg [
 .l 8 (.loadN 2 2) 0 2,
 .l 9 (.loadN 2 2) 0 2,
 .v 10 1,
 .c 11 (.call (.f 163) [9, 10]) 6,
 .c 12 (.call (.f 162) [8, 11]) 15,
 .w 7 12 31,
 .p 13 (.extr 7 0) 63,
 .p 14 (.extr 7 1) 63,
 .w 5 13 127,
 .w 6 14 511])
 (.q [
 .v 15 5,
 .v 4 15]
 .ret)))
theorem x_named : tblX Tryz.prog X0 86 = some (.fn ⟨16, [(4, none)], s_named.den⟩) := by kernel_rfl
def s_IndexFunc : SC := (.q [
 .v 4 (.n 0)] (.seq (.q [
 .v 6 0,
 .o 7 (.lenL 6),
 .v 8 (.n 0)] (.block 0
 (.loop
 (.q [
 .i 9 .lss 8 7] (.seq (.cond 9
 .skip
 (.exit 0))
 (.seq (.block 1
 (.q [
 .v 10 8,
 .v 5 10] (.q [
 .v 11 1,
 .v 12 0,
 .v 13 5,
 .y 14 4 12 13,
 .o 15 (.loadN 4 14),
 .m 16 (.call 11 [15])] (.cond 16
 (.q [
 .v 17 5,
 .v 4 17]
 .ret)
 .skip))))
 (.reg [
 .i 18 .add 8 (.n 1),
 .v 8 18])))))))
 (.q [
 .o 4 (.mv (.const (.int .i64 (-1))))]
 .ret)))
theorem x_IndexFunc : tblX Tryz.prog X0 87 = some (.fn ⟨19, [(4, none)], s_IndexFunc.den⟩) := by kernel_rfl
def s_hFind1 : SC := (.q [
 .b 2 0,
 .v 3 .ff] (.q [
 .a 4 0 2,
 .r 5 4,
 .r 6 1,
 .o 7 (.eql (.b .str) false 5 6),
 .v 3 7]
 .ret))
theorem x_hFind1 : tblX Tryz.prog X0 88 = some (.fn ⟨8, [(3, none)], s_hFind1.den⟩) := by kernel_rfl
def s_rchain : SC := (.q [
 .b 2 0,
 .v 4 .nl,
 .v 5 .ff] (.q [
 .v 6 .nl] (.seq (.q [
 .o 8 (.loadN 1 2),
 .v 9 1,
 .m 10 (.call (.f 49) [8, 9]),
 .v 7 10] (.block 0
 (.loop
 (.seq (.q [
 .v 11 7,
 .i 12 .geq 11 (.n 0)] (.cond 12
 .skip
 (.exit 0)))
 (.seq (.block 1
 (.seq (.q [
 .v 16 6,
 .v 17 1,
 .m 18 (.call (.f 172) [16, 17])] (.cond 18
 (.q [
 .v 19 6,
 .v 4 19,
 .v 5 .tt]
 .ret)
 .skip))
 (.q [
 .v 20 6,
 .v 21 1,
 .o 22 (.bslice 1 [(.str [])] [(0, 1, 21)]),
 .m 23 (.append 1 20 22),
 .v 6 23] (.seq (.q [
 .a 24 0 2,
 .r 25 24,
 .v 26 7,
 .y 27 4 25 26,
 .a 28 1 27,
 .r 29 28,
 .o 30 (.eql (.b .str) false 29 (.t []))] (.cond 30
 (.q [
 .v 31 6,
 .v 4 31,
 .v 5 .ff]
 .ret)
 .skip))
 (.reg [
 .a 32 0 2,
 .r 33 32,
 .v 34 7,
 .y 35 4 33 34,
 .a 36 1 35,
 .r 37 36,
 .v 1 37])))))
 (.reg [
 .o 13 (.loadN 1 2),
 .v 14 1,
 .m 15 (.call (.f 49) [13, 14]),
 .v 7 15]))))))
 (.q [
 .v 38 6,
 .v 4 38,
 .v 5 .ff]
 .ret))))
theorem x_rchain : tblX Tryz.prog X0 90 = some (.fn ⟨39, [(4, none), (5, none)], s_rchain.den⟩) := by kernel_rfl
def s_class10 : SC := (.q [
 .b 2 0,
 .v 4 (.n 0)] (.q [
 .a 9 0 2,
 .r 10 9,
 .v 11 1,
 .y 12 4 10 11,
 .o 13 (.loadN 4 12),
 .o 5 (.box (.const (.agg [(.str []), (.str []), .nils, .nils]))),
 .s (.store 4 5 13)] (.seq (.q [
 .a 14 0 5,
 .r 15 14,
 .m 16 (.call (.f 154) [15]),
 .o 17 (.not 16)] (.cond 17
 (.q [
 .v 4 (.n 5)]
 .ret)
 .skip))
 (.seq (.q [
 .o 18 (.loadN 1 2),
 .a 19 0 5,
 .r 20 19,
 .m 21 (.call (.f 49) [18, 20]),
 .v 22 1,
 .o 23 (.eql (.b .int) true 21 22)] (.cond 23
 (.q [
 .v 4 (.n 7)]
 .ret)
 .skip))
 (.seq (.q [
 .a 24 1 5,
 .r 25 24,
 .o 26 (.eql (.b .str) true 25 (.t [])),
 .v 27 26,
 .g 28 (.loadN 1 2) 27 true 0,
 .g 29 (.faddr 1 5) 27 true 0,
 .g 30 (.load1 29) 27 true 0,
 ⟨(some 31), .call (.f 49) [28, 30], (some (27, true)), 0, true, false, none⟩,
 .g 32 (.ints .lss 31 (.n 0)) 27 true 0,
 .o 33 (.pick 27 32 .ff)] (.cond 33
 (.q [
 .v 4 (.n 6)]
 .ret)
 .skip))
 (.q [
 .o 35 (.loadN 1 2),
 .a 36 0 5,
 .r 37 36,
 .m 38 (.call (.f 90) [35, 37]),
 .v 34 38,
 .o 39 (.extr 34 0),
 .o 40 (.extr 34 1),
 .v 6 39,
 .v 7 40] (.seq (.q [
 .v 41 7] (.cond 41
 (.q [
 .v 4 (.n 10)]
 .ret)
 .skip))
 (.seq (.q [
 .a 42 2 5,
 .r 43 42,
 .o 44 (.lenL 43),
 .i 45 .gtr 44 (.n 16),
 .v 46 45,
 .g 47 (.faddr 3 5) 46 false 0,
 .g 48 (.load1 47) 46 false 0,
 .g 49 (.lenL 48) 46 false 0,
 .g 50 (.ints .gtr 49 (.n 16)) 46 false 0,
 .o 51 (.pick 46 .tt 50)] (.cond 51
 (.q [
 .v 4 (.n 3)]
 .ret)
 .skip))
 (.q [
 .o 52 (.loadN 1 2),
 .v 53 1,
 .m 54 (.call (.f 265) [52, 53]),
 .v 8 54] (.seq (.q [
 .v 55 8,
 .o 56 (.eql (.b .int) true 55 (.n 0))] (.cond 56
 (.q [
 .v 57 8,
 .v 4 57]
 .ret)
 .skip))
 (.q [
 .o 58 (.loadN 1 2),
 .v 59 1,
 .m 60 (.call (.f 266) [58, 59]),
 .v 4 60]
 .ret)))))))))))
theorem x_class10 : tblX Tryz.prog X0 153 = some (.fn ⟨61, [(4, none)], s_class10.den⟩) := by kernel_rfl
def s_Ident : SC := (.q [
 .v 2 .ff] (.seq (.q [
 .v 4 0,
 .o 5 (.eql (.b .str) false 4 (.t [])),
 .v 6 5,
 .g 7 (.mv 0) 6 false 0,
 .g 8 (.lenS 7) 6 false 0,
 .g 9 (.ints .gtr 8 (.n 32)) 6 false 0,
 .o 10 (.pick 6 .tt 9),
 .v 11 10,
 .g 12 (.mv 0) 11 false 0,
 .g 13 (.idxS 12 (.n 0)) 11 false 0,
 ⟨(some 14), .call (.f 267) [13], (some (11, false)), 0, true, false, none⟩,
 .g 15 (.not 14) 11 false 0,
 .o 16 (.pick 11 .tt 15),
 .v 17 16,
 .g 18 (.mv 0) 17 false 0,
 ⟨(some 19), .call (.f 268) [18], (some (17, false)), 0, true, false, none⟩,
 .o 20 (.pick 17 .tt 19)] (.cond 20
 (.q [
 .v 2 .ff]
 .ret)
 .skip))
 (.seq (.q [
 .v 3 (.n 0)] (.block 0
 (.loop
 (.seq (.q [
 .v 21 3,
 .v 22 0,
 .o 23 (.lenS 22),
 .i 24 .lss 21 23] (.cond 24
 .skip
 (.exit 0)))
 (.seq (.block 1
 (.q [
 .v 27 0,
 .v 28 3,
 .o 29 (.idxS 27 28),
 .m 30 (.call (.f 269) [29]),
 .o 31 (.not 30)] (.cond 31
 (.q [
 .v 2 .ff]
 .ret)
 .skip)))
 (.reg [
 .v 25 3,
 .i 26 .add 25 (.n 1),
 .v 3 26]))))))
 (.q [
 .v 2 .tt]
 .ret))))
theorem x_Ident : tblX Tryz.prog X0 154 = some (.fn ⟨32, [(2, none)], s_Ident.den⟩) := by kernel_rfl
def s_Natural : SC := (.q [
 .v 2 .ff] (.seq (.q [
 .v 3 (.n 0)] (.block 0
 (.loop
 (.seq (.q [
 .v 4 3,
 .v 5 0,
 .o 6 (.lenS 5),
 .i 7 .lss 4 6] (.cond 7
 .skip
 (.exit 0)))
 (.seq (.block 1
 (.q [
 .v 10 0,
 .v 11 3,
 .o 12 (.idxS 10 11),
 .o 13 (.ints .lss 12 (.const (.int .u8 48))),
 .v 14 13,
 .g 15 (.mv 0) 14 false 0,
 .g 16 (.mv 3) 14 false 0,
 .g 17 (.idxS 15 16) 14 false 0,
 .g 18 (.ints .gtr 17 (.const (.int .u8 57))) 14 false 0,
 .o 19 (.pick 14 .tt 18)] (.cond 19
 (.q [
 .v 2 .ff]
 .ret)
 .skip)))
 (.reg [
 .v 8 3,
 .i 9 .add 8 (.n 1),
 .v 3 9]))))))
 (.q [
 .v 20 0,
 .o 21 (.lenS 20),
 .o 22 (.eql (.b .int) false 21 (.n 1)),
 .v 23 22,
 .g 24 (.mv 0) 23 false 0,
 .g 25 (.lenS 24) 23 false 0,
 .g 26 (.ints .gtr 25 (.n 1)) 23 false 0,
 .g 27 (.mv 26) 23 false 0,
 .g 28 (.mv 0) 27 true 0,
 .g 29 (.idxS 28 (.n 0)) 27 true 0,
 .g 30 (.eql (.b .int) true 29 (.const (.int .u8 48))) 27 true 0,
 .g 31 (.pick 27 30 .ff) 23 false 0,
 .o 32 (.pick 23 .tt 31),
 .v 2 32]
 .ret)))
theorem x_Natural : tblX Tryz.prog X0 155 = some (.fn ⟨33, [(2, none)], s_Natural.den⟩) := by kernel_rfl
def s_Type10 : SC := (.q [
 .b 2 0,
 .v 4 .ff] (.q [
 .v 5 1,
 .o 6 (.eql (.b .str) false 5 (.t [105, 110, 116])),
 .v 7 6,
 .g 8 (.loadN 1 2) 7 false 0,
 .g 9 (.mv 1) 7 false 0,
 ⟨(some 10), .call (.f 49) [8, 9], (some (7, false)), 0, true, false, none⟩,
 .g 11 (.ints .geq 10 (.n 0)) 7 false 0,
 .o 12 (.pick 7 .tt 11),
 .v 4 12]
 .ret))
theorem x_Type10 : tblX Tryz.prog X0 156 = some (.fn ⟨13, [(4, none)], s_Type10.den⟩) := by kernel_rfl
def s_Name12 : SC := (.q [
 .v 2 (.t [])] (.q [
 .o 4 (.bslice 17 [(.str [])] [(0, 1, (.t [110, 111, 112])), (1, 1, (.t [99, 111, 110, 115, 116])), (2, 1, (.t [110, 117, 108, 108])), (3, 1, (.t [99, 111, 112, 121])), (4, 1, (.t [98, 105, 110])), (5, 1, (.t [105, 110, 112, 117, 116])), (6, 1, (.t [110, 101, 119])), (7, 1, (.t [108, 111, 97, 100])), (8, 1, (.t [115, 116, 111, 114, 101])), (9, 1, (.t [99, 97, 108, 108])), (10, 1, (.t [115, 116, 97, 116, 105, 99])), (11, 1, (.t [98, 114, 97, 110, 99, 104])), (12, 1, (.t [106, 117, 109, 112])), (13, 1, (.t [114, 101, 116, 117, 114, 110])), (14, 1, (.t [116, 104, 114, 111, 119])), (15, 1, (.t [99, 97, 116, 99, 104])), (16, 1, (.t [115, 104, 105, 102, 116]))]),
 .v 3 4] (.seq (.q [
 .v 5 0,
 .i 6 .lss 5 (.n 0),
 .v 7 6,
 .g 8 (.mv 0) 7 false 0,
 .g 9 (.mv 3) 7 false 0,
 .g 10 (.lenL 9) 7 false 0,
 .g 11 (.ints .geq 8 10) 7 false 0,
 .o 12 (.pick 7 .tt 11)] (.cond 12
 (.q [
 .v 2 (.t [])]
 .ret)
 .skip))
 (.q [
 .v 13 3,
 .v 14 0,
 .y 15 1 13 14,
 .r 16 15,
 .v 2 16]
 .ret))))
theorem x_Name12 : tblX Tryz.prog X0 157 = some (.fn ⟨17, [(2, none)], s_Name12.den⟩) := by kernel_rfl
def s_unused : SC := (.q [
 .b 1 0,
 .v 2 .ff] (.q [
 .a 4 0 1,
 .r 5 4,
 .v 3 5] (.q [
 .v 6 3,
 .m 7 (.call (.f 270) [6, (.const (.int .u8 100))]),
 .v 8 7,
 .g 9 (.faddr 1 1) 8 false 0,
 .g 10 (.load1 9) 8 false 0,
 .g 11 (.eql (.b .int) false 10 (.n 0)) 8 false 0,
 .o 12 (.pick 8 .tt 11),
 .v 13 12,
 .g 14 (.mv 3) 13 true 0,
 ⟨(some 15), .call (.f 270) [14, (.const (.int .u8 97))], (some (13, true)), 0, true, false, none⟩,
 .g 16 (.mv 15) 13 true 0,
 .g 17 (.faddr 2 1) 16 false 0,
 .g 18 (.load1 17) 16 false 0,
 .g 19 (.eql (.b .int) false 18 (.n 0)) 16 false 0,
 .g 20 (.pick 16 .tt 19) 13 true 0,
 .o 21 (.pick 13 20 .ff),
 .v 22 21,
 .g 23 (.mv 3) 22 true 0,
 ⟨(some 24), .call (.f 270) [23, (.const (.int .u8 98))], (some (22, true)), 0, true, false, none⟩,
 .g 25 (.mv 24) 22 true 0,
 .g 26 (.faddr 3 1) 25 false 0,
 .g 27 (.load1 26) 25 false 0,
 .g 28 (.eql (.b .int) false 27 (.n 0)) 25 false 0,
 .g 29 (.pick 25 .tt 28) 22 true 0,
 .o 30 (.pick 22 29 .ff),
 .v 31 30,
 .g 32 (.mv 3) 31 true 0,
 ⟨(some 33), .call (.f 270) [32, (.const (.int .u8 110))], (some (31, true)), 0, true, false, none⟩,
 .g 34 (.mv 33) 31 true 0,
 .g 35 (.faddr 4 1) 34 false 0,
 .g 36 (.load1 35) 34 false 0,
 .g 37 (.eql (.b .int) false 36 (.n 0)) 34 false 0,
 .g 38 (.pick 34 .tt 37) 31 true 0,
 .o 39 (.pick 31 38 .ff),
 .v 40 39,
 .g 41 (.mv 3) 40 true 0,
 ⟨(some 42), .call (.f 270) [41, (.const (.int .u8 99))], (some (40, true)), 0, true, false, none⟩,
 .g 43 (.mv 42) 40 true 0,
 .g 44 (.faddr 5 1) 43 false 0,
 .g 45 (.load1 44) 43 false 0,
 .g 46 (.eql (.b .str) false 45 (.t [])) 43 false 0,
 .g 47 (.pick 43 .tt 46) 40 true 0,
 .o 48 (.pick 40 47 .ff),
 .v 49 48,
 .g 50 (.mv 3) 49 true 0,
 ⟨(some 51), .call (.f 270) [50, (.const (.int .u8 109))], (some (49, true)), 0, true, false, none⟩,
 .g 52 (.mv 51) 49 true 0,
 .g 53 (.faddr 6 1) 52 false 0,
 .g 54 (.load1 53) 52 false 0,
 .g 55 (.eql (.b .str) false 54 (.t [])) 52 false 0,
 .g 56 (.pick 52 .tt 55) 49 true 0,
 .o 57 (.pick 49 56 .ff),
 .v 58 57,
 .g 59 (.mv 3) 58 true 0,
 ⟨(some 60), .call (.f 270) [59, (.const (.int .u8 108))], (some (58, true)), 0, true, false, none⟩,
 .g 61 (.mv 60) 58 true 0,
 .g 62 (.faddr 7 1) 61 false 0,
 .g 63 (.load1 62) 61 false 0,
 .g 64 (.lenL 63) 61 false 0,
 .g 65 (.eql (.b .int) false 64 (.n 0)) 61 false 0,
 .g 66 (.pick 61 .tt 65) 58 true 0,
 .o 67 (.pick 58 66 .ff),
 .v 68 67,
 .g 69 (.mv 3) 68 true 0,
 ⟨(some 70), .call (.f 270) [69, (.const (.int .u8 103))], (some (68, true)), 0, true, false, none⟩,
 .g 71 (.mv 70) 68 true 0,
 .g 72 (.faddr 8 1) 71 false 0,
 .g 73 (.load1 72) 71 false 0,
 .g 74 (.eql (.b .int) false 73 (.n 0)) 71 false 0,
 .g 75 (.pick 71 .tt 74) 68 true 0,
 .o 76 (.pick 68 75 .ff),
 .v 2 76]
 .ret)))
theorem x_unused : tblX Tryz.prog X0 158 = some (.fn ⟨77, [(2, none)], s_unused.den⟩) := by kernel_rfl
def s_ranges : SC := (.q [
 .b 2 0,
 .b 3 1,
 .v 4 .ff] (.q [
 .a 9 4 2,
 .r 10 9,
 .o 11 (.lenL 10),
 .v 5 11] (.q [
 .a 12 0 3,
 .r 13 12,
 .o 14 (.eql (.b .int) false 13 (.n 9)),
 .v 15 14,
 .g 16 (.faddr 0 3) 15 false 0,
 .g 17 (.load1 16) 15 false 0,
 .g 18 (.eql (.b .int) false 17 (.n 10)) 15 false 0,
 .o 19 (.pick 15 .tt 18),
 .v 6 19] (.seq (.q [
 .a 20 0 3,
 .r 21 20,
 .m 22 (.call (.f 270) [21, (.const (.int .u8 100))]),
 .v 23 22,
 .g 24 (.faddr 1 3) 23 true 0,
 .g 25 (.load1 24) 23 true 0,
 .g 26 (.ints .lss 25 (.n 0)) 23 true 0,
 .g 27 (.mv 26) 23 true 0,
 .g 28 (.faddr 1 3) 27 false 0,
 .g 29 (.load1 28) 27 false 0,
 .g 30 (.mv 5) 27 false 0,
 .g 31 (.ints .geq 29 30) 27 false 0,
 .g 32 (.pick 27 .tt 31) 23 true 0,
 .o 33 (.pick 23 32 .ff),
 .v 34 33,
 .g 35 (.mv 6) 34 true 0,
 .g 36 (.not 35) 34 true 0,
 .g 37 (.mv 36) 34 true 0,
 .g 38 (.faddr 1 3) 37 false 0,
 .g 39 (.load1 38) 37 false 0,
 .g 40 (.eql (.b .int) true 39 (.const (.int .i64 (-1)))) 37 false 0,
 .g 41 (.pick 37 .tt 40) 34 true 0,
 .o 42 (.pick 34 41 .ff)] (.cond 42
 (.q [
 .v 4 .ff]
 .ret)
 .skip))
 (.q [
 .o 43 (.loadN 10 3),
 .m 44 (.call (.f 271) [43]),
 .v 7 44] (.seq (.q [
 .v 8 (.n 0)] (.block 0
 (.loop
 (.seq (.q [
 .v 45 8,
 .v 46 7,
 .o 47 (.lenL 46),
 .i 48 .lss 45 47] (.cond 48
 .skip
 (.exit 0)))
 (.seq (.block 1
 (.q [
 .v 51 7,
 .v 52 8,
 .y 53 1 51 52,
 .r 54 53,
 .i 55 .lss 54 (.n 0),
 .v 56 55,
 .g 57 (.mv 7) 56 false 0,
 .g 58 (.mv 8) 56 false 0,
 .g 59 (.iaddr 1 57 58) 56 false 0,
 .g 60 (.load1 59) 56 false 0,
 .g 61 (.mv 5) 56 false 0,
 .g 62 (.ints .geq 60 61) 56 false 0,
 .o 63 (.pick 56 .tt 62)] (.cond 63
 (.q [
 .v 4 .ff]
 .ret)
 .skip)))
 (.reg [
 .v 49 8,
 .i 50 .add 49 (.n 1),
 .v 8 50]))))))
 (.seq (.q [
 .a 64 0 3,
 .r 65 64,
 .m 66 (.call (.f 270) [65, (.const (.int .u8 103))]),
 .v 67 66,
 .g 68 (.faddr 8 3) 67 true 0,
 .g 69 (.load1 68) 67 true 0,
 .g 70 (.ints .lss 69 (.n 0)) 67 true 0,
 .g 71 (.mv 70) 67 true 0,
 .g 72 (.faddr 8 3) 71 false 0,
 .g 73 (.load1 72) 71 false 0,
 .g 74 (.faddr 6 2) 71 false 0,
 .g 75 (.load1 74) 71 false 0,
 .g 76 (.lenL 75) 71 false 0,
 .g 77 (.ints .geq 73 76) 71 false 0,
 .g 78 (.pick 71 .tt 77) 67 true 0,
 .o 79 (.pick 67 78 .ff)] (.cond 79
 (.q [
 .v 4 .ff]
 .ret)
 .skip))
 (.q [
 .a 80 9 3,
 .r 81 80,
 .o 82 (.eql (.b .int) false 81 (.const (.int .i64 (-1)))),
 .v 83 82,
 .g 84 (.faddr 9 3) 83 false 0,
 .g 85 (.load1 84) 83 false 0,
 .g 86 (.ints .geq 85 (.n 0)) 83 false 0,
 .g 87 (.mv 86) 83 false 0,
 .g 88 (.faddr 9 3) 87 true 0,
 .g 89 (.load1 88) 87 true 0,
 .g 90 (.faddr 6 2) 87 true 0,
 .g 91 (.load1 90) 87 true 0,
 .g 92 (.lenL 91) 87 true 0,
 .g 93 (.ints .lss 89 92) 87 true 0,
 .g 94 (.pick 87 93 .ff) 83 false 0,
 .g 95 (.mv 94) 83 false 0,
 .g 96 (.faddr 6 2) 95 true 0,
 .g 97 (.load1 96) 95 true 0,
 .g 98 (.faddr 9 3) 95 true 0,
 .g 99 (.load1 98) 95 true 0,
 .g 100 (.iaddr 10 97 99) 95 true 0,
 .g 101 (.faddr 0 100) 95 true 0,
 .g 102 (.load1 101) 95 true 0,
 .g 103 (.eql (.b .int) false 102 (.n 15)) 95 true 0,
 .g 104 (.pick 95 103 .ff) 83 false 0,
 .o 105 (.pick 83 .tt 104),
 .v 4 105]
 .ret))))))))
theorem x_ranges : tblX Tryz.prog X0 159 = some (.fn ⟨106, [(4, none)], s_ranges.den⟩) := by kernel_rfl
def s_leaves : SC := (.q [
 .b 2 0,
 .v 4 .ff] (.q [
 .a 7 6 2,
 .r 8 7,
 .v 9 1,
 .y 10 10 8 9,
 .o 11 (.loadN 10 10),
 .o 5 (.box (.const (.agg [(.int .i64 0), (.int .i64 0), (.int .i64 0), (.int .i64 0), (.int .i64 0), (.str []), (.str []), .nils, (.int .i64 0), (.int .i64 0)]))),
 .s (.store 10 5 11)] (.q [
 .a 12 0 5,
 .r 13 12,
 .o 14 (.eql (.b .int) false 13 (.n 12)),
 .v 15 14,
 .g 16 (.faddr 0 5) 15 false 0,
 .g 17 (.load1 16) 15 false 0,
 .g 18 (.eql (.b .int) false 17 (.n 13)) 15 false 0,
 .o 19 (.pick 15 .tt 18),
 .v 20 19,
 .g 21 (.faddr 0 5) 20 false 0,
 .g 22 (.load1 21) 20 false 0,
 .g 23 (.eql (.b .int) false 22 (.n 14)) 20 false 0,
 .o 24 (.pick 20 .tt 23),
 .v 6 24] (.seq (.q [
 .v 25 6,
 .o 26 (.not 25),
 .v 27 26,
 .g 28 (.mv 1) 27 true 0,
 .g 29 (.ints .add 28 (.n 1)) 27 true 0,
 .g 30 (.faddr 6 2) 27 true 0,
 .g 31 (.load1 30) 27 true 0,
 .g 32 (.lenL 31) 27 true 0,
 .g 33 (.eql (.b .int) false 29 32) 27 true 0,
 .g 34 (.mv 33) 27 true 0,
 .g 35 (.faddr 6 2) 34 false 0,
 .g 36 (.load1 35) 34 false 0,
 .g 37 (.mv 1) 34 false 0,
 .g 38 (.ints .add 37 (.n 1)) 34 false 0,
 .g 39 (.iaddr 10 36 38) 34 false 0,
 .g 40 (.faddr 0 39) 34 false 0,
 .g 41 (.load1 40) 34 false 0,
 .g 42 (.eql (.b .int) false 41 (.n 15)) 34 false 0,
 .g 43 (.pick 34 .tt 42) 27 true 0,
 .o 44 (.pick 27 43 .ff)] (.cond 44
 (.q [
 .v 4 .tt]
 .ret)
 .skip))
 (.q [
 .a 45 0 5,
 .r 46 45,
 .m 47 (.call (.f 270) [46, (.const (.int .u8 103))]),
 .v 48 47,
 .g 49 (.faddr 6 2) 48 true 0,
 .g 50 (.load1 49) 48 true 0,
 .g 51 (.faddr 8 5) 48 true 0,
 .g 52 (.load1 51) 48 true 0,
 .g 53 (.iaddr 10 50 52) 48 true 0,
 .g 54 (.faddr 0 53) 48 true 0,
 .g 55 (.load1 54) 48 true 0,
 .g 56 (.eql (.b .int) false 55 (.n 15)) 48 true 0,
 .o 57 (.pick 48 56 .ff),
 .v 58 57,
 .g 59 (.mv 1) 58 false 0,
 .g 60 (.eql (.b .int) false 59 (.n 0)) 58 false 0,
 .g 61 (.mv 60) 58 false 0,
 .g 62 (.faddr 0 5) 61 true 0,
 .g 63 (.load1 62) 61 true 0,
 .g 64 (.eql (.b .int) false 63 (.n 15)) 61 true 0,
 .g 65 (.pick 61 64 .ff) 58 false 0,
 .o 66 (.pick 58 .tt 65),
 .v 4 66]
 .ret)))))
theorem x_leaves : tblX Tryz.prog X0 160 = some (.fn ⟨67, [(4, none)], s_leaves.den⟩) := by kernel_rfl
def s_types12 : SC := (.q [
 .b 3 0,
 .b 4 1,
 .b 5 2,
 .v 6 (.n 0)] (.seq (.q [
 .a 7 0 5,
 .r 8 7] (.block 0
 (.seq (.q [
 .o 10 (.eql (.b .int) false 8 (.n 6)),
 .v 9 10] (.cond 9
 .skip
 (.reg [
 .o 11 (.eql (.b .int) false 8 (.n 15)),
 .v 9 11])))
 (.cond 9
 (.seq (.q [
 .o 12 (.loadN 1 3),
 .a 13 5 5,
 .r 14 13,
 .m 15 (.call (.f 272) [12, 14]),
 .o 16 (.not 15)] (.cond 16
 (.q [
 .v 6 (.n 6)]
 .ret)
 .skip))
 (.seq (.seq (.dreg [
 .l 17 (.loadN 1 3) 0 3,
 .a 18 5 5,
 .L 19 18 2,
 .a 20 4 4,
 .L 21 20 8,
 .a 22 1 5,
 .L 23 22 32,
 .p 24 (.iaddr 2 21 23) 120,
 .p 25 (.faddr 1 24) 248,
 .L 26 25 504,
 .c 27 (.call (.f 273) [17, 19, 26]) 1023,
 .p 28 (.not 27) 2047])
 (.cond 28
 (.q [
 .v 6 (.n 8)]
 .ret)
 .skip))
 (.q [
 .v 6 (.n 0)]
 .ret)))
 (.seq (.q [
 .o 30 (.eql (.b .int) false 8 (.n 7)),
 .v 29 30] (.cond 29
 .skip
 (.reg [
 .o 31 (.eql (.b .int) false 8 (.n 8)),
 .v 29 31])))
 (.cond 29
 (.q [
 .o 32 (.loadN 1 3),
 .o 33 (.loadN 7 4),
 .o 34 (.loadN 10 5),
 .m 35 (.call (.f 274) [32, 33, 34]),
 .v 6 35]
 .ret)
 (.seq (.q [
 .o 37 (.eql (.b .int) false 8 (.n 9)),
 .v 36 37] (.cond 36
 .skip
 (.reg [
 .o 38 (.eql (.b .int) false 8 (.n 10)),
 .v 36 38])))
 (.cond 36
 (.q [
 .o 39 (.loadN 1 3),
 .o 40 (.loadN 7 4),
 .o 41 (.loadN 10 5),
 .m 42 (.call (.f 275) [39, 40, 41]),
 .v 6 42]
 .ret)
 (.q [
 .o 44 (.eql (.b .int) false 8 (.n 13)),
 .v 43 44] (.cond 43
 (.q [
 .a 45 2 5,
 .r 46 45,
 .o 47 (.eql (.b .int) false 46 (.const (.int .i64 (-1)))),
 .a 48 5 4,
 .r 49 48,
 .o 50 (.eql (.b .str) false 49 (.t [])),
 .o 51 (.eql (.b .bool) true 47 50)] (.cond 51
 (.q [
 .v 6 (.n 9)]
 .ret)
 .skip))
 .skip))))))))))
 (.seq (.q [
 .o 52 (.loadN 1 3),
 .o 53 (.loadN 7 4),
 .o 54 (.loadN 10 5),
 .m 55 (.call (.f 276) [52, 53, 54]),
 .o 56 (.not 55)] (.cond 56
 (.q [
 .v 6 (.n 8)]
 .ret)
 .skip))
 (.q [
 .v 6 (.n 0)]
 .ret))))
theorem x_types12 : tblX Tryz.prog X0 161 = some (.fn ⟨57, [(6, none)], s_types12.den⟩) := by kernel_rfl
def s_tchain : SC := (.q [
 .b 2 0,
 .v 4 .nl,
 .v 5 .ff] (.q [
 .o 7 (.mkmap),
 .v 6 7] (.seq (.block 0
 (.loop
 (.seq (.q [
 .v 8 1,
 .i 9 .geq 8 (.n 0),
 .v 10 9,
 .g 11 (.mv 6) 10 true 0,
 .g 12 (.mv 1) 10 true 0,
 .g 13 (.lookup (.b .int) (.bool false) 11 12 false) 10 true 0,
 .g 14 (.not 13) 10 true 0,
 .o 15 (.pick 10 14 .ff)] (.cond 15
 .skip
 (.exit 0)))
 (.block 1
 (.q [
 .v 16 6,
 .v 17 1,
 .s (.mapup (.b .int) 16 17 .tt)] (.q [
 .v 18 4,
 .v 19 1,
 .o 20 (.bslice 1 [(.int .i64 0)] [(0, 1, 19)]),
 .m 21 (.append 1 18 20),
 .v 4 21] (.reg [
 .o 22 (.loadN 2 2),
 .v 23 1,
 .m 24 (.call (.f 277) [22, 23]),
 .v 1 24])))))))
 (.q [
 .v 25 4,
 .v 26 1,
 .i 27 .geq 26 (.n 0),
 .v 4 25,
 .v 5 27]
 .ret))))
theorem x_tchain : tblX Tryz.prog X0 162 = some (.fn ⟨28, [(4, none), (5, none)], s_tchain.den⟩) := by kernel_rfl
def s_tfind : SC := (.q [
 .b 2 0,
 .v 4 (.n 0)] (.seq (.q [
 .a 8 1 2,
 .r 9 8,
 .v 10 1,
 .o 11 (.lookup (.b .str) (.int .i64 0) 9 10 true),
 .v 7 11,
 .o 12 (.extr 7 0),
 .o 13 (.extr 7 1),
 .v 5 12,
 .v 6 13] (.q [
 .v 14 6] (.cond 14
 (.q [
 .v 15 5,
 .v 4 15]
 .ret)
 .skip)))
 (.q [
 .o 4 (.mv (.const (.int .i64 (-1))))]
 .ret)))
theorem x_tfind : tblX Tryz.prog X0 163 = some (.fn ⟨16, [(4, none)], s_tfind.den⟩) := by kernel_rfl
def s_in10 : SC := (.q [
 .v 4 .ff] (.seq (.q [
 .v 5 (.n 0)] (.block 0
 (.loop
 (.seq (.q [
 .v 6 5,
 .v 7 0,
 .o 8 (.lenL 7),
 .i 9 .lss 6 8] (.cond 9
 .skip
 (.exit 0)))
 (.seq (.block 1
 (.q [
 .v 12 0,
 .v 13 5,
 .y 14 1 12 13,
 .r 15 14,
 .v 16 1,
 .o 17 (.eql (.b .str) false 15 16)] (.cond 17
 (.q [
 .v 4 .tt]
 .ret)
 .skip)))
 (.reg [
 .v 10 5,
 .i 11 .add 10 (.n 1),
 .v 5 11]))))))
 (.q [
 .v 4 .ff]
 .ret)))
theorem x_in10 : tblX Tryz.prog X0 172 = some (.fn ⟨18, [(4, none)], s_in10.den⟩) := by kernel_rfl
def s_fields10 : SC := (.q [
 .b 2 0,
 .v 4 (.n 0)] (.q [
 .a 11 0 2,
 .r 12 11,
 .v 13 1,
 .y 14 4 12 13,
 .a 15 2 14,
 .r 16 15,
 .v 5 16] (.seq (.q [
 .v 6 (.n 0)] (.block 0
 (.loop
 (.seq (.q [
 .v 17 6,
 .v 18 5,
 .o 19 (.lenL 18),
 .i 20 .lss 17 19] (.cond 20
 .skip
 (.exit 0)))
 (.seq (.block 1
 (.seq (.q [
 .v 23 5,
 .v 24 6,
 .y 25 2 23 24,
 .a 26 0 25,
 .r 27 26,
 .m 28 (.call (.f 154) [27]),
 .o 29 (.not 28)] (.cond 29
 (.q [
 .v 4 (.n 5)]
 .ret)
 .skip))
 (.seq (.seq (.dreg [
 .l 30 (.loadN 1 2) 0 2,
 .v 31 5,
 .v 32 6,
 .p 33 (.iaddr 2 31 32) 6,
 .p 34 (.faddr 1 33) 14,
 .L 35 34 30,
 .c 36 (.call (.f 156) [30, 35]) 63,
 .p 37 (.not 36) 127])
 (.cond 37
 (.q [
 .v 4 (.n 8)]
 .ret)
 .skip))
 (.seq (.q [
 .v 7 (.n 0)] (.block 2
 (.loop
 (.seq (.q [
 .v 38 7,
 .v 39 6,
 .i 40 .lss 38 39] (.cond 40
 .skip
 (.exit 2)))
 (.seq (.block 3
 (.seq (.dreg [
 .v 43 5,
 .v 44 7,
 .p 45 (.iaddr 2 43 44) 3,
 .p 46 (.faddr 0 45) 7,
 .L 47 46 15,
 .v 48 5,
 .v 49 6,
 .p 50 (.iaddr 2 48 49) 96,
 .p 51 (.faddr 0 50) 224,
 .L 52 51 480,
 .p 53 (.eql (.b .str) false 47 52) 1023])
 (.cond 53
 (.q [
 .v 4 (.n 7)]
 .ret)
 .skip)))
 (.reg [
 .v 41 7,
 .i 42 .add 41 (.n 1),
 .v 7 42]))))))
 (.seq (.dreg [
 .l 55 (.loadN 1 2) 0 2,
 .a 56 0 2,
 .L 57 56 2,
 .v 58 1,
 .p 59 (.iaddr 4 57 58) 14,
 .p 60 (.faddr 1 59) 30,
 .L 61 60 62,
 .v 62 5,
 .v 63 6,
 .p 64 (.iaddr 2 62 63) 384,
 .p 65 (.faddr 0 64) 896,
 .L 66 65 1920,
 .c 67 (.call (.f 373) [55, 61, 66]) 4095,
 .w 54 67 8191,
 .p 68 (.extr 54 0) 16383,
 .p 69 (.extr 54 1) 16383,
 .p 70 (.extr 54 2) 16383,
 .w 8 68 32767,
 .w 9 69 196607,
 .w 10 70 524287])
 (.q [
 .v 71 10,
 .v 72 71,
 .g 73 (.faddr 0 2) 72 true 0,
 .g 74 (.load1 73) 72 true 0,
 .g 75 (.mv 1) 72 true 0,
 .g 76 (.iaddr 4 74 75) 72 true 0,
 .g 77 (.faddr 1 76) 72 true 0,
 .g 78 (.load1 77) 72 true 0,
 .g 79 (.eql (.b .str) true 78 (.t [])) 72 true 0,
 .o 80 (.pick 72 79 .ff)] (.cond 80
 (.q [
 .v 4 (.n 7)]
 .ret)
 .skip)))))))
 (.reg [
 .v 21 6,
 .i 22 .add 21 (.n 1),
 .v 6 22]))))))
 (.q [
 .v 4 (.n 0)]
 .ret))))
theorem x_fields10 : tblX Tryz.prog X0 265 = some (.fn ⟨81, [(4, none)], s_fields10.den⟩) := by kernel_rfl
def s_methods10 : SC := (.q [
 .b 2 0,
 .v 4 (.n 0)] (.q [
 .a 9 0 2,
 .r 10 9,
 .v 11 1,
 .y 12 4 10 11,
 .a 13 3 12,
 .r 14 13,
 .v 5 14] (.seq (.q [
 .v 6 (.n 0)] (.block 0
 (.loop
 (.seq (.q [
 .v 15 6,
 .v 16 5,
 .o 17 (.lenL 16),
 .i 18 .lss 15 17] (.cond 18
 .skip
 (.exit 0)))
 (.seq (.block 1
 (.seq (.q [
 .v 21 5,
 .v 22 6,
 .y 23 4 21 22,
 .a 24 0 23,
 .r 25 24,
 .m 26 (.call (.f 154) [25]),
 .o 27 (.not 26)] (.cond 27
 (.q [
 .v 4 (.n 5)]
 .ret)
 .skip))
 (.seq (.q [
 .v 7 (.n 0)] (.block 2
 (.loop
 (.seq (.q [
 .v 28 7,
 .v 29 6,
 .i 30 .lss 28 29] (.cond 30
 .skip
 (.exit 2)))
 (.seq (.block 3
 (.seq (.dreg [
 .v 33 5,
 .v 34 7,
 .p 35 (.iaddr 4 33 34) 3,
 .p 36 (.faddr 0 35) 7,
 .L 37 36 15,
 .v 38 5,
 .v 39 6,
 .p 40 (.iaddr 4 38 39) 96,
 .p 41 (.faddr 0 40) 224,
 .L 42 41 480,
 .p 43 (.eql (.b .str) false 37 42) 1023])
 (.cond 43
 (.q [
 .v 4 (.n 7)]
 .ret)
 .skip)))
 (.reg [
 .v 31 7,
 .i 32 .add 31 (.n 1),
 .v 7 32]))))))
 (.seq (.q [
 .v 44 5,
 .v 45 6,
 .y 46 4 44 45,
 .a 47 2 46,
 .r 48 47,
 .o 49 (.lenL 48),
 .i 50 .gtr 49 (.n 6)] (.cond 50
 (.q [
 .v 4 (.n 3)]
 .ret)
 .skip))
 (.seq (.dreg [
 .l 51 (.loadN 1 2) 0 2,
 .v 52 5,
 .v 53 6,
 .p 54 (.iaddr 4 52 53) 6,
 .l 55 (.loadN 4 54) 14 54,
 .c 56 (.call (.f 374) [51, 55]) 31,
 .w 8 56 63])
 (.seq (.q [
 .v 57 8,
 .o 58 (.eql (.b .int) true 57 (.n 0))] (.cond 58
 (.q [
 .v 59 8,
 .v 4 59]
 .ret)
 .skip))
 (.seq (.dreg [
 .l 60 (.loadN 1 2) 0 2,
 .a 61 0 2,
 .L 62 61 2,
 .v 63 1,
 .p 64 (.iaddr 4 62 63) 14,
 .p 65 (.faddr 0 64) 30,
 .L 66 65 62,
 .v 67 5,
 .v 68 6,
 .p 69 (.iaddr 4 67 68) 384,
 .l 70 (.loadN 4 69) 896 69,
 .c 71 (.call (.f 375) [60, 66, 70]) 2047])
 (.cond 71
 (.q [
 .v 4 (.n 11)]
 .ret)
 .skip))))))))
 (.reg [
 .v 19 6,
 .i 20 .add 19 (.n 1),
 .v 6 20]))))))
 (.q [
 .v 4 (.n 0)]
 .ret))))
theorem x_methods10 : tblX Tryz.prog X0 266 = some (.fn ⟨72, [(4, none)], s_methods10.den⟩) := by kernel_rfl
def s_letter : SC := (.q [
 .v 2 .ff] (.q [
 .v 3 0,
 .o 4 (.ints .geq 3 (.const (.int .u8 97))),
 .v 5 4,
 .g 6 (.mv 0) 5 true 0,
 .g 7 (.ints .leq 6 (.const (.int .u8 122))) 5 true 0,
 .o 8 (.pick 5 7 .ff),
 .v 9 8,
 .g 10 (.mv 0) 9 false 0,
 .g 11 (.ints .geq 10 (.const (.int .u8 65))) 9 false 0,
 .g 12 (.mv 11) 9 false 0,
 .g 13 (.mv 0) 12 true 0,
 .g 14 (.ints .leq 13 (.const (.int .u8 90))) 12 true 0,
 .g 15 (.pick 12 14 .ff) 9 false 0,
 .o 16 (.pick 9 .tt 15),
 .v 2 16]
 .ret))
theorem x_letter : tblX Tryz.prog X0 267 = some (.fn ⟨17, [(2, none)], s_letter.den⟩) := by kernel_rfl
def s_Keyword : SC := (.q [
 .v 2 .ff] (.q [
 .o 5 (.bslice 17 [(.str [])] [(0, 1, (.t [99, 108, 97, 115, 115])), (1, 1, (.t [101, 120, 116, 101, 110, 100, 115])), (2, 1, (.t [118, 97, 114])), (3, 1, (.t [100, 101, 102])), (4, 1, (.t [115, 116, 97, 116, 105, 99])), (5, 1, (.t [105, 102])), (6, 1, (.t [101, 108, 115, 101])), (7, 1, (.t [119, 104, 105, 108, 101])), (8, 1, (.t [116, 114, 121])), (9, 1, (.t [99, 97, 116, 99, 104])), (10, 1, (.t [116, 104, 114, 111, 119])), (11, 1, (.t [114, 101, 116, 117, 114, 110])), (12, 1, (.t [110, 101, 119])), (13, 1, (.t [110, 117, 108, 108])), (14, 1, (.t [116, 104, 105, 115])), (15, 1, (.t [105, 110, 112, 117, 116])), (16, 1, (.t [105, 110, 116]))]),
 .v 3 5] (.seq (.q [
 .v 4 (.n 0)] (.block 0
 (.loop
 (.seq (.q [
 .v 6 4,
 .v 7 3,
 .o 8 (.lenL 7),
 .i 9 .lss 6 8] (.cond 9
 .skip
 (.exit 0)))
 (.seq (.block 1
 (.q [
 .v 12 3,
 .v 13 4,
 .y 14 1 12 13,
 .r 15 14,
 .v 16 0,
 .o 17 (.eql (.b .str) false 15 16)] (.cond 17
 (.q [
 .v 2 .tt]
 .ret)
 .skip)))
 (.reg [
 .v 10 4,
 .i 11 .add 10 (.n 1),
 .v 4 11]))))))
 (.q [
 .v 2 .ff]
 .ret))))
theorem x_Keyword : tblX Tryz.prog X0 268 = some (.fn ⟨18, [(2, none)], s_Keyword.den⟩) := by kernel_rfl
def s_part : SC := (.q [
 .v 2 .ff] (.q [
 .v 3 0,
 .m 4 (.call (.f 267) [3]),
 .v 5 4,
 .g 6 (.mv 0) 5 false 0,
 ⟨(some 7), .call (.f 282) [6], (some (5, false)), 0, true, false, none⟩,
 .o 8 (.pick 5 .tt 7),
 .v 9 8,
 .g 10 (.mv 0) 9 false 0,
 .g 11 (.eql (.b .int) false 10 (.const (.int .u8 95))) 9 false 0,
 .o 12 (.pick 9 .tt 11),
 .v 2 12]
 .ret))
theorem x_part : tblX Tryz.prog X0 269 = some (.fn ⟨13, [(2, none)], s_part.den⟩) := by kernel_rfl
def s_Has : SC := (.q [
 .v 4 .ff] (.seq (.q [
 .v 7 0,
 .m 8 (.call (.f 157) [7]),
 .o 9 (.eql (.b .str) false 8 (.t []))] (.cond 9
 (.q [
 .v 4 .ff]
 .ret)
 .skip))
 (.q [
 .v 10 0,
 .m 11 (.call (.f 376) [10]),
 .v 5 11] (.seq (.q [
 .v 6 (.n 0)] (.block 0
 (.loop
 (.seq (.q [
 .v 12 6,
 .v 13 5,
 .o 14 (.lenS 13),
 .i 15 .lss 12 14] (.cond 15
 .skip
 (.exit 0)))
 (.seq (.block 1
 (.q [
 .v 18 5,
 .v 19 6,
 .o 20 (.idxS 18 19),
 .v 21 1,
 .o 22 (.eql (.b .int) false 20 21),
 .v 23 22,
 .g 24 (.mv 1) 23 false 0,
 .g 25 (.eql (.b .int) false 24 (.const (.int .u8 110))) 23 false 0,
 .g 26 (.mv 25) 23 false 0,
 .g 27 (.mv 5) 26 true 0,
 .g 28 (.mv 6) 26 true 0,
 .g 29 (.idxS 27 28) 26 true 0,
 .g 30 (.eql (.b .int) false 29 (.const (.int .u8 111))) 26 true 0,
 .g 31 (.pick 26 30 .ff) 23 false 0,
 .o 32 (.pick 23 .tt 31)] (.cond 32
 (.q [
 .v 4 .tt]
 .ret)
 .skip)))
 (.reg [
 .v 16 6,
 .i 17 .add 16 (.n 1),
 .v 6 17]))))))
 (.q [
 .v 4 .ff]
 .ret)))))
theorem x_Has : tblX Tryz.prog X0 270 = some (.fn ⟨33, [(4, none)], s_Has.den⟩) := by kernel_rfl
def s_Uses : SC := (.q [
 .b 1 0,
 .v 2 .nl] (.q [
 .v 3 .nl] (.seq (.q [
 .a 4 0 1,
 .r 5 4,
 .m 6 (.call (.f 270) [5, (.const (.int .u8 97))]),
 .v 7 6,
 .g 8 (.faddr 0 1) 7 true 0,
 .g 9 (.load1 8) 7 true 0,
 .g 10 (.eql (.b .int) true 9 (.n 13)) 7 true 0,
 .g 11 (.mv 10) 7 true 0,
 .g 12 (.faddr 2 1) 11 false 0,
 .g 13 (.load1 12) 11 false 0,
 .g 14 (.eql (.b .int) true 13 (.const (.int .i64 (-1)))) 11 false 0,
 .g 15 (.pick 11 .tt 14) 7 true 0,
 .o 16 (.pick 7 15 .ff)] (.cond 16
 (.reg [
 .v 17 3,
 .a 18 2 1,
 .r 19 18,
 .o 20 (.bslice 1 [(.int .i64 0)] [(0, 1, 19)]),
 .m 21 (.append 1 17 20),
 .v 3 21])
 .skip))
 (.seq (.q [
 .a 22 0 1,
 .r 23 22,
 .m 24 (.call (.f 270) [23, (.const (.int .u8 98))])] (.cond 24
 (.reg [
 .v 25 3,
 .a 26 3 1,
 .r 27 26,
 .o 28 (.bslice 1 [(.int .i64 0)] [(0, 1, 27)]),
 .m 29 (.append 1 25 28),
 .v 3 29])
 .skip))
 (.seq (.q [
 .a 30 0 1,
 .r 31 30,
 .m 32 (.call (.f 270) [31, (.const (.int .u8 108))])] (.cond 32
 (.reg [
 .v 33 3,
 .a 34 7 1,
 .r 35 34,
 .m 36 (.append 1 33 35),
 .v 3 36])
 .skip))
 (.q [
 .v 37 3,
 .v 2 37]
 .ret))))))
theorem x_Uses : tblX Tryz.prog X0 271 = some (.fn ⟨38, [(2, none)], s_Uses.den⟩) := by kernel_rfl
def s_isClass : SC := (.q [
 .b 2 0,
 .v 4 .ff] (.q [
 .o 5 (.loadN 1 2),
 .v 6 1,
 .m 7 (.call (.f 49) [5, 6]),
 .i 8 .geq 7 (.n 0),
 .v 4 8]
 .ret))
theorem x_isClass : tblX Tryz.prog X0 272 = some (.fn ⟨9, [(4, none)], s_isClass.den⟩) := by kernel_rfl
def s_Fits12 : SC := (.q [
 .b 3 0,
 .v 6 .ff] (.seq (.q [
 .v 7 1,
 .v 8 2,
 .o 9 (.eql (.b .str) false 7 8)] (.cond 9
 (.q [
 .v 6 .tt]
 .ret)
 .skip))
 (.seq (.q [
 .v 10 1,
 .o 11 (.eql (.b .str) false 10 (.t [110, 117, 108, 108]))] (.cond 11
 (.q [
 .v 12 2,
 .o 13 (.eql (.b .str) true 12 (.t [105, 110, 116])),
 .v 6 13]
 .ret)
 .skip))
 (.q [
 .o 14 (.loadN 1 3),
 .v 15 1,
 .m 16 (.call (.f 272) [14, 15]),
 .v 17 16,
 .g 18 (.loadN 1 3) 17 true 0,
 .g 19 (.mv 2) 17 true 0,
 ⟨(some 20), .call (.f 272) [18, 19], (some (17, true)), 0, true, false, none⟩,
 .o 21 (.pick 17 20 .ff),
 .v 22 21,
 .g 23 (.loadN 1 3) 22 true 0,
 .g 24 (.mv 1) 22 true 0,
 .g 25 (.mv 2) 22 true 0,
 ⟨(some 26), .call (.f 377) [23, 24, 25], (some (22, true)), 0, true, false, none⟩,
 .o 27 (.pick 22 26 .ff),
 .v 6 27]
 .ret))))
theorem x_Fits12 : tblX Tryz.prog X0 273 = some (.fn ⟨28, [(6, none)], s_Fits12.den⟩) := by kernel_rfl
def s_access : SC := (.q [
 .b 3 0,
 .b 4 1,
 .b 5 2,
 .v 6 (.n 0)] (.q [
 .a 11 4 4,
 .r 12 11,
 .a 13 2 5,
 .r 14 13,
 .y 15 2 12 14,
 .a 16 1 15,
 .r 17 16,
 .v 7 17] (.seq (.q [
 .o 18 (.loadN 1 3),
 .v 19 7,
 .m 20 (.call (.f 272) [18, 19]),
 .o 21 (.not 20)] (.cond 21
 (.q [
 .v 6 (.n 8)]
 .ret)
 .skip))
 (.q [
 .o 23 (.loadN 1 3),
 .v 24 7,
 .a 25 6 5,
 .r 26 25,
 .m 27 (.call (.f 373) [23, 24, 26]),
 .v 22 27,
 .o 28 (.extr 22 0),
 .o 29 (.extr 22 1),
 .o 30 (.extr 22 2),
 .v 8 28,
 .v 9 29,
 .v 10 30] (.seq (.q [
 .v 31 10,
 .o 32 (.not 31)] (.cond 32
 (.q [
 .v 6 (.n 6)]
 .ret)
 .skip))
 (.seq (.seq (.dreg [
 .a 33 0 5,
 .L 34 33 1,
 .p 35 (.eql (.b .int) false 34 (.n 7)) 3,
 .w 36 35 7,
 ⟨(some 37), .loadN 1 3, (some (36, true)), 15, false, false, (some 3)⟩,
 .g 38 (.mv 9) 36 true 15,
 .g 39 (.faddr 4 4) 36 true 15,
 ⟨(some 40), .load1 39, (some (36, true)), 79, false, false, (some 39)⟩,
 .g 41 (.faddr 1 5) 36 true 15,
 ⟨(some 42), .load1 41, (some (36, true)), 271, false, false, (some 41)⟩,
 .g 43 (.iaddr 2 40 42) 36 true 975,
 .g 44 (.faddr 1 43) 36 true 1999,
 ⟨(some 45), .load1 44, (some (36, true)), 4047, false, false, (some 44)⟩,
 ⟨(some 46), .call (.f 273) [37, 38, 45], (some (36, true)), 8191, true, true, none⟩,
 .g 47 (.not 46) 36 true 16383,
 .p 48 (.pick 36 47 .ff) 32767,
 .w 49 48 65535,
 .g 50 (.faddr 0 5) 49 false 131071,
 ⟨(some 51), .load1 50, (some (49, false)), 262143, false, false, (some 50)⟩,
 .g 52 (.eql (.b .int) false 51 (.n 8)) 49 false 524287,
 .g 53 (.mv 52) 49 false 1048575,
 ⟨(some 54), .loadN 1 3, (some (53, true)), 2097151, false, false, (some 3)⟩,
 .g 55 (.faddr 4 4) 53 true 2097151,
 ⟨(some 56), .load1 55, (some (53, true)), 6291455, false, false, (some 55)⟩,
 .g 57 (.faddr 3 5) 53 true 2097151,
 ⟨(some 58), .load1 57, (some (53, true)), 18874367, false, false, (some 57)⟩,
 .g 59 (.iaddr 2 56 58) 53 true 65011711,
 .g 60 (.faddr 1 59) 53 true 132120575,
 ⟨(some 61), .load1 60, (some (53, true)), 266338303, false, false, (some 60)⟩,
 .g 62 (.mv 9) 53 true 2097151,
 ⟨(some 63), .call (.f 273) [54, 61, 62], (some (53, true)), 1073741823, true, true, none⟩,
 .g 64 (.not 63) 53 true 2147483647,
 .g 65 (.pick 53 64 .ff) 49 false 4294967295,
 .p 66 (.pick 49 .tt 65) 8589934591])
 (.cond 66
 (.q [
 .v 6 (.n 8)]
 .ret)
 .skip))
 (.q [
 .v 6 (.n 0)]
 .ret)))))))
theorem x_access : tblX Tryz.prog X0 274 = some (.fn ⟨67, [(6, none)], s_access.den⟩) := by kernel_rfl
def s_checkCall : SC := (.q [
 .b 3 0,
 .b 4 1,
 .b 5 2,
 .v 6 (.n 0)] (.q [
 .o 11 (.build [(.str []), (.bool false), .nils, (.str [])] []),
 .o 7 (.box (.const (.agg [(.str []), (.bool false), .nils, (.str [])]))),
 .s (.store 4 7 11)] (.q [
 .v 8 .ff] (.seq (.q [
 .a 12 0 5,
 .r 13 12,
 .o 14 (.eql (.b .int) false 13 (.n 9))] (.cond 14
 (.q [
 .a 15 4 4,
 .r 16 15,
 .a 17 2 5,
 .r 18 17,
 .y 19 2 16 18,
 .a 20 1 19,
 .r 21 20,
 .v 9 21] (.seq (.q [
 .o 22 (.loadN 1 3),
 .v 23 9,
 .m 24 (.call (.f 272) [22, 23]),
 .o 25 (.not 24),
 .v 26 25,
 .g 27 (.mv 9) 26 false 0,
 .g 28 (.faddr 5 5) 26 false 0,
 .g 29 (.load1 28) 26 false 0,
 .g 30 (.eql (.b .str) true 27 29) 26 false 0,
 .o 31 (.pick 26 .tt 30)] (.cond 31
 (.q [
 .v 6 (.n 8)]
 .ret)
 .skip))
 (.q [
 .o 33 (.loadN 1 3),
 .v 34 9,
 .a 35 6 5,
 .r 36 35,
 .m 37 (.call (.f 378) [33, 34, 36]),
 .v 32 37,
 .o 38 (.extr 32 0),
 .o 39 (.extr 32 1),
 .o 40 (.extr 32 2),
 .s (.store 4 7 39),
 .v 8 40] (.reg [
 .v 41 8,
 .v 42 41,
 .g 43 (.faddr 1 7) 42 true 0,
 .g 44 (.load1 43) 42 true 0,
 .g 45 (.not 44) 42 true 0,
 .o 46 (.pick 42 45 .ff),
 .v 8 46]))))
 (.reg [
 .o 48 (.loadN 1 3),
 .a 49 5 5,
 .r 50 49,
 .a 51 6 5,
 .r 52 51,
 .m 53 (.call (.f 379) [48, 50, 52]),
 .v 47 53,
 .o 54 (.extr 47 0),
 .o 55 (.extr 47 1),
 .s (.store 4 7 54),
 .v 8 55])))
 (.seq (.q [
 .v 56 8,
 .o 57 (.not 56)] (.cond 57
 (.q [
 .v 6 (.n 6)]
 .ret)
 .skip))
 (.seq (.q [
 .a 58 2 7,
 .r 59 58,
 .o 60 (.lenL 59),
 .a 61 7 5,
 .r 62 61,
 .o 63 (.lenL 62),
 .o 64 (.eql (.b .int) true 60 63)] (.cond 64
 (.q [
 .v 6 (.n 9)]
 .ret)
 .skip))
 (.seq (.q [
 .v 10 (.n 0)] (.block 0
 (.loop
 (.seq (.q [
 .v 65 10,
 .a 66 7 5,
 .r 67 66,
 .o 68 (.lenL 67),
 .i 69 .lss 65 68] (.cond 69
 .skip
 (.exit 0)))
 (.seq (.block 1
 (.seq (.dreg [
 .l 72 (.loadN 1 3) 0 3,
 .a 73 4 4,
 .L 74 73 2,
 .a 75 7 5,
 .L 76 75 8,
 .v 77 10,
 .p 78 (.iaddr 1 76 77) 56,
 .L 79 78 120,
 .p 80 (.iaddr 2 74 79) 254,
 .p 81 (.faddr 1 80) 510,
 .L 82 81 1022,
 .a 83 2 7,
 .L 84 83 2048,
 .v 85 10,
 .p 86 (.iaddr 1 84 85) 14336,
 .L 87 86 30720,
 .c 88 (.call (.f 273) [72, 82, 87]) 65535,
 .p 89 (.not 88) 131071])
 (.cond 89
 (.q [
 .v 6 (.n 8)]
 .ret)
 .skip)))
 (.reg [
 .v 70 10,
 .i 71 .add 70 (.n 1),
 .v 10 71]))))))
 (.seq (.seq (.dreg [
 .a 90 1 5,
 .L 91 90 1,
 .p 92 (.eql (.b .int) true 91 (.const (.int .i64 (-1)))) 3,
 .w 93 92 7,
 .g 94 (.faddr 3 7) 93 true 15,
 ⟨(some 95), .load1 94, (some (93, true)), 31, false, false, (some 94)⟩,
 .g 96 (.eql (.b .str) false 95 (.t [])) 93 true 63,
 .g 97 (.mv 96) 93 true 127,
 ⟨(some 98), .loadN 1 3, (some (97, false)), 255, false, false, (some 3)⟩,
 .g 99 (.faddr 3 7) 97 false 255,
 ⟨(some 100), .load1 99, (some (97, false)), 767, false, false, (some 99)⟩,
 .g 101 (.faddr 4 4) 97 false 255,
 ⟨(some 102), .load1 101, (some (97, false)), 2303, false, false, (some 101)⟩,
 .g 103 (.faddr 1 5) 97 false 255,
 ⟨(some 104), .load1 103, (some (97, false)), 8447, false, false, (some 103)⟩,
 .g 105 (.iaddr 2 102 104) 97 false 30975,
 .g 106 (.faddr 1 105) 97 false 63743,
 ⟨(some 107), .load1 106, (some (97, false)), 129279, false, false, (some 106)⟩,
 ⟨(some 108), .call (.f 273) [98, 100, 107], (some (97, false)), 262143, true, true, none⟩,
 .g 109 (.not 108) 97 false 524287,
 .g 110 (.pick 97 .tt 109) 93 true 1048575,
 .p 111 (.pick 93 110 .ff) 2097151])
 (.cond 111
 (.q [
 .v 6 (.n 8)]
 .ret)
 .skip))
 (.q [
 .v 6 (.n 0)]
 .ret)))))))))
theorem x_checkCall : tblX Tryz.prog X0 275 = some (.fn ⟨112, [(6, none)], s_checkCall.den⟩) := by kernel_rfl
def s_ints : SC := (.q [
 .b 3 0,
 .b 4 1,
 .b 5 2,
 .v 6 .ff] (.q [
 .v 7 (.t []),
 .v 8 (.t []),
 .v 9 (.t [])] (.seq (.q [
 .a 10 0 5,
 .r 11 10,
 .m 12 (.call (.f 270) [11, (.const (.int .u8 100))])] (.cond 12
 (.reg [
 .a 13 4 4,
 .r 14 13,
 .a 15 1 5,
 .r 16 15,
 .y 17 2 14 16,
 .a 18 1 17,
 .r 19 18,
 .v 7 19])
 .skip))
 (.seq (.q [
 .a 20 0 5,
 .r 21 20,
 .m 22 (.call (.f 270) [21, (.const (.int .u8 97))]),
 .v 23 22,
 .g 24 (.faddr 2 5) 23 true 0,
 .g 25 (.load1 24) 23 true 0,
 .g 26 (.ints .geq 25 (.n 0)) 23 true 0,
 .o 27 (.pick 23 26 .ff)] (.cond 27
 (.reg [
 .a 28 4 4,
 .r 29 28,
 .a 30 2 5,
 .r 31 30,
 .y 32 2 29 31,
 .a 33 1 32,
 .r 34 33,
 .v 8 34])
 .skip))
 (.seq (.q [
 .a 35 0 5,
 .r 36 35,
 .m 37 (.call (.f 270) [36, (.const (.int .u8 98))])] (.cond 37
 (.reg [
 .a 38 4 4,
 .r 39 38,
 .a 40 3 5,
 .r 41 40,
 .y 42 2 39 41,
 .a 43 1 42,
 .r 44 43,
 .v 9 44])
 .skip))
 (.seq (.q [
 .a 45 0 5,
 .r 46 45] (.block 0
 (.seq (.q [
 .o 48 (.eql (.b .int) false 46 (.n 1)),
 .v 47 48] (.cond 47
 .skip
 (.reg [
 .o 49 (.eql (.b .int) false 46 (.n 5)),
 .v 47 49])))
 (.cond 47
 (.q [
 .v 50 7,
 .o 51 (.eql (.b .str) false 50 (.t [105, 110, 116])),
 .v 6 51]
 .ret)
 (.q [
 .o 53 (.eql (.b .int) false 46 (.n 2)),
 .v 52 53] (.cond 52
 (.q [
 .v 54 7,
 .o 55 (.eql (.b .str) true 54 (.t [105, 110, 116])),
 .v 6 55]
 .ret)
 (.q [
 .o 57 (.eql (.b .int) false 46 (.n 3)),
 .v 56 57] (.cond 56
 (.q [
 .o 58 (.loadN 1 3),
 .v 59 8,
 .v 60 7,
 .m 61 (.call (.f 273) [58, 59, 60]),
 .v 6 61]
 .ret)
 (.q [
 .o 63 (.eql (.b .int) false 46 (.n 16)),
 .v 62 63] (.cond 62
 (.q [
 .v 64 8,
 .o 65 (.eql (.b .str) false 64 (.t [105, 110, 116])),
 .v 66 65,
 .g 67 (.mv 7) 66 true 0,
 .g 68 (.eql (.b .str) false 67 (.t [105, 110, 116])) 66 true 0,
 .o 69 (.pick 66 68 .ff),
 .v 6 69]
 .ret)
 (.q [
 .o 71 (.eql (.b .int) false 46 (.n 11)),
 .v 70 71] (.cond 70
 (.q [
 .v 72 8,
 .o 73 (.eql (.b .str) false 72 (.t [105, 110, 116])),
 .v 6 73]
 .ret)
 (.q [
 .o 75 (.eql (.b .int) false 46 (.n 14)),
 .v 74 75] (.cond 74
 (.q [
 .v 76 8,
 .o 77 (.eql (.b .str) true 76 (.t [105, 110, 116])),
 .v 6 77]
 .ret)
 (.q [
 .o 79 (.eql (.b .int) false 46 (.n 4)),
 .v 78 79] (.cond 78
 (.q [
 .v 80 7,
 .o 81 (.eql (.b .str) false 80 (.t [105, 110, 116])),
 .v 82 81,
 .g 83 (.mv 8) 82 true 0,
 .g 84 (.eql (.b .str) false 83 (.t [105, 110, 116])) 82 true 0,
 .g 85 (.mv 84) 82 true 0,
 .g 86 (.mv 9) 85 true 0,
 .g 87 (.eql (.b .str) false 86 (.t [105, 110, 116])) 85 true 0,
 .g 88 (.pick 85 87 .ff) 82 true 0,
 .g 89 (.mv 88) 82 true 0,
 .g 90 (.faddr 4 5) 89 false 0,
 .g 91 (.load1 90) 89 false 0,
 .g 92 (.eql (.b .int) false 91 (.n 5)) 89 false 0,
 .g 93 (.mv 92) 89 false 0,
 .g 94 (.mv 8) 93 true 0,
 .g 95 (.eql (.b .str) true 94 (.t [105, 110, 116])) 93 true 0,
 .g 96 (.pick 93 95 .ff) 89 false 0,
 .g 97 (.mv 96) 89 false 0,
 .g 98 (.mv 9) 97 true 0,
 .g 99 (.eql (.b .str) true 98 (.t [105, 110, 116])) 97 true 0,
 .g 100 (.pick 97 99 .ff) 89 false 0,
 .g 101 (.pick 89 .tt 100) 82 true 0,
 .o 102 (.pick 82 101 .ff),
 .v 6 102]
 .ret)
 (.q [
 .o 104 (.eql (.b .int) false 46 (.n 13)),
 .v 103 104] (.cond 103
 (.q [
 .a 105 2 5,
 .r 106 105,
 .o 107 (.eql (.b .int) false 106 (.const (.int .i64 (-1)))),
 .v 108 107,
 .g 109 (.loadN 1 3) 108 false 0,
 .g 110 (.mv 8) 108 false 0,
 .g 111 (.faddr 5 4) 108 false 0,
 .g 112 (.load1 111) 108 false 0,
 ⟨(some 113), .call (.f 273) [109, 110, 112], (some (108, false)), 0, true, false, none⟩,
 .o 114 (.pick 108 .tt 113),
 .v 6 114]
 .ret)
 .skip))))))))))))))))))
 (.q [
 .v 6 .tt]
 .ret)))))))
theorem x_ints : tblX Tryz.prog X0 276 = some (.fn ⟨115, [(6, none)], s_ints.den⟩) := by kernel_rfl
def s_tsuper : SC := (.q [
 .b 2 0,
 .v 4 (.n 0)] (.seq (.q [
 .a 5 0 2,
 .r 6 5,
 .v 7 1,
 .y 8 4 6 7,
 .a 9 1 8,
 .r 10 9,
 .o 11 (.eql (.b .str) false 10 (.t []))] (.cond 11
 (.q [
 .o 4 (.mv (.const (.int .i64 (-1))))]
 .ret)
 .skip))
 (.seq (.dreg [
 .l 12 (.loadN 2 2) 0 2,
 .a 13 0 2,
 .L 14 13 2,
 .v 15 1,
 .p 16 (.iaddr 4 14 15) 14,
 .p 17 (.faddr 1 16) 30,
 .L 18 17 62,
 .c 19 (.call (.f 163) [12, 18]) 127,
 .w 4 19 255])
 .ret)))
theorem x_tsuper : tblX Tryz.prog X0 277 = some (.fn ⟨20, [(4, none)], s_tsuper.den⟩) := by kernel_rfl
def s_Field10 : SC := (.q [
 .b 3 0,
 .v 6 (.t []),
 .v 7 (.t []),
 .v 8 .ff] (.q [
 .o 13 (.loadN 1 3),
 .v 14 1,
 .m 15 (.call (.f 48) [13, 14]),
 .v 9 15] (.seq (.q [
 .v 10 (.n 0)] (.block 0
 (.loop
 (.seq (.q [
 .v 16 10,
 .v 17 9,
 .o 18 (.lenL 17),
 .i 19 .lss 16 18] (.cond 19
 .skip
 (.exit 0)))
 (.seq (.block 1
 (.seq (.dreg [
 .a 22 0 3,
 .L 23 22 1,
 .l 24 (.loadN 1 3) 0 3,
 .v 25 9,
 .v 26 10,
 .p 27 (.iaddr 1 25 26) 24,
 .L 28 27 56,
 .c 29 (.call (.f 49) [24, 28]) 124,
 .p 30 (.iaddr 4 23 29) 255,
 .l 31 (.loadN 4 30) 511 30,
 .o 11 (.box (.const (.agg [(.str []), (.str []), .nils, .nils]))),
 .S (.store 4 11 31) 2047])
 (.q [
 .v 12 (.n 0)] (.block 2
 (.loop
 (.seq (.q [
 .v 32 12,
 .a 33 2 11,
 .r 34 33,
 .o 35 (.lenL 34),
 .i 36 .lss 32 35] (.cond 36
 .skip
 (.exit 2)))
 (.seq (.block 3
 (.q [
 .a 39 2 11,
 .r 40 39,
 .v 41 12,
 .y 42 2 40 41,
 .a 43 0 42,
 .r 44 43,
 .v 45 2,
 .o 46 (.eql (.b .str) false 44 45)] (.cond 46
 (.seq (.dreg [
 .v 47 9,
 .v 48 10,
 .p 49 (.iaddr 1 47 48) 3,
 .L 50 49 7,
 .a 51 2 11,
 .L 52 51 16,
 .v 53 12,
 .p 54 (.iaddr 2 52 53) 112,
 .p 55 (.faddr 1 54) 240,
 .L 56 55 496,
 .w 6 50 15,
 .w 7 56 2047,
 .w 8 .tt 4095])
 .ret)
 .skip)))
 (.reg [
 .v 37 12,
 .i 38 .add 37 (.n 1),
 .v 12 38]))))))))
 (.reg [
 .v 20 10,
 .i 21 .add 20 (.n 1),
 .v 10 21]))))))
 (.q [
 .v 6 (.t []),
 .v 7 (.t []),
 .v 8 .ff]
 .ret))))
theorem x_Field10 : tblX Tryz.prog X0 373 = some (.fn ⟨57, [(6, none), (7, none), (8, none)], s_Field10.den⟩) := by kernel_rfl
def s_types10 : SC := (.q [
 .b 2 0,
 .b 3 1,
 .v 4 (.n 0)] (.seq (.q [
 .v 5 (.n 0)] (.block 0
 (.loop
 (.seq (.q [
 .v 6 5,
 .a 7 2 3,
 .r 8 7,
 .o 9 (.lenL 8),
 .i 10 .lss 6 9] (.cond 10
 .skip
 (.exit 0)))
 (.seq (.block 1
 (.seq (.dreg [
 .l 13 (.loadN 1 2) 0 2,
 .a 14 2 3,
 .L 15 14 2,
 .v 16 5,
 .p 17 (.iaddr 1 15 16) 14,
 .L 18 17 30,
 .c 19 (.call (.f 156) [13, 18]) 63,
 .p 20 (.not 19) 127])
 (.cond 20
 (.q [
 .v 4 (.n 8)]
 .ret)
 .skip)))
 (.reg [
 .v 11 5,
 .i 12 .add 11 (.n 1),
 .v 5 12]))))))
 (.seq (.q [
 .a 21 3 3,
 .r 22 21,
 .o 23 (.eql (.b .str) true 22 (.t [])),
 .v 24 23,
 .g 25 (.loadN 1 2) 24 true 0,
 .g 26 (.faddr 3 3) 24 true 0,
 .g 27 (.load1 26) 24 true 0,
 ⟨(some 28), .call (.f 156) [25, 27], (some (24, true)), 0, true, false, none⟩,
 .g 29 (.not 28) 24 true 0,
 .o 30 (.pick 24 29 .ff)] (.cond 30
 (.q [
 .v 4 (.n 8)]
 .ret)
 .skip))
 (.q [
 .v 4 (.n 0)]
 .ret))))
theorem x_types10 : tblX Tryz.prog X0 374 = some (.fn ⟨31, [(4, none)], s_types10.den⟩) := by kernel_rfl
def s_overrides : SC := (.q [
 .b 3 0,
 .b 5 2,
 .v 6 .ff] (.q [
 .o 11 (.loadN 1 3),
 .v 12 1,
 .m 13 (.call (.f 441) [11, 12]),
 .v 7 13] (.seq (.q [
 .v 8 (.n 0)] (.block 0
 (.loop
 (.seq (.q [
 .v 14 8,
 .v 15 7,
 .o 16 (.lenL 15),
 .i 17 .lss 14 16] (.cond 17
 .skip
 (.exit 0)))
 (.seq (.block 1
 (.seq (.dreg [
 .a 20 0 3,
 .L 21 20 1,
 .l 22 (.loadN 1 3) 0 3,
 .v 23 7,
 .v 24 8,
 .p 25 (.iaddr 1 23 24) 24,
 .L 26 25 56,
 .c 27 (.call (.f 49) [22, 26]) 124,
 .p 28 (.iaddr 4 21 27) 255,
 .l 29 (.loadN 4 28) 511 28,
 .o 9 (.box (.const (.agg [(.str []), (.str []), .nils, .nils]))),
 .S (.store 4 9 29) 2047])
 (.q [
 .v 10 (.n 0)] (.block 2
 (.loop
 (.seq (.q [
 .v 30 10,
 .a 31 3 9,
 .r 32 31,
 .o 33 (.lenL 32),
 .i 34 .lss 30 33] (.cond 34
 .skip
 (.exit 2)))
 (.seq (.block 3
 (.seq (.dreg [
 .a 37 3 9,
 .L 38 37 1,
 .v 39 10,
 .p 40 (.iaddr 4 38 39) 7,
 .p 41 (.faddr 0 40) 15,
 .L 42 41 31,
 .a 43 0 5,
 .L 44 43 64,
 .p 45 (.eql (.b .str) false 42 44) 255,
 .w 46 45 511,
 .g 47 (.faddr 3 9) 46 true 1023,
 ⟨(some 48), .load1 47, (some (46, true)), 2047, false, false, (some 47)⟩,
 .g 49 (.mv 10) 46 true 1023,
 .g 50 (.iaddr 4 48 49) 46 true 8191,
 .g 51 (.faddr 1 50) 46 true 16383,
 ⟨(some 52), .load1 51, (some (46, true)), 32767, false, false, (some 51)⟩,
 .g 53 (.mv 52) 46 true 65535,
 .g 54 (.faddr 1 5) 53 false 131071,
 ⟨(some 55), .load1 54, (some (53, false)), 262143, false, false, (some 54)⟩,
 .g 56 (.pick 53 .tt 55) 46 true 524287,
 .g 57 (.mv 56) 46 true 1048575,
 .g 58 (.faddr 3 9) 57 false 2097151,
 ⟨(some 59), .load1 58, (some (57, false)), 4194303, false, false, (some 58)⟩,
 .g 60 (.mv 10) 57 false 2097151,
 .g 61 (.iaddr 4 59 60) 57 false 16777215,
 ⟨(some 62), .loadN 4 61, (some (57, false)), 33554431, false, false, (some 61)⟩,
 ⟨(some 63), .loadN 4 5, (some (57, false)), 2097151, false, false, (some 5)⟩,
 ⟨(some 64), .call (.f 442) [62, 63], (some (57, false)), 134217727, true, true, none⟩,
 .g 65 (.not 64) 57 false 268435455,
 .g 66 (.pick 57 .tt 65) 46 true 536870911,
 .p 67 (.pick 46 66 .ff) 1073741823])
 (.cond 67
 (.q [
 .v 6 .tt]
 .ret)
 .skip)))
 (.reg [
 .v 35 10,
 .i 36 .add 35 (.n 1),
 .v 10 36]))))))))
 (.reg [
 .v 18 8,
 .i 19 .add 18 (.n 1),
 .v 8 19]))))))
 (.q [
 .v 6 .ff]
 .ret))))
theorem x_overrides : tblX Tryz.prog X0 375 = some (.fn ⟨68, [(6, none)], s_overrides.den⟩) := by kernel_rfl
def s_digit : SC := (.q [
 .v 2 .ff] (.q [
 .v 3 0,
 .o 4 (.ints .geq 3 (.const (.int .u8 48))),
 .v 5 4,
 .g 6 (.mv 0) 5 true 0,
 .g 7 (.ints .leq 6 (.const (.int .u8 57))) 5 true 0,
 .o 8 (.pick 5 7 .ff),
 .v 2 8]
 .ret))
theorem x_digit : tblX Tryz.prog X0 282 = some (.fn ⟨9, [(2, none)], s_digit.den⟩) := by kernel_rfl
def s_Form : SC := (.q [
 .v 2 (.t [])] (.q [
 .o 4 (.bslice 17 [(.str [])] [(0, 1, (.t [])), (1, 1, (.t [100, 110])), (2, 1, (.t [100])), (3, 1, (.t [100, 97])), (4, 1, (.t [100, 97, 111, 98])), (5, 1, (.t [100])), (6, 1, (.t [100, 99])), (7, 1, (.t [100, 97, 109])), (8, 1, (.t [97, 109, 98])), (9, 1, (.t [100, 97, 99, 109, 108])), (10, 1, (.t [100, 99, 109, 108])), (11, 1, (.t [97, 103])), (12, 1, (.t [103])), (13, 1, (.t [97])), (14, 1, (.t [97])), (15, 1, (.t [100, 99])), (16, 1, (.t [100, 97, 110]))]),
 .v 3 4] (.q [
 .v 5 3,
 .v 6 0,
 .y 7 1 5 6,
 .r 8 7,
 .v 2 8]
 .ret)))
theorem x_Form : tblX Tryz.prog X0 376 = some (.fn ⟨9, [(2, none)], s_Form.den⟩) := by kernel_rfl
def s_IsSub : SC := (.q [
 .b 3 0,
 .v 6 .ff] (.q [
 .o 7 (.loadN 1 3),
 .v 8 1,
 .m 9 (.call (.f 48) [7, 8]),
 .v 10 2,
 .m 11 (.call (.f 172) [9, 10]),
 .v 6 11]
 .ret))
theorem x_IsSub : tblX Tryz.prog X0 377 = some (.fn ⟨12, [(6, none)], s_IsSub.den⟩) := by kernel_rfl
def s_Lookup : SC := (.q [
 .b 3 0,
 .v 6 (.t []),
 .o 7 (.box (.const (.agg [(.str []), (.bool false), .nils, (.str [])]))),
 .v 8 .ff] (.q [
 .o 13 (.loadN 1 3),
 .v 14 1,
 .m 15 (.call (.f 48) [13, 14]),
 .v 9 15] (.seq (.q [
 .v 10 (.n 0)] (.block 0
 (.loop
 (.seq (.q [
 .v 16 10,
 .v 17 9,
 .o 18 (.lenL 17),
 .i 19 .lss 16 18] (.cond 19
 .skip
 (.exit 0)))
 (.seq (.block 1
 (.seq (.dreg [
 .a 22 0 3,
 .L 23 22 1,
 .l 24 (.loadN 1 3) 0 3,
 .v 25 9,
 .v 26 10,
 .p 27 (.iaddr 1 25 26) 24,
 .L 28 27 56,
 .c 29 (.call (.f 49) [24, 28]) 124,
 .p 30 (.iaddr 4 23 29) 255,
 .l 31 (.loadN 4 30) 511 30,
 .o 11 (.box (.const (.agg [(.str []), (.str []), .nils, .nils]))),
 .S (.store 4 11 31) 2047])
 (.q [
 .v 12 (.n 0)] (.block 2
 (.loop
 (.seq (.q [
 .v 32 12,
 .a 33 3 11,
 .r 34 33,
 .o 35 (.lenL 34),
 .i 36 .lss 32 35] (.cond 36
 .skip
 (.exit 2)))
 (.seq (.block 3
 (.q [
 .a 39 3 11,
 .r 40 39,
 .v 41 12,
 .y 42 4 40 41,
 .a 43 0 42,
 .r 44 43,
 .v 45 2,
 .o 46 (.eql (.b .str) false 44 45)] (.cond 46
 (.seq (.dreg [
 .v 47 9,
 .v 48 10,
 .p 49 (.iaddr 1 47 48) 3,
 .L 50 49 7,
 .a 51 3 11,
 .L 52 51 16,
 .v 53 12,
 .p 54 (.iaddr 4 52 53) 112,
 .l 55 (.loadN 4 54) 240 54,
 .w 6 50 15,
 .S (.store 4 7 55) 1023,
 .w 8 .tt 2047])
 .ret)
 .skip)))
 (.reg [
 .v 37 12,
 .i 38 .add 37 (.n 1),
 .v 12 38]))))))))
 (.reg [
 .v 20 10,
 .i 21 .add 20 (.n 1),
 .v 10 21]))))))
 (.q [
 .o 56 (.build [(.str []), (.bool false), .nils, (.str [])] []),
 .v 6 (.t []),
 .s (.store 4 7 56),
 .v 8 .ff]
 .ret))))
theorem x_Lookup : tblX Tryz.prog X0 378 = some (.fn ⟨57, [(6, none), (7, some (some 4)), (8, none)], s_Lookup.den⟩) := by kernel_rfl
def s_declares : SC := (.q [
 .b 3 0,
 .o 6 (.box (.const (.agg [(.str []), (.bool false), .nils, (.str [])]))),
 .v 7 .ff] (.q [
 .o 12 (.loadN 1 3),
 .v 13 1,
 .v 14 2,
 .m 15 (.call (.f 378) [12, 13, 14]),
 .v 11 15,
 .o 16 (.extr 11 0),
 .o 17 (.extr 11 1),
 .o 18 (.extr 11 2),
 .o 9 (.box (.const (.agg [(.str []), (.bool false), .nils, (.str [])]))),
 .v 8 16,
 .s (.store 4 9 17),
 .v 10 18] (.seq (.dreg [
 .l 19 (.loadN 4 9) 0 9,
 .v 20 10,
 .w 21 20 2,
 .g 22 (.mv 8) 21 true 6,
 .g 23 (.mv 1) 21 true 6,
 .g 24 (.eql (.b .str) false 22 23) 21 true 30,
 .p 25 (.pick 21 24 .ff) 62,
 .w 26 25 126,
 .g 27 (.faddr 1 9) 26 true 254,
 ⟨(some 28), .load1 27, (some (26, true)), 510, false, false, (some 27)⟩,
 .p 29 (.pick 26 28 .ff) 1022,
 .S (.store 4 6 19) 255,
 .w 7 29 4095])
 .ret)))
theorem x_declares : tblX Tryz.prog X0 379 = some (.fn ⟨30, [(6, some (some 4)), (7, none)], s_declares.den⟩) := by kernel_rfl
def s_up : SC := (.q [
 .b 2 0,
 .v 4 .nl] (.q [
 .o 6 (.loadN 1 2),
 .v 7 1,
 .m 8 (.call (.f 48) [6, 7]),
 .v 5 8] (.seq (.q [
 .v 9 5,
 .o 10 (.lenL 9),
 .o 11 (.eql (.b .int) false 10 (.n 0))] (.cond 11
 (.q [
 .v 4 .nl]
 .ret)
 .skip))
 (.q [
 .v 12 5,
 .o 13 (.slice 1 12 (some (.n 1)) none),
 .v 4 13]
 .ret))))
theorem x_up : tblX Tryz.prog X0 441 = some (.fn ⟨14, [(4, none)], s_up.den⟩) := by kernel_rfl
def s_SameSig : SC := (.q [
 .b 2 0,
 .b 3 1,
 .v 4 .ff] (.seq (.q [
 .a 6 2 2,
 .r 7 6,
 .o 8 (.lenL 7),
 .a 9 2 3,
 .r 10 9,
 .o 11 (.lenL 10),
 .o 12 (.eql (.b .int) true 8 11),
 .v 13 12,
 .g 14 (.faddr 3 2) 13 false 0,
 .g 15 (.load1 14) 13 false 0,
 .g 16 (.faddr 3 3) 13 false 0,
 .g 17 (.load1 16) 13 false 0,
 .g 18 (.eql (.b .str) true 15 17) 13 false 0,
 .o 19 (.pick 13 .tt 18)] (.cond 19
 (.q [
 .v 4 .ff]
 .ret)
 .skip))
 (.seq (.q [
 .v 5 (.n 0)] (.block 0
 (.loop
 (.seq (.q [
 .v 20 5,
 .a 21 2 2,
 .r 22 21,
 .o 23 (.lenL 22),
 .i 24 .lss 20 23] (.cond 24
 .skip
 (.exit 0)))
 (.seq (.block 1
 (.seq (.dreg [
 .a 27 2 2,
 .L 28 27 1,
 .v 29 5,
 .p 30 (.iaddr 1 28 29) 7,
 .L 31 30 15,
 .a 32 2 3,
 .L 33 32 32,
 .v 34 5,
 .p 35 (.iaddr 1 33 34) 224,
 .L 36 35 480,
 .p 37 (.eql (.b .str) true 31 36) 1023])
 (.cond 37
 (.q [
 .v 4 .ff]
 .ret)
 .skip)))
 (.reg [
 .v 25 5,
 .i 26 .add 25 (.n 1),
 .v 5 26]))))))
 (.q [
 .v 4 .tt]
 .ret))))
theorem x_SameSig : tblX Tryz.prog X0 442 = some (.fn ⟨38, [(4, none)], s_SameSig.den⟩) := by kernel_rfl
end Go.Proofs.YtmdceifbbmnfgaaGreatDoor.Ev