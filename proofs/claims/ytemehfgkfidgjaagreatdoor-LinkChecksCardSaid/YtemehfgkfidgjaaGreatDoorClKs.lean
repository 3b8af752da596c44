/- CoverStates, part 29 -/
import Derived.Test.YtemehfgkfidgjaaGreatDoorNdG
import Derived.Test.YtemehfgkfidgjaaGreatDoorClG
set_option linter.all false
set_option maxHeartbeats 4000000
namespace Go.Proofs.YtemehfgkfidgjaaGreatDoor.Ev
open Go
def lv:Sk:=(.seq (.fU (.cN [
   .o 2 (.box 0),
   .o 4 (.mv (.const .eG))]))
 (.seq (.fU (.cN [
  .o 12 (.ao 3 2),
  .o 13 (.jG),
  .o 14 (.jG),
  .o 15 (.jG),
  .o 16 (.build [.aE,.aE,(.int .i64 0),.dt,.dt,.dt] [(0,3,12),(3,1,13),(4,1,14),(5,1,15)]),
  .o 17 (.box 16),
  .o 5 (.mv 17)]))
 (.seq (.fU (.seq (.cN [
  .o 18 (.mv 1),
  .o 19 (.aM 18),
  .o 20 (.mv .z)])
 (.block 0
  (.loop
   (.seq (.cN [
    .o 21 (.ints .lss 20 19)])
   (.seq (.cond 21
    .skip
    (.exit 0))
   (.seq (.block 1
    (.seq (.cN [
     .o 22 (.aQ 1 18 20),
     .o 23 (.ax 22),
     .o 7 (.mv 23)])
    (.seq (.cN [
     .o 24 (.aq 0 2),
     .o 25 (.ao 1 24),
     .o 26 (.mv 7),
     .m 27 (.call (.const (.fn 13 [])) [25,26]),
     .o 28 (.ints .geq 27 .z)])
    (.cond 28
     (.cN [
        .o 29 (.mv 5),
        .o 30 (.cu 29),
        .o 31 (.aq 3 30),
        .o 32 (.ax 31),
        .o 33 (.mv 7),
        .n (.fe (.b .str) 32 33 (.const (.bool true)))])
     .skip))))
   (.cN [
    .o 34 (.ints .add 20 (.const (.int .i64 1))),
    .o 20 (.mv 34)]))))))))
 (.seq (.fU (.seq (.cN [
  .o 35 (.aq 1 2),
  .o 36 (.ax 35),
  .o 37 (.aM 36),
  .o 38 (.mv .z)])
 (.block 2
  (.loop
   (.seq (.cN [
    .o 39 (.ints .lss 38 37)])
   (.seq (.cond 39
    .skip
    (.exit 2))
   (.seq (.block 3
    (.seq (.cN [
     .o 40 (.mv 38),
     .o 41 (.aQ 7 36 38),
     .o 42 (.ao 7 41),
     .o 9 (.box (.const (.agg [(.str []),(.str []),(.bool false),(.int .i64 0),.aE,(.str []),.aE]))),
     .o 8 (.mv 40),
     .n (.store 7 9 42)])
    (.seq (.bI [
     .o 43 (.mv 5),
     ⟨(some 44),.cu 43,none,1,false,false,none⟩,
     ⟨(some 45),.aq 3 44,none,3,false,false,none⟩,
     ⟨(some 46),.ax 45,none,7,false,false,(some 45)⟩,
     .o 47 (.aq 0 9),
     ⟨(some 48),.ax 47,none,16,false,false,(some 47)⟩,
     ⟨(some 49),.lookup (.b .str) (.bool false) 46 48 false,none,63,false,false,(some 46)⟩])
    (.cond 49
     (.cN [
        .o 50 (.mv 5),
        .o 51 (.cu 50),
        .o 52 (.aq 4 51),
        .o 53 (.ax 52),
        .o 54 (.mv 8),
        .n (.fe (.b .int) 53 54 (.const (.bool true)))])
     .skip))))
   (.cN [
    .o 55 (.ints .add 38 (.const (.int .i64 1))),
    .o 38 (.mv 55)]))))))))
 (.seq (.seq (.fU (.cN [
  .o 10 (.mv (.const (.bool true)))]))
 (.block 4
  (.loop
   (.seq (.fU (.seq (.cN [
    .o 56 (.mv 10)])
   (.cond 56
    .skip
    (.exit 4))))
   (.block 5
    (.seq (.fU (.cN [
     .o 10 (.mv (.const (.bool false)))]))
    (.seq (.fU (.cN [
     .o 57 (.mv 5),
     .o 58 (.cu 57),
     .o 59 (.aq 4 58),
     .o 60 (.ax 59),
     .m 61 (.range 60)]))
    (.block 6
     (.loop
      (.seq (.Bc 62 61 [.o 63 (.bu 62 0)])
      (.fU (.seq (.cond 63
       .skip
       (.exit 6))
      (.block 7
       (.seq (.cN [
        .m 64 (.entry 61),
        .o 65 (.bu 64 0),
        .o 11 (.mv 65)])
       (.seq (.cN [
        .o 66 (.mv 5),
        .o 67 (.mv 11),
        .m 68 (.call (.const (.fn 97 [])) [66,67])])
       (.cond 68
        (.seq (.cN [
           .o 69 (.mv 5),
           .o 70 (.cu 69),
           .o 71 (.aq 4 70),
           .o 72 (.ax 71),
           .o 73 (.mv 11),
           .n (.delete (.b .int) 72 73)])
         (.cN [
          .o 10 (.mv (.const (.bool true)))]))
        .skip))))))))))))))))
 (.fU (.seq (.cN [
  .o 74 (.mv 5),
  .o 4 (.mv 74)])
 .ret)))))))
theorem sZ:DG Tryz.prog 42 75 [(4,none)] lv:=Bd (by kernel_rfl)
def se:Sk:=(.seq (.fU (.cN [
   .o 8 (.jG),
   .o 2 (.mv 8)]))
 (.seq (.seq (.fU (.cN [
  .o 9 (.mv 0),
  .o 10 (.cu 9),
  .o 11 (.aq 4 10),
  .o 12 (.ax 11),
  .m 13 (.range 12)]))
 (.block 0
  (.loop
   (.seq (.Bc 14 13 [.o 15 (.bu 14 0)])
   (.fU (.seq (.cond 15
    .skip
    (.exit 0))
   (.block 1
    (.seq (.cN [
     .m 16 (.entry 13),
     .o 17 (.bu 16 0),
     .o 3 (.mv 17)])
    (.seq (.cN [
     .o 18 (.mv 2),
     .o 19 (.mv 3),
     .o 20 (.mv 0),
     .o 21 (.mv 3),
     .m 22 (.call (.const (.fn 98 [])) [20,21]),
     .n (.fe (.b .int) 18 19 22)])
    (.cN [
     .o 23 (.mv 0),
     .o 24 (.cu 23),
     .o 25 (.aq 5 24),
     .o 26 (.ax 25),
     .o 27 (.mv 3),
     .o 28 (.jG),
     .n (.fe (.b .int) 26 27 28)]))))))))))
 (.seq (.fU (.cN [
  .o 4 (.mv (.const (.bool true)))]))
 (.block 2
  (.loop
   (.seq (.fU (.seq (.cN [
    .o 29 (.mv 4)])
   (.cond 29
    .skip
    (.exit 2))))
   (.block 3
    (.seq (.fU (.cN [
     .o 4 (.mv (.const (.bool false)))]))
    (.seq (.fU (.cN [
     .o 30 (.mv 0),
     .o 31 (.cu 30),
     .o 32 (.aq 4 31),
     .o 33 (.ax 32),
     .m 34 (.range 33)]))
    (.block 4
     (.loop
      (.seq (.Bc 35 34 [.o 36 (.bu 35 0)])
      (.fU (.seq (.cond 36
       .skip
       (.exit 4))
      (.block 5
       (.seq (.cN [
        .m 37 (.entry 34),
        .o 38 (.bu 37 0),
        .o 5 (.mv 38)])
       (.seq (.cN [
        .o 39 (.mv 0),
        .o 40 (.mv 2),
        .o 41 (.mv 5),
        .o 42 (.lookup (.b .int) .eG 40 41 false),
        .m 43 (.call (.const (.fn 99 [])) [39,42]),
        .o 44 (.aM 43),
        .o 45 (.mv .z)])
       (.block 6
        (.loop
         (.seq (.cN [
          .o 46 (.ints .lss 45 44)])
         (.seq (.cond 46
          .skip
          (.exit 6))
         (.seq (.block 7
          (.seq (.cN [
           .o 47 (.aQ 2 43 45),
           .o 48 (.ao 2 47),
           .o 7 (.box (.const (.agg [(.int .i64 0),(.int .i64 0)]))),
           .n (.store 2 7 48)])
          (.seq (.bI [
           .o 49 (.mv 0),
           ⟨(some 50),.cu 49,none,1,false,false,none⟩,
           ⟨(some 51),.aq 5 50,none,3,false,false,none⟩,
           ⟨(some 52),.ax 51,none,7,false,false,(some 51)⟩,
           .o 53 (.mv 5),
           ⟨(some 54),.lookup (.b .int) .dt 52 53 false,none,31,false,false,(some 52)⟩,
           ⟨(some 55),.ao 2 7,none,0,false,false,(some 7)⟩,
           ⟨(some 56),.lookup (.st [.int,.int]) (.bool false) 54 55 false,none,127,false,false,(some 54)⟩,
           ⟨(some 57),.not 56,none,255,false,false,none⟩])
          (.cond 57
           (.seq (.bI [
              .o 58 (.mv 0),
              ⟨(some 59),.cu 58,none,1,false,false,none⟩,
              ⟨(some 60),.aq 5 59,none,3,false,false,none⟩,
              ⟨(some 61),.ax 60,none,7,false,false,(some 60)⟩,
              .o 62 (.mv 5),
              ⟨(some 63),.lookup (.b .int) .dt 61 62 false,none,31,false,false,(some 61)⟩,
              ⟨(some 64),.ao 2 7,none,0,false,false,(some 7)⟩,
              ⟨none,.fe (.st [.int,.int]) 63 64 (.const (.bool true)),none,127,true,true,none⟩])
            (.cN [
             .o 4 (.mv (.const (.bool true)))]))
           .skip))))
         (.cN [
          .o 65 (.ints .add 45 (.const (.int .i64 1))),
          .o 45 (.mv 65)])))))))))))))))))))))))
theorem yZ:DG Tryz.prog 43 66 [] se:=Bd (by kernel_rfl)
def uu:Sk:=(.seq (.fU (.cN [
   .o 4 (.mv (.const .aE))]))
 (.seq (.fU (.cN [
  .o 5 (.mv (.const .aE))]))
 (.seq (.seq (.fU (.cN [
  .o 7 (.mv 0),
  .o 8 (.cu 7),
  .o 9 (.aq 5 8),
  .o 10 (.ax 9),
  .o 11 (.mv 1),
  .o 12 (.lookup (.b .int) .dt 10 11 false),
  .m 13 (.range 12)]))
 (.block 0
  (.loop
   (.seq (.Bc 14 13 [.o 15 (.bu 14 0)])
   (.fU (.seq (.cond 15
    .skip
    (.exit 0))
   (.block 1
    (.seq (.cN [
     .m 16 (.entry 13),
     .o 17 (.bu 16 0),
     .o 6 (.box (.const (.agg [(.int .i64 0),(.int .i64 0)]))),
     .n (.store 2 6 17)])
    (.cN [
     .o 18 (.mv 5),
     .o 19 (.ao 2 6),
     .o 20 (.bq 1 [(.int .i64 0),(.int .i64 0)] [(0,2,19)]),
     .m 21 (.append 2 16 18 20),
     .o 5 (.mv 21)])))))))))
 (.seq (.call 1 [.o 22 (.mv 5)] [] 23 100 [22,(.const (.fn 88 []))])
 (.fU (.seq (.cN [
  .o 24 (.mv 5),
  .o 4 (.mv 24)])
 .ret))))))
theorem Be:DG Tryz.prog 45 25 [(4,none)] uu:=Bd (by kernel_rfl)
def uv:Sk:=(.seq (.fU (.cN [
   .o 2 (.box 0),
   .o 4 (.box (.const (.agg [(.int .i64 0),.aE]))),
   .o 5 (.mv .z)]))
 (.seq (.fU (.seq (.cN [
  .o 17 (.ao 3 2),
  .m 18 (.call (.const (.fn 12 [])) [17]),
  .o 16 (.mv 18),
  .o 19 (.bu 16 0),
  .o 20 (.bu 16 1),
  .o 21 (.bu 16 2),
  .o 6 (.mv 19),
  .o 7 (.mv 20),
  .o 8 (.mv 21)])
 (.seq (.cN [
  .o 22 (.mv 8),
  .o 23 (.eql (.b .int) true 22 .z)])
 (.cond 23
  (.seq (.cN [
     .o 24 (.build [(.int .i64 0),.aE] []),
     .o 25 (.mv 8),
     .n (.store 2 4 24),
     .o 5 (.mv 25)])
   .ret)
  .skip))))
 (.seq (.fU (.seq (.cN [
  .o 26 (.mv 1),
  .o 27 (.aM 26),
  .o 28 (.mv .z)])
 (.block 0
  (.loop
   (.seq (.cN [
    .o 29 (.ints .lss 28 27)])
   (.seq (.cond 29
    .skip
    (.exit 0))
   (.seq (.block 1
    (.seq (.cN [
     .o 30 (.mv 28),
     .o 31 (.aQ 1 26 28),
     .o 32 (.ax 31),
     .o 9 (.mv 30),
     .o 10 (.mv 32)])
    (.seq (.seq (.cN [
     .o 33 (.aq 0 2),
     .o 34 (.ao 1 33),
     .o 35 (.mv 10),
     .m 36 (.call (.const (.fn 13 [])) [34,35]),
     .o 37 (.ints .lss 36 .z)])
    (.cond 37
     (.seq (.cN [
        .o 38 (.build [(.int .i64 0),.aE] []),
        .n (.store 2 4 38),
        .o 5 (.mv (.const (.int .i64 6)))])
      .ret)
     .skip))
    (.seq (.cN [
     .o 39 (.mv 1),
     .o 40 (.mv 9),
     .o 41 (.slice 1 39 none (some 40)),
     .o 42 (.mv 10),
     .m 43 (.call (.const (.fn 14 [])) [41,42])])
    (.cond 43
     (.seq (.cN [
        .o 44 (.build [(.int .i64 0),.aE] []),
        .n (.store 2 4 44),
        .o 5 (.mv (.const (.int .i64 7)))])
      .ret)
     .skip)))))
   (.cN [
    .o 45 (.ints .add 28 (.const (.int .i64 1))),
    .o 28 (.mv 45)]))))))))
 (.seq (.call 2 [.o 46 (.ao 3 2),.o 47 (.mv 1)] [.o 11 (.mv 48)] 48 42 [46,47])
 (.seq (.call 1 [.o 49 (.mv 11)] [] 50 43 [49])
 (.seq (.fU (.cN [
  .o 51 (.build [(.int .i64 0),.aE] [(0,1,(.const (.int .i64 1)))]),
  .o 12 (.box (.const (.agg [(.int .i64 0),.aE]))),
  .n (.store 2 12 51)]))
 (.seq (.seq (.fU (.cN [
  .o 52 (.aq 1 2),
  .o 53 (.ax 52),
  .o 54 (.aM 53),
  .o 55 (.mv .z)]))
 (.block 2
  (.loop
   (.seq (.fU (.cN [
    .o 56 (.ints .lss 55 54)]))
   (.seq (.fU (.cond 56
    .skip
    (.exit 2)))
   (.seq (.block 3
    (.seq (.fU (.cN [
     .o 57 (.mv 55),
     .o 58 (.aQ 7 53 55),
     .o 59 (.ao 7 58),
     .o 14 (.box (.const (.agg [(.str []),(.str []),(.bool false),(.int .i64 0),.aE,(.str []),.aE]))),
     .o 13 (.mv 57),
     .n (.store 7 14 59)]))
    (.seq (.fU (.seq (.bI [
     .o 60 (.mv 11),
     ⟨(some 61),.cu 60,none,1,false,false,none⟩,
     ⟨(some 62),.aq 3 61,none,3,false,false,none⟩,
     ⟨(some 63),.ax 62,none,7,false,false,(some 62)⟩,
     .o 64 (.aq 0 14),
     ⟨(some 65),.ax 64,none,16,false,false,(some 64)⟩,
     ⟨(some 66),.lookup (.b .str) (.bool false) 63 65 false,none,63,false,false,(some 63)⟩,
     ⟨(some 67),.not 66,none,127,false,false,none⟩])
    (.cond 67
     (.exit 3)
     .skip)))
    (.seq (.fU (.bI [
     .o 68 (.aq 0 14),
     ⟨(some 69),.ax 68,none,1,false,false,(some 68)⟩,
     .o 70 (.aq 1 14),
     ⟨(some 71),.ax 70,none,4,false,false,(some 70)⟩,
     ⟨(some 72),.build [(.str []),(.str [])] [(0,1,69),(1,1,71)],none,15,false,false,none⟩,
     .o 73 (.aq 0 2),
     ⟨(some 74),.ao 1 73,none,32,false,false,(some 73)⟩,
     .o 75 (.aq 0 14),
     ⟨(some 76),.ax 75,none,128,false,false,(some 75)⟩,
     .o 77 (.aq 1 14),
     ⟨(some 78),.ax 77,none,512,false,false,(some 77)⟩,
     ⟨(some 79),.call (.const (.fn 44 [])) [74,76,78],none,2016,true,true,none⟩,
     .o 80 (.mv 11),
     ⟨(some 81),.cu 80,none,4096,false,false,none⟩,
     ⟨(some 82),.aq 4 81,none,12288,false,false,none⟩,
     ⟨(some 83),.ax 82,none,28672,false,false,(some 82)⟩,
     .o 84 (.mv 13),
     ⟨(some 85),.lookup (.b .int) (.bool false) 83 84 false,none,126976,false,false,(some 83)⟩,
     ⟨(some 86),.build [(.str []),(.str []),(.str []),(.bool false),.aE,(.str []),(.bool false),.aE] [(0,2,72),(2,4,79),(6,1,85)],none,262143,false,false,none⟩,
     .o 15 (.box (.const (.agg [(.str []),(.str []),(.str []),(.bool false),.aE,(.str []),(.bool false),.aE]))),
     ⟨none,.store 8 15 86,none,1048575,true,true,none⟩]))
    (.seq (.seq (.fU (.cN [
     .o 87 (.aq 6 15),
     .o 88 (.ax 87)]))
    (.cond 88
     (.call 2 [.o 89 (.mv 11),.o 90 (.mv 13)] [.o 92 (.aq 7 15),.n (.store 1 92 91)] 91 45 [89,90])
     (.fU .skip)))
    (.fU (.cN [
     .o 93 (.aq 1 12),
     .o 94 (.ax 93),
     .o 95 (.ao 8 15),
     .o 96 (.bq 1 [(.str []),(.str []),(.str []),(.bool false),.aE,(.str []),(.bool false),.aE] [(0,8,95)]),
     .m 97 (.append 8 128 94 96),
     .o 98 (.aq 1 12),
     .n (.store 1 98 97)])))))))
   (.fU (.cN [
    .o 99 (.ints .add 55 (.const (.int .i64 1))),
    .o 55 (.mv 99)]))))))))
 (.seq (.call 2 [.o 100 (.aq 1 12),.o 101 (.ax 100)] [] 102 46 [101,(.const (.fn 47 []))])
 (.fU (.seq (.cN [
  .o 103 (.ao 2 12),
  .n (.store 2 4 103),
  .o 5 (.mv .z)])
 .ret))))))))))
theorem Bf:DG Tryz.prog 15 104 [(4,some (some 2)),(5,none)] uv:=Bd (by kernel_rfl)
def oQ:Sk:=(.seq (.fU (.cN [
   .o 2 (.box 0),
   .o 3 (.box 1),
   .o 4 (.mv .z)]))
 (.seq (.fU (.seq (.cN [
  .o 18 (.ao 2 2),
  .m 19 (.call (.const (.fn 11 [])) [18]),
  .o 5 (.mv 19)])
 (.seq (.cN [
  .o 20 (.mv 5),
  .o 21 (.eql (.b .int) true 20 .z)])
 (.cond 21
  (.seq (.cN [
     .o 22 (.mv 5),
     .o 4 (.mv 22)])
   .ret)
  .skip))))
 (.seq (.fU (.seq (.cN [
  .o 24 (.ao 3 3),
  .m 25 (.call (.const (.fn 12 [])) [24]),
  .o 23 (.mv 25),
  .o 26 (.bu 23 0),
  .o 27 (.bu 23 1),
  .o 28 (.bu 23 2),
  .o 6 (.mv 26),
  .o 7 (.mv 27),
  .o 8 (.mv 28)])
 (.seq (.cN [
  .o 29 (.mv 8),
  .o 30 (.eql (.b .int) true 29 .z)])
 (.cond 30
  (.seq (.cN [
     .o 31 (.mv 8),
     .o 4 (.mv 31)])
   .ret)
  .skip))))
 (.seq (.fU (.cN [
  .o 9 (.mv (.const .aE))]))
 (.seq (.fU (.seq (.cN [
  .o 32 (.aq 1 2),
  .o 33 (.ax 32),
  .o 34 (.aM 33),
  .o 35 (.mv .z)])
 (.block 0
  (.loop
   (.seq (.cN [
    .o 36 (.ints .lss 35 34)])
   (.seq (.cond 36
    .skip
    (.exit 0))
   (.seq (.block 1
    (.seq (.cN [
     .o 37 (.aQ 8 33 35),
     .o 38 (.ao 8 37),
     .o 11 (.box (.const (.agg [(.str []),(.str []),(.str []),(.bool false),.aE,(.str []),(.bool false),.aE]))),
     .n (.store 8 11 38)])
    (.seq (.cN [
     .o 39 (.aq 0 3),
     .o 40 (.ao 1 39),
     .o 41 (.aq 0 11),
     .o 42 (.aq 0 41),
     .o 43 (.ax 42),
     .m 44 (.call (.const (.fn 13 [])) [40,43]),
     .o 45 (.ints .geq 44 .z),
     .o 46 (.mv 45),
     ⟨(some 47),.mv 9,(some (46,true)),0,false,false,none⟩,
     ⟨(some 48),.aq 0 11,(some (46,true)),0,false,false,none⟩,
     ⟨(some 49),.aq 0 48,(some (46,true)),0,false,false,none⟩,
     ⟨(some 50),.ax 49,(some (46,true)),0,false,false,none⟩,
     ⟨(some 51),.call (.const (.fn 14 [])) [47,50],(some (46,true)),0,true,false,none⟩,
     ⟨(some 52),.not 51,(some (46,true)),0,false,false,none⟩,
     .o 53 (.pick 46 52 (.const (.bool false)))])
    (.cond 53
     (.cN [
        .o 54 (.mv 9),
        .o 55 (.aq 0 11),
        .o 56 (.aq 0 55),
        .o 57 (.ax 56),
        .o 58 (.bq 1 [(.str [])] [(0,1,57)]),
        .m 59 (.append 1 16 54 58),
        .o 9 (.mv 59)])
     .skip))))
   (.cN [
    .o 60 (.ints .add 35 (.const (.int .i64 1))),
    .o 35 (.mv 60)]))))))))
 (.seq (.call 2 [.o 62 (.ao 3 3),.o 63 (.mv 9)] [.o 61 (.mv 64),.o 65 (.bu 61 0),.o 66 (.bu 61 1),.o 12 (.box (.const (.agg [(.int .i64 0),.aE]))),.n (.store 2 12 65),.o 13 (.mv 66)] 64 15 [62,63])
 (.fU (.seq (.seq (.cN [
  .o 67 (.mv 13),
  .o 68 (.eql (.b .int) true 67 .z)])
 (.cond 68
  (.seq (.cN [
     .o 69 (.mv 13),
     .o 4 (.mv 69)])
   .ret)
  .skip))
 (.seq (.seq (.cN [
  .o 70 (.aq 1 2),
  .o 71 (.ax 70),
  .o 72 (.aM 71),
  .o 73 (.mv .z)])
 (.block 2
  (.loop
   (.seq (.cN [
    .o 74 (.ints .lss 73 72)])
   (.seq (.cond 74
    .skip
    (.exit 2))
   (.seq (.block 3
    (.seq (.cN [
     .o 75 (.aQ 8 71 73),
     .o 76 (.ao 8 75),
     .o 15 (.box (.const (.agg [(.str []),(.str []),(.str []),(.bool false),.aE,(.str []),(.bool false),.aE]))),
     .n (.store 8 15 76)])
    (.seq (.seq (.cN [
     .o 77 (.ao 3 3),
     .o 78 (.aq 0 15),
     .o 79 (.aq 0 78),
     .o 80 (.ax 79),
     .o 81 (.aq 0 15),
     .o 82 (.aq 1 81),
     .o 83 (.ax 82),
     .m 84 (.call (.const (.fn 16 [])) [77,80,83]),
     .o 85 (.ints .lss 84 .z)])
    (.cond 85
     (.seq (.cN [
        .o 4 (.mv (.const (.int .i64 6)))])
      .ret)
     .skip))
    (.seq (.cN [
     .o 87 (.ao 2 12),
     .o 88 (.aq 0 15),
     .o 89 (.ao 2 88),
     .m 90 (.call (.const (.fn 17 [])) [87,89]),
     .o 86 (.mv 90),
     .o 91 (.bu 86 0),
     .o 92 (.bu 86 1),
     .o 16 (.box (.const (.agg [(.str []),(.str []),(.str []),(.bool false),.aE,(.str []),(.bool false),.aE]))),
     .n (.store 8 16 91),
     .o 17 (.mv 92)])
    (.seq (.seq (.cN [
     .o 93 (.mv 17),
     .o 94 (.not 93),
     .o 95 (.mv 94),
     ⟨(some 96),.aq 2 15,(some (95,false)),0,false,false,none⟩,
     ⟨(some 97),.ao 4 96,(some (95,false)),0,false,false,none⟩,
     ⟨(some 98),.aq 2 16,(some (95,false)),0,false,false,none⟩,
     ⟨(some 99),.ao 4 98,(some (95,false)),0,false,false,none⟩,
     ⟨(some 100),.call (.const (.fn 18 [])) [97,99],(some (95,false)),0,true,false,none⟩,
     ⟨(some 101),.not 100,(some (95,false)),0,false,false,none⟩,
     .o 102 (.pick 95 (.const (.bool true)) 101)])
    (.cond 102
     (.seq (.cN [
        .o 4 (.mv (.const (.int .i64 20)))])
      .ret)
     .skip))
    (.seq (.cN [
     .o 103 (.aq 6 15),
     .o 104 (.ax 103),
     .o 105 (.mv 104),
     ⟨(some 106),.aq 6 16,(some (105,true)),0,false,false,none⟩,
     ⟨(some 107),.ax 106,(some (105,true)),0,false,false,none⟩,
     ⟨(some 108),.not 107,(some (105,true)),0,false,false,none⟩,
     .o 109 (.pick 105 108 (.const (.bool false)))])
    (.cond 109
     (.seq (.cN [
        .o 4 (.mv (.const (.int .i64 25)))])
      .ret)
     .skip)))))))
   (.cN [
    .o 110 (.ints .add 73 (.const (.int .i64 1))),
    .o 73 (.mv 110)])))))))
 (.seq (.cN [
  .o 4 (.mv .z)])
 .ret))))))))))
theorem wL:DG Tryz.prog 5 111 [(4,none)] oQ:=Bd (by kernel_rfl)
section
open Classical
def pB (b:Bool):List PV:=[.bool b]
def wM (lib:List (List Nat))(s:List Nat):Prop:= ∃k,k<lib.length/\el lib k=s
def PK (u:aF)(lib:List (List Nat))(S:Nat->Prop)(f:bU)(x:bF):Prop:=(x.op=9->xM f x.a/\ ¬x.a<f.params/\ ∀i,i<(dU f x.a f.code.length).length->wM lib (el (dU f x.a f.code.length) i))/\ ∀g,g∈gV u f x->0<=g/\S g.toNat
def Sq (u:aF)(lib:List (List Nat))(S:Nat->Prop)(f:bU)(x:bF):Prop:=x.op≠7/\x.op≠8/\(x.op=9\/x.op=10->PK u lib S f x)
def wN (u:aF)(lib:List (List Nat))(S:Nat->Prop)(f:bU):Prop:= ∀i,i<f.code.length->Sq u lib S f (el f.code i)
theorem Hg {α:Type} [Inhabited α] {p:α->Prop}{l:List α}:cK p l<l.length/\ -1<=cK p l:=by
 unfold cK
 have:=dC (l:=l.map fun x=>if p x then[1]else[]) (s:=[1])
 rwa [List.length_map]at this
theorem tG {l:List bU}{c m:List Nat}:dR l c m<l.length/\ -1<=dR l c m:=Hg
theorem ML {u:aF}{c m:List Nat}:qE u c m<u.fns.length/\ -1<=qE u c m:=by
 unfold qE
 split
 ·split
  ·omega
  ·exact tG
 ·omega
theorem Bg {a y:Int}: ∀{l:List Int},y∈mR l a↔y=a\/y∈l
 |[]=>by simp[mR]
 |x::l=>by
  unfold mR
  split
  ·simp only[List.mem_cons,Bg (l:=l)]
   constructor<;>rintro(q|q|q)<;>simp[q]
  ·split
   ·next h=>subst h;simp
   ·simp
theorem qL {d:Nat->Int}{y:Int}: ∀{k:Nat},y∈lu d k↔ ∃i,i<k/\d i=y
 |0=>by simp[lu]
 |k+1=>by
  unfold lu
  rw[Bg,qL (k:=k)]
  constructor
  ·rintro(q|⟨i,h,q⟩)
   ·exact⟨k,by omega,q.symm⟩
   ·exact⟨i,by omega,q⟩
  ·rintro⟨i,h,q⟩
   by_cases e:i=k
   ·subst e;exact Or.inl q.symm
   ·exact Or.inr ⟨i,by omega,q⟩
theorem y0 {u:aF}{f:bU}{x:bF}{g:Int}(h:g∈gV u f x):g<u.fns.length/\ -1<=g:=by
 unfold gV at h
 split at h
 ·rw[List.mem_singleton]at h;subst h;exact tG
 ·split at h
  ·obtain⟨i,hi,rfl⟩:=qL.mp h;exact ML
  ·cases h
theorem Bh {x:bF}{u:aF}{lib:List (List Nat)}{f:bU}{n:Nat}{cl:Nat->Bool}{K:PV->Prop}(cg:u.cl.length<=64)(hcl:f.code.length<=1000000)(hn:n=u.fns.length)(kt:PK u lib (fun i=>cl i=true) f x->K (.bool true))(kf: ¬PK u lib (fun i=>cl i=true) f x->K (.bool false)):PF Tryz.prog X0 Mx 109 [.agg (bK u),pL 1 pS lib,.agg (eN f),.agg (dh x),.tr 1 n fun i=>pB (cl i)] K:=by
 have hnt:(73:Nat)<=1000000:=by decide
 refine bD Bi (bg _) (by simp) hnt ?_
 subst hn
 repeat'(first|refine pg ?_|refine af ?_|(refine dK ?_ ?_<;>intro hc<;>try contradiction)|refine ad ?_|refine ah ?_|(refine ak ?_;intro hl)|(refine ai ?_;intro b)|(refine aw ?_ ?_<;>intro hc<;>try first|contradiction|omega)|refine aj ?_|refine bA ?_|refine aA ?_|refine au ?_|(refine ae (aa (uk hcl (fun hm=>?_) fun hm=>?_)))|refine pc ?_|refine pt ?_|refine pb ?_)
 ·exact⟨Or.inr rfl,⟨trivial,trivial⟩,_,_,rfl,.refl _,kf (fun q=>by have:=q.1 (by assumption);first|contradiction|omega|exact absurd this.1 hm|exact absurd (by assumption) this.2.1)⟩
 ·refine aD (fun j:Nat=>[(1,pL 1 pS lib),(4,.tr 1 u.fns.length fun i=>pB (cl i)),(5,.ptr 5 _ 0),(7,.ptr 7 _ 0),(8,.ptr 8 _ 0),(11,pL 1 pS (dU f x.a f.code.length)),(13,.int .i64 j)]) (fun _=>[(5,some _,.cells (bK u)),(7,some _,.cells (eN f)),(8,some _,.cells (dh x))]) (fun j=>j<=(dU f x.a f.code.length).length/\ ∀i,i<j->wM lib (el (dU f x.a f.code.length) i)) (fun j=>(dU f x.a f.code.length).length-j) 0 ⟨Nat.zero_le _,fun i hi=>absurd hi (by omega)⟩ (.cons rfl (.refl _) (.cons rfl (.refl _) (.cons rfl (.refl _) (.cons rfl (.refl _) (.cons rfl (.refl _) (.cons rfl (.refl _) (.cons rfl (.refl _) (.nil)))))))) (.cons rfl (.refl _) (.cons rfl (.refl _) (.cons rfl (.refl _) (.nil)))) ?_
  rintro j ⟨hj,hb⟩
  repeat'(first|refine pg ?_|refine af ?_|(refine dK ?_ ?_<;>intro hc<;>try contradiction)|refine ad ?_|refine ah ?_|(refine ak ?_;intro hl)|(refine ai ?_;intro b)|(refine aw ?_ ?_<;>intro hc<;>try first|contradiction|omega)|refine aj ?_|refine bA ?_|refine aA ?_|refine au ?_|(refine ae (aa (xN (fun hh=>?_) fun hh=>?_)))|(refine ae (aa (nF cg hcl ?_)))|refine pc ?_|refine pt ?_|refine pb ?_)
  ·(refine⟨j+1,by dsimp only;omega,⟨by omega,fun i hi=>?_⟩,(.cons rfl (.refl _) (.cons rfl (.refl _) (.cons rfl (.refl _) (.cons rfl (.refl _) (.cons rfl (.refl _) (.cons rfl (.refl _) (.cons rfl (.refl _) (.nil)))))))),(.cons rfl (.refl _) (.cons rfl (.refl _) (.cons rfl (.refl _) (.nil))))⟩;by_cases q:i=j;(subst q;exact hh);(exact hb i (by omega)))
  ·exact⟨Or.inr rfl,⟨trivial,trivial⟩,_,_,rfl,.refl _,kf (fun q=>by obtain⟨k,h1,h2⟩:=(q.1 (by assumption)).2.2 j (by omega);exact hh k h1 h2)⟩
  ·have h9: ∀i,i<(dU f x.a f.code.length).length->wM lib (el (dU f x.a f.code.length) i):=fun i hi=>hb i (by omega)
   clear hb hj
   refine aD (fun j:Nat=>[(4,.tr 1 u.fns.length fun i=>pB (cl i)),(14,pL 1 pI (gV u f x)),(15,.int .i64 j)]) (fun _=>[]) (fun j=>j<=(gV u f x).length/\ ∀i,i<j->0<=el (gV u f x) i/\cl (el (gV u f x) i).toNat=true) (fun j=>(gV u f x).length-j) 0 ⟨Nat.zero_le _,fun i hi=>absurd hi (by omega)⟩ (.cons rfl (.refl _) (.cons rfl (.refl _) (.cons rfl (.refl _) (.nil)))) (.nil) ?_
   rintro j ⟨hj,hb⟩
   have hlt:j<(gV u f x).length->el (gV u f x) j<u.fns.length:=fun q=>(y0 (ba q)).1
   repeat'(first|refine pg ?_|refine af ?_|(refine dK ?_ ?_<;>intro hc<;>try contradiction)|refine ad ?_|refine ah ?_|(refine ak ?_;intro hl)|(refine ai ?_;intro b)|(refine aw ?_ ?_<;>intro hc<;>try first|contradiction|omega)|refine aj ?_|refine bA ?_|refine aA ?_|refine au ?_|refine pc ?_|refine pt ?_|refine pb ?_)
   all_goals first
    |exact⟨Or.inr rfl,⟨trivial,trivial⟩,_,_,rfl,.refl _,kf (fun q=>by have:=q.2 _ (ba (show j<(gV u f x).length by omega));first|omega|exact absurd this.2 (O2 (by assumption)))⟩
    |(refine⟨j+1,by dsimp only;omega,⟨by omega,fun i hi=>?_⟩,(.cons rfl (.refl _) (.cons rfl (.refl _) (.cons rfl (.refl _) (.nil)))),(.nil)⟩;by_cases q:i=j;(subst q;exact⟨by omega,by assumption⟩);(exact hb i (by omega)))
    |exact⟨Or.inr rfl,⟨trivial,trivial⟩,_,_,rfl,.refl _,kt ⟨fun _=>⟨hm,by assumption,h9⟩,fun g hg=>by obtain⟨i,hi,rfl⟩:=cm hg;exact hb i (by omega)⟩⟩
 ·exact⟨Or.inr rfl,⟨trivial,trivial⟩,_,_,rfl,.refl _,kf (fun q=>by have:=q.1 (by assumption);first|contradiction|omega|exact absurd this.1 hm|exact absurd (by assumption) this.2.1)⟩
 ·repeat'(first|refine pg ?_|refine af ?_|(refine dK ?_ ?_<;>intro hc<;>try contradiction)|refine ad ?_|refine ah ?_|(refine ak ?_;intro hl)|(refine ai ?_;intro b)|(refine aw ?_ ?_<;>intro hc<;>try first|contradiction|omega)|refine aj ?_|refine bA ?_|refine aA ?_|refine au ?_|(refine ae (aa (nF cg hcl ?_)))|refine pc ?_|refine pt ?_|refine pb ?_)
  refine aD (fun j:Nat=>[(4,.tr 1 u.fns.length fun i=>pB (cl i)),(14,pL 1 pI (gV u f x)),(15,.int .i64 j)]) (fun _=>[]) (fun j=>j<=(gV u f x).length/\ ∀i,i<j->0<=el (gV u f x) i/\cl (el (gV u f x) i).toNat=true) (fun j=>(gV u f x).length-j) 0 ⟨Nat.zero_le _,fun i hi=>absurd hi (by omega)⟩ (.cons rfl (.refl _) (.cons rfl (.refl _) (.cons rfl (.refl _) (.nil)))) (.nil) ?_
  rintro j ⟨hj,hb⟩
  have hlt:j<(gV u f x).length->el (gV u f x) j<u.fns.length:=fun q=>(y0 (ba q)).1
  repeat'(first|refine pg ?_|refine af ?_|(refine dK ?_ ?_<;>intro hc<;>try contradiction)|refine ad ?_|refine ah ?_|(refine ak ?_;intro hl)|(refine ai ?_;intro b)|(refine aw ?_ ?_<;>intro hc<;>try first|contradiction|omega)|refine aj ?_|refine bA ?_|refine aA ?_|refine au ?_|refine pc ?_|refine pt ?_|refine pb ?_)
  all_goals first
   |exact⟨Or.inr rfl,⟨trivial,trivial⟩,_,_,rfl,.refl _,kf (fun q=>by have:=q.2 _ (ba (show j<(gV u f x).length by omega));first|omega|exact absurd this.2 (O2 (by assumption)))⟩
   |(refine⟨j+1,by dsimp only;omega,⟨by omega,fun i hi=>?_⟩,(.cons rfl (.refl _) (.cons rfl (.refl _) (.cons rfl (.refl _) (.nil)))),(.nil)⟩;by_cases q:i=j;(subst q;exact⟨by omega,by assumption⟩);(exact hb i (by omega)))
   |exact⟨Or.inr rfl,⟨trivial,trivial⟩,_,_,rfl,.refl _,kt ⟨fun q=>absurd q (by assumption),fun g hg=>by obtain⟨i,hi,rfl⟩:=cm hg;exact hb i (by omega)⟩⟩
theorem Bj {u:aF}{lib:List (List Nat)}{f:bU}{n:Nat}{cl:Nat->Bool}{K:PV->Prop}(cg:u.cl.length<=64)(hcl:f.code.length<=1000000)(hn:n=u.fns.length)(kt:wN u lib (fun i=>cl i=true) f->K (.bool true))(kf: ¬wN u lib (fun i=>cl i=true) f->K (.bool false)):PF Tryz.prog X0 Mx 56 [.agg (bK u),pL 1 pS lib,.agg (eN f),.tr 1 n fun i=>pB (cl i)] K:=by
 have hnt:(48:Nat)<=1000000:=by decide
 refine bD Bk (bg _) (by simp) hnt ?_
 repeat'(first|refine pg ?_|refine af ?_|refine ad ?_|(refine ak ?_;intro hl)|(refine ai ?_;intro b)|(refine aw ?_ ?_<;>intro hc<;>try first|contradiction|omega)|refine aj ?_|refine aA ?_|refine au ?_|refine ay ?_|refine pc ?_|refine pt ?_|refine pb ?_)
 refine aD (fun j:Nat=>[(1,pL 1 pS lib),(3,.tr 1 n fun i=>pB (cl i)),(4,.ptr 4 _ 0),(6,.ptr 6 _ 0),(9,.int .i64 j)]) (fun _=>[(4,some _,.cells (bK u)),(6,some _,.cells (eN f))]) (fun j=>j<=f.code.length/\ ∀i,i<j->Sq u lib (fun i=>cl i=true) f (el f.code i)) (fun j=>f.code.length-j) 0 ⟨Nat.zero_le _,fun i hi=>absurd hi (by omega)⟩ (.cons rfl (.refl _) (.cons rfl (.refl _) (.cons rfl (.refl _) (.cons rfl (.refl _) (.cons rfl (.refl _) (.nil)))))) (.cons rfl (.refl _) (.cons rfl (.refl _) (.nil))) ?_
 rintro j ⟨hj,hb⟩
 repeat'(first|refine pg ?_|refine af ?_|refine ad ?_|(refine ak ?_;intro hl)|(refine ai ?_;intro b)|(refine aw ?_ ?_<;>intro hc<;>try first|contradiction|omega)|refine aj ?_|refine aA ?_|refine au ?_|refine ay ?_|refine aI ?_|(refine ae (aa (Bh cg hcl hn (fun hc=>?_) fun hc=>?_)))|refine pc ?_|refine pt ?_|refine pb ?_)
 all_goals first
  |exact⟨Or.inr rfl,⟨trivial,trivial⟩,_,_,rfl,.refl _,kf (fun q=>by obtain⟨q1,q2,q3⟩:=q j (by omega);first|contradiction|exact hc (q3 (Or.inl (by assumption)))|exact hc (q3 (Or.inr (by assumption))))⟩
  |(refine⟨j+1,by dsimp only;omega,⟨by omega,fun i hi=>?_⟩,(.cons rfl (.refl _) (.cons rfl (.refl _) (.cons rfl (.refl _) (.cons rfl (.refl _) (.cons rfl (.refl _) (.nil)))))),(.cons rfl (.refl _) (.cons rfl (.refl _) (.nil)))⟩;by_cases q:i=j;(subst q;first|exact⟨by assumption,by assumption,fun _=>hc⟩|exact⟨by assumption,by assumption,fun q=>by rcases q with q|q<;>contradiction⟩);(exact hb i (by omega)))
  |exact⟨Or.inr rfl,⟨trivial,trivial⟩,_,_,rfl,.refl _,kt (fun i hi=>hb i (by omega))⟩
def FC (u:aF)(lib:List (List Nat))(S:Nat->Prop):Prop:= ∀i,S i->i<u.fns.length/\wM lib (el u.fns i).cls/\wN u lib S (el u.fns i)
def qA (u:aF)(lib:List (List Nat))(i:Nat):Prop:= ∃S,FC u lib S/\S i
theorem xQ {u:aF}{lib:List (List Nat)}{S T:Nat->Prop}{f:bU}(hs: ∀i,S i->T i)(h:wN u lib S f):wN u lib T f:=fun i hi=>by
 obtain⟨h1,h2,h3⟩:=h i hi
 exact⟨h1,h2,fun q=>⟨(h3 q).1,fun g hg=>⟨((h3 q).2 g hg).1,hs _ ((h3 q).2 g hg).2⟩⟩⟩
theorem xR {u:aF}{lib:List (List Nat)}:FC u lib (qA u lib):=fun i ⟨S,hS,hi⟩=>by
 obtain⟨h1,h2,h3⟩:=hS i hi
 exact⟨h1,h2,xQ (fun j hj=>⟨S,hS,hj⟩) h3⟩
theorem MP {u:aF}{lib:List (List Nat)}{S:Nat->Prop}(h:FC u lib S){i:Nat}(hi:S i):qA u lib i:=⟨S,h,hi⟩
def uz (cl:Nat->Bool)(i:Nat)(b:Bool)(j:Nat):Bool:=if j=i then b else cl j
def wO (cl:Nat->Bool):Nat->Nat
 |0=>0
 |k+1=>wO cl k+if cl k=true then 1 else 0
theorem xS {cl cl2:Nat->Bool}: ∀{k:Nat},(∀i,i<k->cl i=cl2 i)->wO cl k=wO cl2 k
 |0,_=>rfl
 |k+1,h=>by unfold wO;rw[xS (k:=k) fun i hi=>h i (by omega),h k (by omega)]
theorem uA {cl:Nat->Bool}{i:Nat}(hi:cl i=true): ∀{k:Nat},i<k->wO (uz cl i false) k+1=wO cl k
 |0,h=>absurd h (Nat.not_lt_zero _)
 |k+1,h=>by
  unfold wO
  by_cases e:k=i
  ·subst e
   rw[xS (cl2:=cl) fun j hj=>by unfold uz;rw[if_neg (by omega)],if_neg (by simp[uz]),if_pos hi]
  ·rw[<-uA hi (show i<k by omega),show uz cl i false k=cl k by unfold uz;rw[if_neg e]]
   omega
theorem Jt {n i:Nat}{b:Bool}{cl:Nat->Bool}:wB (.arr 1 n fun j=>if j=i then wP 0 (PV.bool b).cells (pB (cl i))else pB (cl j)) (.arr 1 n fun j=>pB (uz cl i b j)):= .arr _ _ _ _ _ (Nat.le_refl _) fun j hj=>dH.of_eq (by
 unfold uz
 by_cases e:j=i
 ·rw[if_pos e,if_pos e];rfl
 ·rw[if_neg e,if_neg e])
structure wQ (u:aF)(lib:List (List Nat))(cl:Nat->Bool):Prop where
 mem: ∀i,i<u.fns.length->cl i=true->wM lib (el u.fns i).cls
 gQ: ∀i,qA u lib i->cl i=true
noncomputable def wR (u:aF)(lib:List (List Nat))(j i:Nat):Bool:=if i<j then decide (wM lib (el u.fns i).cls)else false
theorem FD {u:aF}{lib:List (List Nat)}{n j:Nat}{b:Bool}(hb:b=decide (wM lib (el u.fns j).cls)):wB (.arr 1 n fun i=>if i=j then wP 0 (PV.bool b).cells (pB (wR u lib j j))else pB (wR u lib j i)) (.arr 1 n fun i=>pB (wR u lib (j+1) i)):= .arr _ _ _ _ _ (Nat.le_refl _) fun i hi=>dH.of_eq (by
 unfold wR
 by_cases e:i=j
 ·subst e;rw[if_pos rfl,if_neg (Nat.lt_irrefl i),if_pos (Nat.lt_succ_self i),hb];rfl
 ·rw[if_neg e]
  by_cases q:i<j
  ·rw[if_pos q,if_pos (by omega)]
  ·rw[if_neg q,if_neg (by omega)])
theorem Ju {u:aF}{lib:List (List Nat)}{n:Nat}:wB (.arr 1 n fun i=>[PV.bool false]) (.arr 1 n fun i=>pB (wR u lib 0 i)):= .arr _ _ _ _ _ (Nat.le_refl _) fun i hi=>dH.of_eq rfl
theorem wQ.VJ {u:aF}{lib:List (List Nat)}:wQ u lib (wR u lib u.fns.length):=⟨fun i hi q=>by
 unfold wR at q
 rw[if_pos hi]at q
 exact of_decide_eq_true q,fun i q=>by
 obtain⟨h1,h2,_⟩:=xR i q
 unfold wR
 rw[if_pos h1];exact decide_eq_true h2⟩
theorem wQ.tH {u:aF}{lib:List (List Nat)}{cl:Nat->Bool}(h:wQ u lib cl){i:Nat}(hn: ¬wN u lib (fun j=>cl j=true) (el u.fns i)):wQ u lib (uz cl i false):=⟨fun j hj q=>by
 unfold uz at q
 split at q
 ·cases q
 ·exact h.mem j hj q,fun j q=>by
 unfold uz
 rw[if_neg fun e=>?_]
 ·exact h.gQ j q
 ·subst e;exact hn (xQ (fun k hk=>h.gQ k hk) (xR j q).2.2)⟩
theorem wQ.eq {u:aF}{lib:List (List Nat)}{cl:Nat->Bool}(h:wQ u lib cl)(hs: ∀i,i<u.fns.length->cl i=true->wN u lib (fun j=>cl j=true) (el u.fns i)){i:Nat}(hi:i<u.fns.length):cl i=decide (qA u lib i):=by
 by_cases q:qA u lib i
 ·rw[h.gQ i q,decide_eq_true q]
 ·rw[decide_eq_false q]
  cases e:cl i with
  |false=>rfl
  |true=>
   refine absurd (MP (S:=fun j=>j<u.fns.length/\cl j=true) (fun j ⟨h1,h2⟩=>⟨h1,h.mem j h1 h2,fun k hk=>?_⟩) ⟨hi,e⟩) q
   obtain⟨g1,g2,g3⟩:=hs j h1 h2 k hk
   exact⟨g1,g2,fun q=>⟨(g3 q).1,fun g hg=>⟨((g3 q).2 g hg).1,by have:=(y0 hg).1;have:=((g3 q).2 g hg).1;omega,((g3 q).2 g hg).2⟩⟩⟩
theorem Hi {u:aF}{lib:List (List Nat)}{K:PV->Prop}(cg:u.cl.length<=64)(hf:u.fns.length<1000000)(hcl: ∀i,i<u.fns.length->(el u.fns i).code.length<=1000000)(k:K (.tr 1 u.fns.length fun i=>pB (decide (qA u lib i)))):PF Tryz.prog X0 Mx 21 [.agg (bK u),pL 1 pS lib] K:=by
 have hnt:(59:Nat)<=1000000:=by decide
 refine bD Hj (bg _) (by simp) hnt ?_
 repeat'(first|refine pg ?_|refine af ?_|refine ad ?_|refine ah ?_|(refine ak ?_;intro hl)|(refine ai ?_;intro b)|(refine aw ?_ ?_<;>intro hc<;>try first|contradiction|omega)|refine aj ?_|refine aA ?_|refine au ?_|refine ay ?_|(refine DL ?_;intro bm)|refine pc ?_|refine pt ?_|refine pb ?_)
 refine aD (fun j:Nat=>[(1,pL 1 pS lib),(2,.ptr 2 _ 0),(5,.own 12 _ u.fns.length 1),(6,.int .i64 j)]) (fun j=>[(2,some _,.cells (bK u)),(12,some _,.arr 1 u.fns.length fun i=>pB (wR u lib j i))]) (fun j=>j<=u.fns.length) (fun j=>u.fns.length-j) 0 (Nat.zero_le _) (.cons rfl (.refl _) (.cons rfl (.refl _) (.cons rfl (.refl _) (.cons rfl (.refl _) (.nil))))) (.cons rfl (.refl _) (.cons rfl Ju .nil)) ?_
 rintro j hj
 repeat'(first|refine pg ?_|refine af ?_|refine ad ?_|refine ah ?_|(refine ak ?_;intro hl)|(refine ai ?_;intro b)|(refine aw ?_ ?_<;>intro hc<;>try first|contradiction|omega)|refine aj ?_|refine aA ?_|refine au ?_|refine ay ?_|(refine ae (aa (xN (fun hh=>?_) fun hh=>?_)))|(refine dW ?_;rintro id q0;cases q0)|refine xT ?_|refine pc ?_|refine pt ?_|refine pb ?_)
 ·exact⟨j+1,by dsimp only;omega,by dsimp only;omega,(.cons rfl (.refl _) (.cons rfl (.refl _) (.cons rfl (.refl _) (.cons rfl (.refl _) (.nil))))),(.cons rfl (.refl _) (.cons rfl (FD (by symm;exact decide_eq_true hh)) .nil))⟩
 ·exact⟨j+1,by dsimp only;omega,by dsimp only;omega,(.cons rfl (.refl _) (.cons rfl (.refl _) (.cons rfl (.refl _) (.cons rfl (.refl _) (.nil))))),(.cons rfl (.refl _) (.cons rfl (FD (by symm;exact decide_eq_false fun⟨k,h1,h2⟩=>hh k h1 h2)) .nil))⟩
 ·rw[show j=u.fns.length by omega]
  repeat'(first|refine pg ?_|refine af ?_|refine ad ?_|refine ah ?_|(refine ak ?_;intro hl)|(refine ai ?_;intro b)|(refine aw ?_ ?_<;>intro hc<;>try first|contradiction|omega)|refine aj ?_|refine aA ?_|refine au ?_|refine ay ?_|refine pc ?_|refine pt ?_|refine pb ?_)
  refine aD (ι:=(Nat->Bool)×Bool) (fun s=>[(1,pL 1 pS lib),(2,.ptr 2 _ 0),(5,.own 12 _ u.fns.length 1),(7,.bool s.2)]) (fun s=>[(2,some _,.cells (bK u)),(12,some _,.arr 1 u.fns.length fun i=>pB (s.1 i))]) (fun s=>wQ u lib s.1/\(s.2=false-> ∀i,i<u.fns.length->s.1 i=true->wN u lib (fun j=>s.1 j=true) (el u.fns i))) (fun s=>if s.2=true then wO s.1 u.fns.length+1 else 0) (wR u lib u.fns.length,true) ⟨wQ.VJ,fun q=>by cases q⟩ (.cons rfl (.refl _) (.cons rfl (.refl _) (.cons rfl (.refl _) (.cons rfl (.refl _) (.nil))))) (.cons rfl (.refl _) (.cons rfl (.refl _) (.nil))) ?_
  rintro⟨cl0,ag⟩ ⟨h0,h1⟩
  dsimp only at h0 h1⊢
  rcases ag with _|_
  ·repeat'(first|refine pg ?_|refine af ?_|refine ad ?_|refine ah ?_|(refine ak ?_;intro hl)|(refine ai ?_;intro b)|(refine aw ?_ ?_<;>intro hc<;>try first|contradiction|omega)|refine aj ?_|refine aA ?_|refine au ?_|refine ay ?_|refine pc ?_|refine pt ?_|refine pb ?_)
   exact⟨Or.inr rfl,⟨trivial,trivial⟩,_,_,rfl,(.own _ _ _ _ _ _ _ rfl (Nat.le_refl _) (fun i hi=>dH.of_eq (by rw[h0.eq (h1 rfl) hi]))),k⟩
  ·repeat'(first|refine pg ?_|refine af ?_|refine ad ?_|refine ah ?_|(refine ak ?_;intro hl)|(refine ai ?_;intro b)|(refine aw ?_ ?_<;>intro hc<;>try first|contradiction|omega)|refine aj ?_|refine aA ?_|refine au ?_|refine ay ?_|refine pc ?_|refine pt ?_|refine pb ?_)
   refine aD (ι:=Nat×(Nat->Bool)×Bool) (fun s=>[(1,pL 1 pS lib),(2,.ptr 2 _ 0),(5,.own 12 _ u.fns.length 1),(7,.bool s.2.2),(8,.int .i64 s.1)]) (fun s=>[(2,some _,.cells (bK u)),(12,some _,.arr 1 u.fns.length fun i=>pB (s.2.1 i))]) (fun s=>s.1<=u.fns.length/\wQ u lib s.2.1/\(s.2.2=true->wO s.2.1 u.fns.length+1<=wO cl0 u.fns.length)/\(s.2.2=false->s.2.1=cl0/\ ∀i,i<s.1->cl0 i=true->wN u lib (fun j=>cl0 j=true) (el u.fns i))) (fun s=>u.fns.length-s.1) (0,cl0,false) ⟨Nat.zero_le _,h0,(fun q=>by cases q),(fun _=>⟨rfl,fun i hi=>by dsimp only at hi;omega⟩)⟩ (.cons rfl (.refl _) (.cons rfl (.refl _) (.cons rfl (.refl _) (.cons rfl (.refl _) (.cons rfl (.refl _) (.nil)))))) (.cons rfl (.refl _) (.cons rfl (.refl _) (.nil))) ?_
   rintro⟨j,cl,ag⟩ ⟨hj,g0,g1,g2⟩
   dsimp only at hj g0 g1 g2⊢
   repeat'(first|refine pg ?_|refine af ?_|refine ad ?_|refine ah ?_|(refine ak ?_;intro hl)|(refine ai ?_;intro b)|(refine aw ?_ ?_<;>intro hc<;>try first|contradiction|omega)|refine aj ?_|refine aA ?_|refine au ?_|refine ay ?_|refine pc ?_|refine pt ?_|refine pb ?_)
   ·rcases e:cl j with _|_
    ·repeat'(first|refine pg ?_|refine af ?_|refine ad ?_|refine ah ?_|(refine ak ?_;intro hl)|(refine ai ?_;intro b)|(refine aw ?_ ?_<;>intro hc<;>try first|contradiction|omega)|refine aj ?_|refine aA ?_|refine au ?_|refine ay ?_|refine aX ?_|refine pd ?_|refine fy.mk rfl ?_|(refine dW ?_;rintro id q0;cases q0)|(refine iy (v:= .bool false) ?_ rfl rfl (by show some (PV.bool (cl j))=_;rw[e]))|refine pc ?_|refine pt ?_|refine pb ?_)
     refine⟨(j+1,cl,ag),by dsimp only;omega,⟨by dsimp only;omega,g0,g1,(fun q=>⟨(g2 q).1,fun i hi hi2=>?_⟩)⟩,(.cons rfl (.refl _) (.cons rfl (.refl _) (.cons rfl (.refl _) (.cons rfl (.refl _) (.cons rfl (.refl _) (.nil)))))),(.cons rfl (.refl _) (.cons rfl (.refl _) (.nil)))⟩
     by_cases w:i=j
     ·subst w;rw[<-(g2 q).1,e]at hi2;cases hi2
     ·exact(g2 q).2 i (by dsimp only at hi;omega) hi2
    ·repeat'(first|refine pg ?_|refine af ?_|refine ad ?_|refine ah ?_|(refine ak ?_;intro hl)|(refine ai ?_;intro b)|(refine aw ?_ ?_<;>intro hc<;>try first|contradiction|omega)|refine aj ?_|refine aA ?_|refine au ?_|refine ay ?_|refine aX ?_|refine pd ?_|refine fy.mk rfl ?_|(refine dW ?_;rintro id q0;cases q0)|(refine iy (v:= .bool true) ?_ rfl rfl (by show some (PV.bool (cl j))=_;rw[e]))|(refine PN (Bj cg (hcl j (by omega)) rfl (fun hc=>⟨rfl,?_⟩) fun hc=>⟨rfl,?_⟩) (hz:= .cons _ _ _ _ (.refl _) (.cons _ _ _ _ (.refl _) (.cons _ _ _ _ (.refl _) (.cons _ _ _ _ (.own _ _ _ _ _ _ _ rfl (Nat.le_refl _) fun _ _=>dH.refl _) .nil)))))|refine xT ?_|refine pc ?_|refine pt ?_|refine pb ?_)
     ·refine⟨(j+1,cl,ag),by dsimp only;omega,⟨by dsimp only;omega,g0,g1,(fun q=>⟨(g2 q).1,fun i hi hi2=>?_⟩)⟩,(.cons rfl (.refl _) (.cons rfl (.refl _) (.cons rfl (.refl _) (.cons rfl (.refl _) (.cons rfl (.refl _) (.nil)))))),(.cons rfl (.refl _) (.cons rfl (.refl _) (.nil)))⟩
      by_cases w:i=j
      ·subst w;have w2:=(g2 q).1;subst w2;exact hc
      ·exact(g2 q).2 i (by dsimp only at hi;omega) hi2
     ·have w:=uA e (show j<u.fns.length by omega)
      refine⟨(j+1,uz cl j false,true),by dsimp only;omega,⟨by dsimp only;omega,g0.tH hc,(fun _=>?_),(fun q=>by cases q)⟩,(.cons rfl (.refl _) (.cons rfl (.refl _) (.cons rfl (.refl _) (.cons rfl (.refl _) (.cons rfl (.refl _) (.nil)))))),(.cons rfl (.refl _) (.cons rfl Jt .nil))⟩
      dsimp only
      rcases ag with _|_
      ·rw[<-(g2 rfl).1];omega
      ·have:=g1 rfl;omega
   ·refine⟨(cl,ag),?_,⟨g0,(fun q i hi hi2=>?_)⟩,(.cons rfl (.refl _) (.cons rfl (.refl _) (.cons rfl (.refl _) (.cons rfl (.refl _) (.nil))))),(.cons rfl (.refl _) (.cons rfl (.refl _) (.nil)))⟩
    ·dsimp only
     rcases ag with _|_
     ·simp
     ·have:=g1 rfl;simp;omega
    ·have w2:=(g2 q).1;subst w2;exact(g2 q).2 i (by omega) hi2
def kh (l:List cU):Nat->List (List Nat)
 |0=>[]
 |k+1=>kh l k++[(el l k).cls]
theorem Br {l:List cU}: ∀{k:Nat},(kh l k).length=k
 |0=>rfl
 |k+1=>by rw[kh,List.length_append,Br];rfl
theorem Bs {l:List cU}{s:List Nat}: ∀{k:Nat},s∈kh l k↔ ∃i,i<k/\(el l i).cls=s
 |0=>by simp[kh]
 |k+1=>by
  rw[kh,List.mem_append,Bs (k:=k),List.mem_singleton]
  constructor
  ·rintro(⟨i,h,q⟩|q)
   ·exact⟨i,by omega,q⟩
   ·exact⟨k,by omega,q.symm⟩
  ·rintro⟨i,h,q⟩
   by_cases e:i=k
   ·subst e;exact Or.inr q.symm
   ·exact Or.inl ⟨i,by omega,q⟩
def DH (u:aF)(x:cU):Prop:= ∃d t,bE u.cl x.cls x.gP=some (d,t)/\t.name=x.sig.name/\t.static=x.sig.static/\kS t x.sig
noncomputable def Js (u:aF)(l:List cU)(i:Nat):Int:=if dR u.fns (el l i).cls (el l i).gP<0 then 6 else if ¬DH u (el l i)then 20 else if(el l i).closed=true/\ ¬qA u (kh l l.length) (dR u.fns (el l i).cls (el l i).gP).toNat then 25 else 0
noncomputable def nA (l:ll)(u:aF):Int:=if AS l≠0 then AS l else if qu u≠0 then qu u else bO (Js u l.bf) l.bf.length
theorem wU {l:ll}{K:PV->Prop}(hn:l.bf.length<=1000000)(k:K (pL 1 pS (kh l.bf l.bf.length))):PF Tryz.prog X0 Mx 22 [.agg (jv l)] K:=by
 have hnt:(23:Nat)<=1000000:=by decide
 refine bD wV (bg _) (by simp) hnt ?_
 repeat'(first|refine pg ?_|refine af ?_|refine ad ?_|refine ah ?_|(refine ak ?_;intro hl)|(refine ai ?_;intro b)|(refine aw ?_ ?_<;>intro hc<;>try first|contradiction|omega)|refine aj ?_|refine aA ?_|refine pc ?_|refine pt ?_|refine pb ?_)
 refine aD (ι:=Nat×Option Nat) (fun q=>[(1,.ptr 1 _ 0),(3,oL 21 q.2 1 (kh l.bf q.1)),(4,.int .i64 q.1)]) (fun q=>[(1,some _,.cells (jv l)),(21,q.2,aL 1 pS (kh l.bf q.1))]) (fun q=>q.1<=l.bf.length) (fun q=>l.bf.length-q.1) (0,none) (Nat.zero_le _) (.cons rfl (.refl _) (.cons rfl (.kR 21 1) (.cons rfl (.refl _) .nil))) (.cons rfl (.refl _) (.kR .nil)) ?_
 rintro⟨j,aT⟩ hj
 dsimp only at hj⊢
 have hlj:=Br (l:=l.bf) (k:=j)
 repeat'(first|refine pg ?_|refine af ?_|refine ad ?_|refine ah ?_|(refine ak ?_;intro hl)|(refine ai ?_;intro b)|(refine aw ?_ ?_<;>intro hc<;>try first|contradiction|omega)|refine aj ?_|refine aA ?_|(refine bb ?_;intro b2)|(refine bV (f:=pS) _ ?_;intro oid2)|refine pc ?_|refine pt ?_|refine pb ?_)
 ·exact⟨(j+1,oid2),by dsimp only;omega,by dsimp only;omega,(.cons rfl (.refl _) (.cons rfl (.refl _) (.cons rfl (.refl _) (.nil)))),(.cons rfl (.refl _) (.cons rfl (.refl _) (.nil)))⟩
 ·rw[<-show j=l.bf.length by omega]at k
  exact⟨Or.inr rfl,⟨trivial,trivial⟩,_,_,rfl,cE,k⟩
theorem Hm {u:aF}{x:cU}{K:PV->Prop}(cg:u.cl.length<=64)(kt:DH u x->K (.bool true))(kf: ¬DH u x->K (.bool false)):PF Tryz.prog X0 Mx 24 [.agg (bK u),.agg (gG x)] K:=by
 have hnt:(44:Nat)<=1000000:=by decide
 refine bD Hn (bg _) (by simp) hnt ?_
 repeat'(first|refine pg ?_|refine af ?_|(refine aG ?_ ?_<;>intro hc<;>try contradiction)|refine ad ?_|(refine ai ?_;intro b)|(refine aw ?_ ?_<;>intro hc<;>try first|contradiction|omega)|refine au ?_|(refine bz (us:=aY u.cl) ?_ rfl rfl ⟨by show 0+0+1<=3;decide,rfl⟩)|(refine ae (aa (il cg (fun d t hL=>?_) fun hL=>?_)))|refine aI ?_|(refine bz (us:=cb x.sig) ?_ rfl rfl ⟨by show 0+2+4<=8;decide,rfl⟩)|(refine ae (aa (nG (fun hs=>?_) fun hs=>?_)))|refine pc ?_|refine pt ?_)
 all_goals first
  |exact⟨Or.inr rfl,⟨trivial,trivial⟩,_,_,rfl,.refl _,kt ⟨d,t,hL,by assumption,by simp only[*],hs⟩⟩
  |exact⟨Or.inr rfl,⟨trivial,trivial⟩,_,_,rfl,.refl _,kf (fun⟨d2,t2,q1,q2,q3,q4⟩=>by rw[hL]at q1;cases q1<;>first|contradiction|(simp_all;done))⟩
theorem Bm {l:ll}(h:AS l=0):l.bf.length<=256:=by
 unfold AS at h
 split at h
 ·omega
 ·split at h<;>omega
theorem O5 {u:aF}{l:List cU}{i:Nat}(h:dR u.fns (el l i).cls (el l i).gP<0):Js u l i=6:=by unfold Js;rw[if_pos h]
theorem O7 {u:aF}{l:List cU}{i:Nat}(h: ¬dR u.fns (el l i).cls (el l i).gP<0)(h2: ¬DH u (el l i)):Js u l i=20:=by unfold Js;rw[if_neg h,if_pos h2]
theorem O6 {u:aF}{l:List cU}{i:Nat}(h: ¬dR u.fns (el l i).cls (el l i).gP<0)(h2:DH u (el l i))(h3:(el l i).closed=true)(h4: ¬qA u (kh l l.length) (dR u.fns (el l i).cls (el l i).gP).toNat):Js u l i=25:=by unfold Js;rw[if_neg h,if_neg (not_not.2 h2),if_pos ⟨h3,h4⟩]
theorem FB {u:aF}{l:List cU}{i:Nat}(h: ¬dR u.fns (el l i).cls (el l i).gP<0)(h2:DH u (el l i))(h3: ¬(el l i).closed=true\/qA u (kh l l.length) (dR u.fns (el l i).cls (el l i).gP).toNat):Js u l i=0:=by unfold Js;rw[if_neg h,if_neg (not_not.2 h2),if_neg fun q=>h3.elim (fun w=>w q.1) q.2]
theorem r9 {u:aF}{l:ll}{K:PV->Prop}(ha: ∀i,i<u.fns.length-> ∀j,j<(el u.fns i).code.length->(el (el u.fns i).code j).args.length<=iC)(fX:qu u=0->u.cl.length<=64/\u.fns.length<1000000/\ ∀i,i<u.fns.length->(el u.fns i).code.length<=1000000)(k:K (.int .i64 (nA l u))):PF Tryz.prog X0 Mx 6 [.agg (jv l),.agg (bK u)] K:=by
 have hnt:(63:Nat)<=1000000:=by decide
 refine bD lp (bg _) (by simp) hnt ?_
 unfold nA at k
 have hent0:=Bm (l:=l)
 repeat'(first|refine pg ?_|refine af ?_|(refine aG ?_ ?_<;>intro hc<;>try contradiction)|(refine dK ?_ ?_<;>intro hc<;>try contradiction)|refine ad ?_|(refine ak ?_;intro hl)|(refine ai ?_;intro b)|(refine aw ?_ ?_<;>intro hc<;>try first|contradiction|omega)|refine aj ?_|refine bA ?_|refine aA ?_|refine au ?_|refine ay ?_|refine ae (aa (A2 ?_))|(refine ae (aa (Bt ha fun a1 b1=>?_)))|refine pc ?_|refine pt ?_|refine pb ?_)
 all_goals try rw[if_pos (by assumption)]at k
 all_goals try(rw[if_neg (not_not.2 (by assumption))]at k)
 all_goals try rw[if_pos (by assumption)]at k
 all_goals try(rw[if_neg (not_not.2 (by assumption))]at k)
 ·repeat'(first|refine pg ?_|refine af ?_|(refine aG ?_ ?_<;>intro hc<;>try contradiction)|(refine dK ?_ ?_<;>intro hc<;>try contradiction)|refine ad ?_|(refine ak ?_;intro hl)|(refine ai ?_;intro b)|(refine aw ?_ ?_<;>intro hc<;>try first|contradiction|omega)|refine aj ?_|refine bA ?_|refine aA ?_|refine au ?_|refine ay ?_|refine aX ?_|refine pd ?_|refine fy.mk rfl ?_|refine aI ?_|refine ix (aR (wU (Nat.le_trans (hent0 (by assumption)) (by decide)) ?_))|(refine ix (aR (Hi (fX (by assumption)).1 (fX (by assumption)).2.1 (fX (by assumption)).2.2 ?_)))|refine pc ?_|refine pt ?_|refine pb ?_)
  refine aD (fun j:Nat=>[(2,.ptr 2 _ 0),(3,.ptr 3 _ 0),(6,.tr 1 u.fns.length fun i=>pB (decide (qA u (kh l.bf l.bf.length) i))),(7,.int .i64 j)]) (fun _=>[(2,some _,.cells (jv l)),(3,some _,.cells (bK u))]) (fun j=>j<=l.bf.length/\ ∀i,i<j->Js u l.bf i=0) (fun j=>l.bf.length-j) 0 ⟨Nat.zero_le _,fun i hi=>absurd hi (by omega)⟩ (.cons rfl (.refl _) (.cons rfl (.refl _) (.cons rfl (.refl _) (.cons rfl (.refl _) (.nil))))) (.cons rfl (.refl _) (.cons rfl (.refl _) (.nil))) ?_
  rintro j ⟨hj,hb⟩
  have hlt:=tG (l:=u.fns) (c:=(el l.bf j).cls) (m:=(el l.bf j).gP)
  repeat'(first|refine pg ?_|refine af ?_|(refine aG ?_ ?_<;>intro hc<;>try contradiction)|(refine dK ?_ ?_<;>intro hc<;>try contradiction)|refine ad ?_|(refine ak ?_;intro hl)|(refine ai ?_;intro b)|(refine aw ?_ ?_<;>intro hc<;>try first|contradiction|omega)|refine aj ?_|refine bA ?_|refine aA ?_|refine au ?_|refine ay ?_|refine aI ?_|refine ae (aa (nQ ?_))|(refine ae (aa (Hm (fX (by assumption)).1 (fun hs=>?_) fun hs=>?_)))|refine pc ?_|refine pt ?_|refine pb ?_)
  all_goals first
   |(rw[aW (by omega) hb (O5 (by assumption)) (by decide)]at k;exact⟨Or.inr rfl,⟨trivial,trivial⟩,_,_,rfl,.refl _,k⟩)
   |(rw[aW (by omega) hb (O7 (by assumption) (by assumption)) (by decide)]at k;exact⟨Or.inr rfl,⟨trivial,trivial⟩,_,_,rfl,.refl _,k⟩)
   |(rw[aW (by omega) hb (O6 (by assumption) (by assumption) (by assumption) (of_decide_eq_false (by assumption))) (by decide)]at k;exact⟨Or.inr rfl,⟨trivial,trivial⟩,_,_,rfl,.refl _,k⟩)
   |(refine⟨j+1,by dsimp only;omega,⟨by omega,fun i hi=>?_⟩,(.cons rfl (.refl _) (.cons rfl (.refl _) (.cons rfl (.refl _) (.cons rfl (.refl _) (.nil))))),(.cons rfl (.refl _) (.cons rfl (.refl _) (.nil)))⟩;by_cases q:i=j;(subst q;first|exact FB (by assumption) (by assumption) (Or.inr (of_decide_eq_true (by assumption)))|exact FB (by assumption) (by assumption) (Or.inl (O2 (by assumption))));(exact hb i (by omega)))
   |(rw[bL fun i hi=>hb i (by omega)]at k;exact⟨Or.inr rfl,⟨trivial,trivial⟩,_,_,rfl,.refl _,k⟩)
 ·exact⟨Or.inr rfl,⟨trivial,trivial⟩,_,_,rfl,.refl _,k⟩
 ·exact⟨Or.inr rfl,⟨trivial,trivial⟩,_,_,rfl,.refl _,k⟩
end
end Go.Proofs.YtemehfgkfidgjaaGreatDoor.Ev
