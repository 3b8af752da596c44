/- The code of the functions, as the evaluator has it (printed by a program). -/
import Derived.Test.YtlocnfaeiacphaaGreatDoorProg
import Derived.Test.YtlocnfaeiacphaaGreatDoorSyG
import Derived.Test.YtlocnfaeiacphaaGreatDoorCpQ
import Derived.KernelRfl
set_option linter.unusedVariables false
set_option linter.unusedSimpArgs false
set_option maxHeartbeats 4000000
namespace Go.Proofs.YtlocnfaeiacphaaGreatDoor.Ev
open Go
def X0 : Exts := []
/-- the closed example answers true -/
def Mx : Mf := MK 4 []
theorem seen_two {n A : Nat} (h : A < 10000000) : seen [(n, big), (A, Nat.succ A)] A = true := by
  by_cases q : n ≤ A
  · exact seen_here q (by unfold big; omega)
  · exact seen_cons (by simp; omega) (seen_here (Nat.le_refl _) (Nat.lt_succ_self _))
theorem unchF_nil {preds : Nat} {t t' : Tr AB} : unchF preds t t' [] = true := rfl
theorem unchF_cons {preds i A : Nat} {t t' : Tr AB} {fs : List (Nat × Nat)} (h : Nat.testBit preds i = true) (h' : unchF preds t t' fs = true) : unchF preds t t' ((i, A) :: fs) = true := by
  simp only [unchF, h, h', Bool.true_or, Bool.and_self]
def Nd.row (n : Nd) : List AV := [.int .i64 n.f, .int .i64 n.k, .int .i64 n.i]
def Ed.row (e : Ed) : List AV := [.int .i64 e.a, .int .i64 e.b, .int .i64 e.k, .int .i64 e.c]
def Ob.row (o : Ob) : List AV := [.int .i64 o.f, .int .i64 o.i, .int .i64 o.fr, .int .i64 o.c, o.v]
def s_kind : SC := (.seq (.reg [
   ⟨(some 3), .box (.tmp 0), none, 0, false, false, none⟩,
   ⟨(some 6), .mv (.const (.int .i64 0)), none, 0, false, false, none⟩])
 (.seq (.seq (.reg [
   ⟨(some 7), .mv (.const (.int .i64 0)), none, 0, false, false, none⟩])
 (.block 0
  (.loop
   (.seq (.seq (.reg [
     ⟨(some 8), .mv (.tmp 7), none, 0, false, false, none⟩,
     ⟨(some 9), .faddr 0 (.tmp 3), none, 0, false, false, none⟩,
     ⟨(some 10), .load1 (.tmp 9), none, 0, false, false, none⟩,
     ⟨(some 11), .lenL (.tmp 10), none, 0, false, false, none⟩,
     ⟨(some 12), .ints .lss (.tmp 8) (.tmp 11), none, 0, false, false, none⟩])
   (.cond (.tmp 12)
    .skip
    (.exit 0)))
   (.seq (.block 1
    (.seq (.reg [
      ⟨(some 15), .faddr 0 (.tmp 3), none, 0, false, false, none⟩,
      ⟨(some 16), .load1 (.tmp 15), none, 0, false, false, none⟩,
      ⟨(some 17), .mv (.tmp 7), none, 0, false, false, none⟩,
      ⟨(some 18), .iaddr 3 (.tmp 16) (.tmp 17), none, 0, false, false, none⟩,
      ⟨(some 19), .faddr 0 (.tmp 18), none, 0, false, false, none⟩,
      ⟨(some 20), .load1 (.tmp 19), none, 0, false, false, none⟩,
      ⟨(some 21), .mv (.tmp 1), none, 0, false, false, none⟩,
      ⟨(some 22), .eql (.b .int) false (.tmp 20) (.tmp 21), none, 0, false, false, none⟩,
      ⟨(some 23), .mv (.tmp 22), none, 0, false, false, none⟩,
      ⟨(some 24), .faddr 0 (.tmp 3), (some (23, true)), 0, false, false, none⟩,
      ⟨(some 25), .load1 (.tmp 24), (some (23, true)), 0, false, false, none⟩,
      ⟨(some 26), .mv (.tmp 7), (some (23, true)), 0, false, false, none⟩,
      ⟨(some 27), .iaddr 3 (.tmp 25) (.tmp 26), (some (23, true)), 0, false, false, none⟩,
      ⟨(some 28), .faddr 1 (.tmp 27), (some (23, true)), 0, false, false, none⟩,
      ⟨(some 29), .load1 (.tmp 28), (some (23, true)), 0, false, false, none⟩,
      ⟨(some 30), .mv (.tmp 2), (some (23, true)), 0, false, false, none⟩,
      ⟨(some 31), .eql (.b .int) false (.tmp 29) (.tmp 30), (some (23, true)), 0, false, false, none⟩,
      ⟨(some 32), .pick (.tmp 23) (.tmp 31) (.const (.bool false)), none, 0, false, false, none⟩])
    (.cond (.tmp 32)
     (.seq (.reg [
        ⟨(some 33), .mv (.tmp 7), none, 0, false, false, none⟩,
        ⟨(some 6), .mv (.tmp 33), none, 0, false, false, none⟩])
      .ret)
     .skip)))
   (.reg [
     ⟨(some 13), .mv (.tmp 7), none, 0, false, false, none⟩,
     ⟨(some 14), .ints .add (.tmp 13) (.const (.int .i64 1)), none, 0, false, false, none⟩,
     ⟨(some 7), .mv (.tmp 14), none, 0, false, false, none⟩]))))))
 (.seq (.reg [
   ⟨(some 6), .mv (.const (.int .i64 (-1))), none, 0, false, false, none⟩])
 .ret)))
theorem x_kind : tblX Tryz.prog X0 41 = some (.fn ⟨34, [(6, none)], s_kind.den⟩) := by kernel_rfl
def s_Start : SC := (.seq (.reg [
   ⟨(some 2), .box (.tmp 0), none, 0, false, false, none⟩,
   ⟨(some 4), .mv (.const (.int .i64 0)), none, 0, false, false, none⟩])
 (.seq (.reg [
   ⟨(some 5), .loadN 3 (.tmp 2), none, 0, false, false, none⟩,
   ⟨(some 6), .mv (.tmp 1), none, 0, false, false, none⟩,
   ⟨(some 7), .call (.const (.fn 41 [])) [(.tmp 5), (.tmp 6), (.const (.int .i64 1))], none, 0, true, false, none⟩,
   ⟨(some 4), .mv (.tmp 7), none, 0, false, false, none⟩])
 .ret))
theorem x_Start : tblX Tryz.prog X0 17 = some (.fn ⟨8, [(4, none)], s_Start.den⟩) := by kernel_rfl
def s_Exit : SC := (.seq (.reg [
   ⟨(some 2), .box (.tmp 0), none, 0, false, false, none⟩,
   ⟨(some 4), .mv (.const (.int .i64 0)), none, 0, false, false, none⟩,
   ⟨(some 5), .mv (.const (.int .i64 0)), none, 0, false, false, none⟩])
 (.seq (.dreg [
   ⟨(some 6), .loadN 3 (.tmp 2), none, 0, false, false, (some (.tmp 2))⟩,
   ⟨(some 7), .mv (.tmp 1), none, 0, false, false, none⟩,
   ⟨(some 8), .call (.const (.fn 41 [])) [(.tmp 6), (.tmp 7), (.const (.int .i64 3))], none, 3, true, true, none⟩,
   ⟨(some 9), .loadN 3 (.tmp 2), none, 0, false, false, (some (.tmp 2))⟩,
   ⟨(some 10), .mv (.tmp 1), none, 0, false, false, none⟩,
   ⟨(some 11), .call (.const (.fn 41 [])) [(.tmp 9), (.tmp 10), (.const (.int .i64 4))], none, 31, true, true, none⟩,
   ⟨(some 4), .mv (.tmp 8), none, 63, false, false, none⟩,
   ⟨(some 5), .mv (.tmp 11), none, 127, false, false, none⟩])
 .ret))
theorem x_Exit : tblX Tryz.prog X0 21 = some (.fn ⟨12, [(4, none), (5, none)], s_Exit.den⟩) := by kernel_rfl
def s_Node : SC := (.seq (.reg [
   ⟨(some 2), .box (.tmp 0), none, 0, false, false, none⟩,
   ⟨(some 3), .box (.tmp 1), none, 0, false, false, none⟩,
   ⟨(some 4), .mv (.const (.int .i64 0)), none, 0, false, false, none⟩])
 (.seq (.seq (.reg [
   ⟨(some 5), .mv (.const (.int .i64 0)), none, 0, false, false, none⟩])
 (.block 0
  (.loop
   (.seq (.seq (.reg [
     ⟨(some 6), .mv (.tmp 5), none, 0, false, false, none⟩,
     ⟨(some 7), .faddr 0 (.tmp 2), none, 0, false, false, none⟩,
     ⟨(some 8), .load1 (.tmp 7), none, 0, false, false, none⟩,
     ⟨(some 9), .lenL (.tmp 8), none, 0, false, false, none⟩,
     ⟨(some 10), .ints .lss (.tmp 6) (.tmp 9), none, 0, false, false, none⟩])
   (.cond (.tmp 10)
    .skip
    (.exit 0)))
   (.seq (.block 1
    (.seq (.dreg [
      ⟨(some 13), .faddr 0 (.tmp 2), none, 0, false, false, none⟩,
      ⟨(some 14), .load1 (.tmp 13), none, 1, false, false, (some (.tmp 13))⟩,
      ⟨(some 15), .mv (.tmp 5), none, 0, false, false, none⟩,
      ⟨(some 16), .iaddr 3 (.tmp 14) (.tmp 15), none, 7, false, false, none⟩,
      ⟨(some 17), .loadN 3 (.tmp 16), none, 15, false, false, (some (.tmp 16))⟩,
      ⟨(some 18), .loadN 3 (.tmp 3), none, 0, false, false, (some (.tmp 3))⟩,
      ⟨(some 19), .eql (.st [.int, .int, .int]) false (.tmp 17) (.tmp 18), none, 63, false, false, none⟩])
    (.cond (.tmp 19)
     (.seq (.reg [
        ⟨(some 20), .mv (.tmp 5), none, 0, false, false, none⟩,
        ⟨(some 4), .mv (.tmp 20), none, 0, false, false, none⟩])
      .ret)
     .skip)))
   (.reg [
     ⟨(some 11), .mv (.tmp 5), none, 0, false, false, none⟩,
     ⟨(some 12), .ints .add (.tmp 11) (.const (.int .i64 1)), none, 0, false, false, none⟩,
     ⟨(some 5), .mv (.tmp 12), none, 0, false, false, none⟩]))))))
 (.seq (.reg [
   ⟨(some 4), .mv (.const (.int .i64 (-1))), none, 0, false, false, none⟩])
 .ret)))
theorem x_Node : tblX Tryz.prog X0 40 = some (.fn ⟨21, [(4, none)], s_Node.den⟩) := by kernel_rfl
def s_less : SC := (.seq (.reg [
   ⟨(some 2), .box (.tmp 0), none, 0, false, false, none⟩,
   ⟨(some 3), .box (.tmp 1), none, 0, false, false, none⟩,
   ⟨(some 4), .mv (.const (.bool false)), none, 0, false, false, none⟩])
 (.seq (.seq (.reg [
   ⟨(some 5), .faddr 0 (.tmp 2), none, 0, false, false, none⟩,
   ⟨(some 6), .load1 (.tmp 5), none, 0, false, false, none⟩,
   ⟨(some 7), .faddr 0 (.tmp 3), none, 0, false, false, none⟩,
   ⟨(some 8), .load1 (.tmp 7), none, 0, false, false, none⟩,
   ⟨(some 9), .eql (.b .int) true (.tmp 6) (.tmp 8), none, 0, false, false, none⟩])
 (.cond (.tmp 9)
  (.seq (.reg [
     ⟨(some 10), .faddr 0 (.tmp 2), none, 0, false, false, none⟩,
     ⟨(some 11), .load1 (.tmp 10), none, 0, false, false, none⟩,
     ⟨(some 12), .faddr 0 (.tmp 3), none, 0, false, false, none⟩,
     ⟨(some 13), .load1 (.tmp 12), none, 0, false, false, none⟩,
     ⟨(some 14), .ints .lss (.tmp 11) (.tmp 13), none, 0, false, false, none⟩,
     ⟨(some 4), .mv (.tmp 14), none, 0, false, false, none⟩])
   .ret)
  .skip))
 (.seq (.seq (.reg [
   ⟨(some 15), .faddr 1 (.tmp 2), none, 0, false, false, none⟩,
   ⟨(some 16), .load1 (.tmp 15), none, 0, false, false, none⟩,
   ⟨(some 17), .faddr 1 (.tmp 3), none, 0, false, false, none⟩,
   ⟨(some 18), .load1 (.tmp 17), none, 0, false, false, none⟩,
   ⟨(some 19), .eql (.b .int) true (.tmp 16) (.tmp 18), none, 0, false, false, none⟩])
 (.cond (.tmp 19)
  (.seq (.reg [
     ⟨(some 20), .faddr 1 (.tmp 2), none, 0, false, false, none⟩,
     ⟨(some 21), .load1 (.tmp 20), none, 0, false, false, none⟩,
     ⟨(some 22), .faddr 1 (.tmp 3), none, 0, false, false, none⟩,
     ⟨(some 23), .load1 (.tmp 22), none, 0, false, false, none⟩,
     ⟨(some 24), .ints .lss (.tmp 21) (.tmp 23), none, 0, false, false, none⟩,
     ⟨(some 4), .mv (.tmp 24), none, 0, false, false, none⟩])
   .ret)
  .skip))
 (.seq (.reg [
   ⟨(some 25), .faddr 2 (.tmp 2), none, 0, false, false, none⟩,
   ⟨(some 26), .load1 (.tmp 25), none, 0, false, false, none⟩,
   ⟨(some 27), .faddr 2 (.tmp 3), none, 0, false, false, none⟩,
   ⟨(some 28), .load1 (.tmp 27), none, 0, false, false, none⟩,
   ⟨(some 29), .ints .lss (.tmp 26) (.tmp 28), none, 0, false, false, none⟩,
   ⟨(some 4), .mv (.tmp 29), none, 0, false, false, none⟩])
 .ret))))
theorem x_less : tblX Tryz.prog X0 58 = some (.fn ⟨30, [(4, none)], s_less.den⟩) := by kernel_rfl
def s_lessEdge : SC := (.seq (.reg [
   ⟨(some 2), .box (.tmp 0), none, 0, false, false, none⟩,
   ⟨(some 3), .box (.tmp 1), none, 0, false, false, none⟩,
   ⟨(some 4), .mv (.const (.bool false)), none, 0, false, false, none⟩])
 (.seq (.seq (.reg [
   ⟨(some 5), .faddr 0 (.tmp 2), none, 0, false, false, none⟩,
   ⟨(some 6), .load1 (.tmp 5), none, 0, false, false, none⟩,
   ⟨(some 7), .faddr 0 (.tmp 3), none, 0, false, false, none⟩,
   ⟨(some 8), .load1 (.tmp 7), none, 0, false, false, none⟩,
   ⟨(some 9), .eql (.b .int) true (.tmp 6) (.tmp 8), none, 0, false, false, none⟩])
 (.cond (.tmp 9)
  (.seq (.reg [
     ⟨(some 10), .faddr 0 (.tmp 2), none, 0, false, false, none⟩,
     ⟨(some 11), .load1 (.tmp 10), none, 0, false, false, none⟩,
     ⟨(some 12), .faddr 0 (.tmp 3), none, 0, false, false, none⟩,
     ⟨(some 13), .load1 (.tmp 12), none, 0, false, false, none⟩,
     ⟨(some 14), .ints .lss (.tmp 11) (.tmp 13), none, 0, false, false, none⟩,
     ⟨(some 4), .mv (.tmp 14), none, 0, false, false, none⟩])
   .ret)
  .skip))
 (.seq (.seq (.reg [
   ⟨(some 15), .faddr 1 (.tmp 2), none, 0, false, false, none⟩,
   ⟨(some 16), .load1 (.tmp 15), none, 0, false, false, none⟩,
   ⟨(some 17), .faddr 1 (.tmp 3), none, 0, false, false, none⟩,
   ⟨(some 18), .load1 (.tmp 17), none, 0, false, false, none⟩,
   ⟨(some 19), .eql (.b .int) true (.tmp 16) (.tmp 18), none, 0, false, false, none⟩])
 (.cond (.tmp 19)
  (.seq (.reg [
     ⟨(some 20), .faddr 1 (.tmp 2), none, 0, false, false, none⟩,
     ⟨(some 21), .load1 (.tmp 20), none, 0, false, false, none⟩,
     ⟨(some 22), .faddr 1 (.tmp 3), none, 0, false, false, none⟩,
     ⟨(some 23), .load1 (.tmp 22), none, 0, false, false, none⟩,
     ⟨(some 24), .ints .lss (.tmp 21) (.tmp 23), none, 0, false, false, none⟩,
     ⟨(some 4), .mv (.tmp 24), none, 0, false, false, none⟩])
   .ret)
  .skip))
 (.seq (.seq (.reg [
   ⟨(some 25), .faddr 2 (.tmp 2), none, 0, false, false, none⟩,
   ⟨(some 26), .load1 (.tmp 25), none, 0, false, false, none⟩,
   ⟨(some 27), .faddr 2 (.tmp 3), none, 0, false, false, none⟩,
   ⟨(some 28), .load1 (.tmp 27), none, 0, false, false, none⟩,
   ⟨(some 29), .eql (.b .int) true (.tmp 26) (.tmp 28), none, 0, false, false, none⟩])
 (.cond (.tmp 29)
  (.seq (.reg [
     ⟨(some 30), .faddr 2 (.tmp 2), none, 0, false, false, none⟩,
     ⟨(some 31), .load1 (.tmp 30), none, 0, false, false, none⟩,
     ⟨(some 32), .faddr 2 (.tmp 3), none, 0, false, false, none⟩,
     ⟨(some 33), .load1 (.tmp 32), none, 0, false, false, none⟩,
     ⟨(some 34), .ints .lss (.tmp 31) (.tmp 33), none, 0, false, false, none⟩,
     ⟨(some 4), .mv (.tmp 34), none, 0, false, false, none⟩])
   .ret)
  .skip))
 (.seq (.reg [
   ⟨(some 35), .faddr 3 (.tmp 2), none, 0, false, false, none⟩,
   ⟨(some 36), .load1 (.tmp 35), none, 0, false, false, none⟩,
   ⟨(some 37), .faddr 3 (.tmp 3), none, 0, false, false, none⟩,
   ⟨(some 38), .load1 (.tmp 37), none, 0, false, false, none⟩,
   ⟨(some 39), .ints .lss (.tmp 36) (.tmp 38), none, 0, false, false, none⟩,
   ⟨(some 4), .mv (.tmp 39), none, 0, false, false, none⟩])
 .ret)))))
theorem x_lessEdge : tblX Tryz.prog X0 38 = some (.fn ⟨40, [(4, none)], s_lessEdge.den⟩) := by kernel_rfl
def s_calls : SC := (.seq (.reg [
   ⟨(some 3), .box (.tmp 0), none, 0, false, false, none⟩,
   ⟨(some 6), .mv (.const (.bool false)), none, 0, false, false, none⟩])
 (.seq (.seq (.reg [
   ⟨(some 7), .mv (.const (.int .i64 0)), none, 0, false, false, none⟩])
 (.block 0
  (.loop
   (.seq (.seq (.reg [
     ⟨(some 9), .mv (.tmp 7), none, 0, false, false, none⟩,
     ⟨(some 10), .faddr 1 (.tmp 3), none, 0, false, false, none⟩,
     ⟨(some 11), .load1 (.tmp 10), none, 0, false, false, none⟩,
     ⟨(some 12), .lenL (.tmp 11), none, 0, false, false, none⟩,
     ⟨(some 13), .ints .lss (.tmp 9) (.tmp 12), none, 0, false, false, none⟩])
   (.cond (.tmp 13)
    .skip
    (.exit 0)))
   (.seq (.block 1
    (.seq (.reg [
      ⟨(some 16), .faddr 1 (.tmp 3), none, 0, false, false, none⟩,
      ⟨(some 17), .load1 (.tmp 16), none, 0, false, false, none⟩,
      ⟨(some 18), .mv (.tmp 7), none, 0, false, false, none⟩,
      ⟨(some 19), .iaddr 4 (.tmp 17) (.tmp 18), none, 0, false, false, none⟩,
      ⟨(some 20), .loadN 4 (.tmp 19), none, 0, false, false, none⟩,
      ⟨(some 8), .box (.const (.agg [(.int .i64 0), (.int .i64 0), (.int .i64 0), (.int .i64 0)])), none, 0, false, false, none⟩,
      ⟨none, .store 4 (.tmp 8) (.tmp 20), none, 0, true, false, none⟩])
    (.seq (.reg [
      ⟨(some 21), .faddr 2 (.tmp 8), none, 0, false, false, none⟩,
      ⟨(some 22), .load1 (.tmp 21), none, 0, false, false, none⟩,
      ⟨(some 23), .eql (.b .int) false (.tmp 22) (.const (.int .i64 2)), none, 0, false, false, none⟩,
      ⟨(some 24), .mv (.tmp 23), none, 0, false, false, none⟩,
      ⟨(some 25), .faddr 0 (.tmp 8), (some (24, true)), 0, false, false, none⟩,
      ⟨(some 26), .load1 (.tmp 25), (some (24, true)), 0, false, false, none⟩,
      ⟨(some 27), .mv (.tmp 1), (some (24, true)), 0, false, false, none⟩,
      ⟨(some 28), .eql (.b .int) false (.tmp 26) (.tmp 27), (some (24, true)), 0, false, false, none⟩,
      ⟨(some 29), .pick (.tmp 24) (.tmp 28) (.const (.bool false)), none, 0, false, false, none⟩,
      ⟨(some 30), .mv (.tmp 29), none, 0, false, false, none⟩,
      ⟨(some 31), .faddr 1 (.tmp 8), (some (30, true)), 0, false, false, none⟩,
      ⟨(some 32), .load1 (.tmp 31), (some (30, true)), 0, false, false, none⟩,
      ⟨(some 33), .ints .geq (.tmp 32) (.const (.int .i64 0)), (some (30, true)), 0, false, false, none⟩,
      ⟨(some 34), .pick (.tmp 30) (.tmp 33) (.const (.bool false)), none, 0, false, false, none⟩,
      ⟨(some 35), .mv (.tmp 34), none, 0, false, false, none⟩,
      ⟨(some 36), .faddr 1 (.tmp 8), (some (35, true)), 0, false, false, none⟩,
      ⟨(some 37), .load1 (.tmp 36), (some (35, true)), 0, false, false, none⟩,
      ⟨(some 38), .faddr 0 (.tmp 3), (some (35, true)), 0, false, false, none⟩,
      ⟨(some 39), .load1 (.tmp 38), (some (35, true)), 0, false, false, none⟩,
      ⟨(some 40), .lenL (.tmp 39), (some (35, true)), 0, false, false, none⟩,
      ⟨(some 41), .ints .lss (.tmp 37) (.tmp 40), (some (35, true)), 0, false, false, none⟩,
      ⟨(some 42), .pick (.tmp 35) (.tmp 41) (.const (.bool false)), none, 0, false, false, none⟩,
      ⟨(some 43), .mv (.tmp 42), none, 0, false, false, none⟩,
      ⟨(some 44), .faddr 0 (.tmp 3), (some (43, true)), 0, false, false, none⟩,
      ⟨(some 45), .load1 (.tmp 44), (some (43, true)), 0, false, false, none⟩,
      ⟨(some 46), .faddr 1 (.tmp 8), (some (43, true)), 0, false, false, none⟩,
      ⟨(some 47), .load1 (.tmp 46), (some (43, true)), 0, false, false, none⟩,
      ⟨(some 48), .iaddr 3 (.tmp 45) (.tmp 47), (some (43, true)), 0, false, false, none⟩,
      ⟨(some 49), .faddr 0 (.tmp 48), (some (43, true)), 0, false, false, none⟩,
      ⟨(some 50), .load1 (.tmp 49), (some (43, true)), 0, false, false, none⟩,
      ⟨(some 51), .mv (.tmp 2), (some (43, true)), 0, false, false, none⟩,
      ⟨(some 52), .eql (.b .int) false (.tmp 50) (.tmp 51), (some (43, true)), 0, false, false, none⟩,
      ⟨(some 53), .pick (.tmp 43) (.tmp 52) (.const (.bool false)), none, 0, false, false, none⟩,
      ⟨(some 54), .mv (.tmp 53), none, 0, false, false, none⟩,
      ⟨(some 55), .faddr 0 (.tmp 3), (some (54, true)), 0, false, false, none⟩,
      ⟨(some 56), .load1 (.tmp 55), (some (54, true)), 0, false, false, none⟩,
      ⟨(some 57), .faddr 1 (.tmp 8), (some (54, true)), 0, false, false, none⟩,
      ⟨(some 58), .load1 (.tmp 57), (some (54, true)), 0, false, false, none⟩,
      ⟨(some 59), .iaddr 3 (.tmp 56) (.tmp 58), (some (54, true)), 0, false, false, none⟩,
      ⟨(some 60), .faddr 1 (.tmp 59), (some (54, true)), 0, false, false, none⟩,
      ⟨(some 61), .load1 (.tmp 60), (some (54, true)), 0, false, false, none⟩,
      ⟨(some 62), .eql (.b .int) false (.tmp 61) (.const (.int .i64 1)), (some (54, true)), 0, false, false, none⟩,
      ⟨(some 63), .pick (.tmp 54) (.tmp 62) (.const (.bool false)), none, 0, false, false, none⟩])
    (.cond (.tmp 63)
     (.seq (.reg [
        ⟨(some 6), .mv (.const (.bool true)), none, 0, false, false, none⟩])
      .ret)
     .skip))))
   (.reg [
     ⟨(some 14), .mv (.tmp 7), none, 0, false, false, none⟩,
     ⟨(some 15), .ints .add (.tmp 14) (.const (.int .i64 1)), none, 0, false, false, none⟩,
     ⟨(some 7), .mv (.tmp 15), none, 0, false, false, none⟩]))))))
 (.seq (.reg [
   ⟨(some 6), .mv (.const (.bool false)), none, 0, false, false, none⟩])
 .ret)))
theorem x_calls : tblX Tryz.prog X0 59 = some (.fn ⟨64, [(6, none)], s_calls.den⟩) := by kernel_rfl
def s_fits : SC := (.seq (.reg [
   ⟨(some 2), .box (.tmp 0), none, 0, false, false, none⟩,
   ⟨(some 3), .box (.tmp 1), none, 0, false, false, none⟩,
   ⟨(some 4), .mv (.const (.bool false)), none, 0, false, false, none⟩])
 (.seq (.dreg [
   ⟨(some 8), .faddr 0 (.tmp 2), none, 0, false, false, none⟩,
   ⟨(some 9), .load1 (.tmp 8), none, 1, false, false, (some (.tmp 8))⟩,
   ⟨(some 10), .faddr 0 (.tmp 3), none, 0, false, false, none⟩,
   ⟨(some 11), .load1 (.tmp 10), none, 4, false, false, (some (.tmp 10))⟩,
   ⟨(some 12), .iaddr 3 (.tmp 9) (.tmp 11), none, 15, false, false, none⟩,
   ⟨(some 13), .loadN 3 (.tmp 12), none, 31, false, false, (some (.tmp 12))⟩,
   ⟨(some 14), .faddr 0 (.tmp 2), none, 0, false, false, none⟩,
   ⟨(some 15), .load1 (.tmp 14), none, 64, false, false, (some (.tmp 14))⟩,
   ⟨(some 16), .faddr 1 (.tmp 3), none, 0, false, false, none⟩,
   ⟨(some 17), .load1 (.tmp 16), none, 256, false, false, (some (.tmp 16))⟩,
   ⟨(some 18), .iaddr 3 (.tmp 15) (.tmp 17), none, 960, false, false, none⟩,
   ⟨(some 19), .loadN 3 (.tmp 18), none, 1984, false, false, (some (.tmp 18))⟩,
   ⟨(some 5), .box (.const (.agg [(.int .i64 0), (.int .i64 0), (.int .i64 0)])), none, 0, false, false, none⟩,
   ⟨(some 6), .box (.const (.agg [(.int .i64 0), (.int .i64 0), (.int .i64 0)])), none, 0, false, false, none⟩,
   ⟨none, .store 3 (.tmp 5) (.tmp 13), none, 12351, true, true, none⟩,
   ⟨none, .store 3 (.tmp 6) (.tmp 19), none, 32767, true, true, none⟩])
 (.seq (.seq (.reg [
   ⟨(some 20), .faddr 2 (.tmp 3), none, 0, false, false, none⟩,
   ⟨(some 21), .load1 (.tmp 20), none, 0, false, false, none⟩])
 (.block 0
  (.seq (.seq (.reg [
    ⟨(some 23), .eql (.b .int) false (.tmp 21) (.const (.int .i64 1)), none, 0, false, false, none⟩,
    ⟨(some 22), .mv (.tmp 23), none, 0, false, false, none⟩])
  (.cond (.tmp 22)
   .skip
   (.reg [
      ⟨(some 24), .eql (.b .int) false (.tmp 21) (.const (.int .i64 5)), none, 0, false, false, none⟩,
      ⟨(some 22), .mv (.tmp 24), none, 0, false, false, none⟩])))
  (.cond (.tmp 22)
   (.seq (.reg [
      ⟨(some 25), .faddr 0 (.tmp 5), none, 0, false, false, none⟩,
      ⟨(some 26), .load1 (.tmp 25), none, 0, false, false, none⟩,
      ⟨(some 27), .faddr 0 (.tmp 6), none, 0, false, false, none⟩,
      ⟨(some 28), .load1 (.tmp 27), none, 0, false, false, none⟩,
      ⟨(some 29), .eql (.b .int) false (.tmp 26) (.tmp 28), none, 0, false, false, none⟩,
      ⟨(some 30), .mv (.tmp 29), none, 0, false, false, none⟩,
      ⟨(some 31), .faddr 1 (.tmp 5), (some (30, true)), 0, false, false, none⟩,
      ⟨(some 32), .load1 (.tmp 31), (some (30, true)), 0, false, false, none⟩,
      ⟨(some 33), .eql (.b .int) true (.tmp 32) (.const (.int .i64 3)), (some (30, true)), 0, false, false, none⟩,
      ⟨(some 34), .pick (.tmp 30) (.tmp 33) (.const (.bool false)), none, 0, false, false, none⟩,
      ⟨(some 35), .mv (.tmp 34), none, 0, false, false, none⟩,
      ⟨(some 36), .faddr 1 (.tmp 5), (some (35, true)), 0, false, false, none⟩,
      ⟨(some 37), .load1 (.tmp 36), (some (35, true)), 0, false, false, none⟩,
      ⟨(some 38), .eql (.b .int) true (.tmp 37) (.const (.int .i64 4)), (some (35, true)), 0, false, false, none⟩,
      ⟨(some 39), .pick (.tmp 35) (.tmp 38) (.const (.bool false)), none, 0, false, false, none⟩,
      ⟨(some 40), .mv (.tmp 39), none, 0, false, false, none⟩,
      ⟨(some 41), .faddr 1 (.tmp 6), (some (40, true)), 0, false, false, none⟩,
      ⟨(some 42), .load1 (.tmp 41), (some (40, true)), 0, false, false, none⟩,
      ⟨(some 43), .eql (.b .int) true (.tmp 42) (.const (.int .i64 1)), (some (40, true)), 0, false, false, none⟩,
      ⟨(some 44), .pick (.tmp 40) (.tmp 43) (.const (.bool false)), none, 0, false, false, none⟩,
      ⟨(some 45), .mv (.tmp 44), none, 0, false, false, none⟩,
      ⟨(some 46), .faddr 2 (.tmp 3), (some (45, true)), 0, false, false, none⟩,
      ⟨(some 47), .load1 (.tmp 46), (some (45, true)), 0, false, false, none⟩,
      ⟨(some 48), .eql (.b .int) false (.tmp 47) (.const (.int .i64 1)), (some (45, true)), 0, false, false, none⟩,
      ⟨(some 49), .mv (.tmp 48), (some (45, true)), 0, false, false, none⟩,
      ⟨(some 50), .faddr 1 (.tmp 5), (some (49, false)), 0, false, false, none⟩,
      ⟨(some 51), .load1 (.tmp 50), (some (49, false)), 0, false, false, none⟩,
      ⟨(some 52), .eql (.b .int) false (.tmp 51) (.const (.int .i64 2)), (some (49, false)), 0, false, false, none⟩,
      ⟨(some 53), .pick (.tmp 49) (.const (.bool true)) (.tmp 52), (some (45, true)), 0, false, false, none⟩,
      ⟨(some 54), .pick (.tmp 45) (.tmp 53) (.const (.bool false)), none, 0, false, false, none⟩,
      ⟨(some 4), .mv (.tmp 54), none, 0, false, false, none⟩])
    .ret)
   (.seq (.reg [
      ⟨(some 56), .eql (.b .int) false (.tmp 21) (.const (.int .i64 2)), none, 0, false, false, none⟩,
      ⟨(some 55), .mv (.tmp 56), none, 0, false, false, none⟩])
    (.cond (.tmp 55)
     (.seq (.reg [
        ⟨(some 57), .faddr 1 (.tmp 5), none, 0, false, false, none⟩,
        ⟨(some 58), .load1 (.tmp 57), none, 0, false, false, none⟩,
        ⟨(some 59), .eql (.b .int) false (.tmp 58) (.const (.int .i64 2)), none, 0, false, false, none⟩,
        ⟨(some 60), .mv (.tmp 59), none, 0, false, false, none⟩,
        ⟨(some 61), .faddr 3 (.tmp 3), (some (60, true)), 0, false, false, none⟩,
        ⟨(some 62), .load1 (.tmp 61), (some (60, true)), 0, false, false, none⟩,
        ⟨(some 63), .faddr 0 (.tmp 3), (some (60, true)), 0, false, false, none⟩,
        ⟨(some 64), .load1 (.tmp 63), (some (60, true)), 0, false, false, none⟩,
        ⟨(some 65), .eql (.b .int) false (.tmp 62) (.tmp 64), (some (60, true)), 0, false, false, none⟩,
        ⟨(some 66), .pick (.tmp 60) (.tmp 65) (.const (.bool false)), none, 0, false, false, none⟩,
        ⟨(some 67), .mv (.tmp 66), none, 0, false, false, none⟩,
        ⟨(some 68), .faddr 1 (.tmp 6), (some (67, true)), 0, false, false, none⟩,
        ⟨(some 69), .load1 (.tmp 68), (some (67, true)), 0, false, false, none⟩,
        ⟨(some 70), .eql (.b .int) false (.tmp 69) (.const (.int .i64 1)), (some (67, true)), 0, false, false, none⟩,
        ⟨(some 71), .pick (.tmp 67) (.tmp 70) (.const (.bool false)), none, 0, false, false, none⟩,
        ⟨(some 4), .mv (.tmp 71), none, 0, false, false, none⟩])
      .ret)
     .skip))))))
 (.seq (.reg [
   ⟨(some 72), .faddr 0 (.tmp 2), none, 0, false, false, none⟩,
   ⟨(some 73), .load1 (.tmp 72), none, 0, false, false, none⟩,
   ⟨(some 74), .faddr 3 (.tmp 3), none, 0, false, false, none⟩,
   ⟨(some 75), .load1 (.tmp 74), none, 0, false, false, none⟩,
   ⟨(some 76), .iaddr 3 (.tmp 73) (.tmp 75), none, 0, false, false, none⟩,
   ⟨(some 77), .loadN 3 (.tmp 76), none, 0, false, false, none⟩,
   ⟨(some 7), .box (.const (.agg [(.int .i64 0), (.int .i64 0), (.int .i64 0)])), none, 0, false, false, none⟩,
   ⟨none, .store 3 (.tmp 7) (.tmp 77), none, 0, true, false, none⟩])
 (.seq (.seq (.reg [
   ⟨(some 78), .faddr 2 (.tmp 3), none, 0, false, false, none⟩,
   ⟨(some 79), .load1 (.tmp 78), none, 0, false, false, none⟩,
   ⟨(some 80), .eql (.b .int) false (.tmp 79) (.const (.int .i64 3)), none, 0, false, false, none⟩,
   ⟨(some 81), .mv (.tmp 80), none, 0, false, false, none⟩,
   ⟨(some 82), .faddr 1 (.tmp 5), (some (81, true)), 0, false, false, none⟩,
   ⟨(some 83), .load1 (.tmp 82), (some (81, true)), 0, false, false, none⟩,
   ⟨(some 84), .eql (.b .int) true (.tmp 83) (.const (.int .i64 3)), (some (81, true)), 0, false, false, none⟩,
   ⟨(some 85), .pick (.tmp 81) (.tmp 84) (.const (.bool false)), none, 0, false, false, none⟩,
   ⟨(some 86), .mv (.tmp 85), none, 0, false, false, none⟩,
   ⟨(some 87), .faddr 2 (.tmp 3), (some (86, false)), 0, false, false, none⟩,
   ⟨(some 88), .load1 (.tmp 87), (some (86, false)), 0, false, false, none⟩,
   ⟨(some 89), .eql (.b .int) false (.tmp 88) (.const (.int .i64 4)), (some (86, false)), 0, false, false, none⟩,
   ⟨(some 90), .mv (.tmp 89), (some (86, false)), 0, false, false, none⟩,
   ⟨(some 91), .faddr 1 (.tmp 5), (some (90, true)), 0, false, false, none⟩,
   ⟨(some 92), .load1 (.tmp 91), (some (90, true)), 0, false, false, none⟩,
   ⟨(some 93), .eql (.b .int) true (.tmp 92) (.const (.int .i64 4)), (some (90, true)), 0, false, false, none⟩,
   ⟨(some 94), .pick (.tmp 90) (.tmp 93) (.const (.bool false)), (some (86, false)), 0, false, false, none⟩,
   ⟨(some 95), .pick (.tmp 86) (.const (.bool true)) (.tmp 94), none, 0, false, false, none⟩])
 (.cond (.tmp 95)
  (.seq (.reg [
     ⟨(some 4), .mv (.const (.bool false)), none, 0, false, false, none⟩])
   .ret)
  .skip))
 (.seq (.reg [
   ⟨(some 96), .faddr 1 (.tmp 7), none, 0, false, false, none⟩,
   ⟨(some 97), .load1 (.tmp 96), none, 0, false, false, none⟩,
   ⟨(some 98), .eql (.b .int) false (.tmp 97) (.const (.int .i64 2)), none, 0, false, false, none⟩,
   ⟨(some 99), .mv (.tmp 98), none, 0, false, false, none⟩,
   ⟨(some 100), .loadN 3 (.tmp 2), (some (99, true)), 0, false, false, none⟩,
   ⟨(some 101), .faddr 3 (.tmp 3), (some (99, true)), 0, false, false, none⟩,
   ⟨(some 102), .load1 (.tmp 101), (some (99, true)), 0, false, false, none⟩,
   ⟨(some 103), .faddr 0 (.tmp 5), (some (99, true)), 0, false, false, none⟩,
   ⟨(some 104), .load1 (.tmp 103), (some (99, true)), 0, false, false, none⟩,
   ⟨(some 105), .call (.const (.fn 59 [])) [(.tmp 100), (.tmp 102), (.tmp 104)], (some (99, true)), 0, true, false, none⟩,
   ⟨(some 106), .pick (.tmp 99) (.tmp 105) (.const (.bool false)), none, 0, false, false, none⟩,
   ⟨(some 107), .mv (.tmp 106), none, 0, false, false, none⟩,
   ⟨(some 108), .faddr 0 (.tmp 6), (some (107, true)), 0, false, false, none⟩,
   ⟨(some 109), .load1 (.tmp 108), (some (107, true)), 0, false, false, none⟩,
   ⟨(some 110), .faddr 0 (.tmp 7), (some (107, true)), 0, false, false, none⟩,
   ⟨(some 111), .load1 (.tmp 110), (some (107, true)), 0, false, false, none⟩,
   ⟨(some 112), .eql (.b .int) false (.tmp 109) (.tmp 111), (some (107, true)), 0, false, false, none⟩,
   ⟨(some 113), .pick (.tmp 107) (.tmp 112) (.const (.bool false)), none, 0, false, false, none⟩,
   ⟨(some 114), .mv (.tmp 113), none, 0, false, false, none⟩,
   ⟨(some 115), .faddr 1 (.tmp 6), (some (114, true)), 0, false, false, none⟩,
   ⟨(some 116), .load1 (.tmp 115), (some (114, true)), 0, false, false, none⟩,
   ⟨(some 117), .eql (.b .int) true (.tmp 116) (.const (.int .i64 1)), (some (114, true)), 0, false, false, none⟩,
   ⟨(some 118), .pick (.tmp 114) (.tmp 117) (.const (.bool false)), none, 0, false, false, none⟩,
   ⟨(some 4), .mv (.tmp 118), none, 0, false, false, none⟩])
 .ret))))))
theorem x_fits : tblX Tryz.prog X0 39 = some (.fn ⟨119, [(4, none)], s_fits.den⟩) := by kernel_rfl
def s_nodes : SC := (.seq (.reg [
   ⟨(some 1), .box (.tmp 0), none, 0, false, false, none⟩,
   ⟨(some 2), .mv (.const (.int .i64 0)), none, 0, false, false, none⟩])
 (.seq (.seq (.reg [
   ⟨(some 3), .mv (.const (.int .i64 0)), none, 0, false, false, none⟩])
 (.block 0
  (.loop
   (.seq (.seq (.reg [
     ⟨(some 9), .mv (.tmp 3), none, 0, false, false, none⟩,
     ⟨(some 10), .faddr 0 (.tmp 1), none, 0, false, false, none⟩,
     ⟨(some 11), .load1 (.tmp 10), none, 0, false, false, none⟩,
     ⟨(some 12), .lenL (.tmp 11), none, 0, false, false, none⟩,
     ⟨(some 13), .ints .lss (.tmp 9) (.tmp 12), none, 0, false, false, none⟩])
   (.cond (.tmp 13)
    .skip
    (.exit 0)))
   (.seq (.block 1
    (.seq (.reg [
      ⟨(some 16), .faddr 0 (.tmp 1), none, 0, false, false, none⟩,
      ⟨(some 17), .load1 (.tmp 16), none, 0, false, false, none⟩,
      ⟨(some 18), .mv (.tmp 3), none, 0, false, false, none⟩,
      ⟨(some 19), .iaddr 3 (.tmp 17) (.tmp 18), none, 0, false, false, none⟩,
      ⟨(some 20), .loadN 3 (.tmp 19), none, 0, false, false, none⟩,
      ⟨(some 4), .box (.const (.agg [(.int .i64 0), (.int .i64 0), (.int .i64 0)])), none, 0, false, false, none⟩,
      ⟨none, .store 3 (.tmp 4) (.tmp 20), none, 0, true, false, none⟩])
    (.block 2
     (.seq (.reg [
       ⟨(some 22), .faddr 1 (.tmp 4), none, 0, false, false, none⟩,
       ⟨(some 23), .load1 (.tmp 22), none, 0, false, false, none⟩,
       ⟨(some 24), .ints .lss (.tmp 23) (.const (.int .i64 1)), none, 0, false, false, none⟩,
       ⟨(some 25), .mv (.tmp 24), none, 0, false, false, none⟩,
       ⟨(some 26), .faddr 1 (.tmp 4), (some (25, false)), 0, false, false, none⟩,
       ⟨(some 27), .load1 (.tmp 26), (some (25, false)), 0, false, false, none⟩,
       ⟨(some 28), .ints .gtr (.tmp 27) (.const (.int .i64 4)), (some (25, false)), 0, false, false, none⟩,
       ⟨(some 29), .pick (.tmp 25) (.const (.bool true)) (.tmp 28), none, 0, false, false, none⟩,
       ⟨(some 21), .mv (.tmp 29), none, 0, false, false, none⟩])
     (.cond (.tmp 21)
      (.seq (.reg [
         ⟨(some 2), .mv (.const (.int .i64 12)), none, 0, false, false, none⟩])
       .ret)
      (.seq (.reg [
         ⟨(some 31), .faddr 0 (.tmp 4), none, 0, false, false, none⟩,
         ⟨(some 32), .load1 (.tmp 31), none, 0, false, false, none⟩,
         ⟨(some 33), .ints .lss (.tmp 32) (.const (.int .i64 0)), none, 0, false, false, none⟩,
         ⟨(some 34), .mv (.tmp 33), none, 0, false, false, none⟩,
         ⟨(some 35), .faddr 1 (.tmp 4), (some (34, false)), 0, false, false, none⟩,
         ⟨(some 36), .load1 (.tmp 35), (some (34, false)), 0, false, false, none⟩,
         ⟨(some 37), .eql (.b .int) false (.tmp 36) (.const (.int .i64 2)), (some (34, false)), 0, false, false, none⟩,
         ⟨(some 38), .mv (.tmp 37), (some (34, false)), 0, false, false, none⟩,
         ⟨(some 39), .faddr 2 (.tmp 4), (some (38, true)), 0, false, false, none⟩,
         ⟨(some 40), .load1 (.tmp 39), (some (38, true)), 0, false, false, none⟩,
         ⟨(some 41), .ints .lss (.tmp 40) (.const (.int .i64 0)), (some (38, true)), 0, false, false, none⟩,
         ⟨(some 42), .pick (.tmp 38) (.tmp 41) (.const (.bool false)), (some (34, false)), 0, false, false, none⟩,
         ⟨(some 43), .pick (.tmp 34) (.const (.bool true)) (.tmp 42), none, 0, false, false, none⟩,
         ⟨(some 44), .mv (.tmp 43), none, 0, false, false, none⟩,
         ⟨(some 45), .faddr 1 (.tmp 4), (some (44, false)), 0, false, false, none⟩,
         ⟨(some 46), .load1 (.tmp 45), (some (44, false)), 0, false, false, none⟩,
         ⟨(some 47), .eql (.b .int) true (.tmp 46) (.const (.int .i64 2)), (some (44, false)), 0, false, false, none⟩,
         ⟨(some 48), .mv (.tmp 47), (some (44, false)), 0, false, false, none⟩,
         ⟨(some 49), .faddr 2 (.tmp 4), (some (48, true)), 0, false, false, none⟩,
         ⟨(some 50), .load1 (.tmp 49), (some (48, true)), 0, false, false, none⟩,
         ⟨(some 51), .eql (.b .int) true (.tmp 50) (.const (.int .i64 (-1))), (some (48, true)), 0, false, false, none⟩,
         ⟨(some 52), .pick (.tmp 48) (.tmp 51) (.const (.bool false)), (some (44, false)), 0, false, false, none⟩,
         ⟨(some 53), .pick (.tmp 44) (.const (.bool true)) (.tmp 52), none, 0, false, false, none⟩,
         ⟨(some 30), .mv (.tmp 53), none, 0, false, false, none⟩])
       (.cond (.tmp 30)
        (.seq (.reg [
           ⟨(some 2), .mv (.const (.int .i64 4)), none, 0, false, false, none⟩])
         .ret)
        (.seq (.dreg [
           ⟨(some 55), .mv (.tmp 3), none, 0, false, false, none⟩,
           ⟨(some 56), .ints .gtr (.tmp 55) (.const (.int .i64 0)), none, 1, false, false, none⟩,
           ⟨(some 57), .mv (.tmp 56), none, 3, false, false, none⟩,
           ⟨(some 58), .faddr 0 (.tmp 1), (some (57, true)), 7, false, false, none⟩,
           ⟨(some 59), .load1 (.tmp 58), (some (57, true)), 15, false, false, (some (.tmp 58))⟩,
           ⟨(some 60), .mv (.tmp 3), (some (57, true)), 7, false, false, none⟩,
           ⟨(some 61), .ints .sub (.tmp 60) (.const (.int .i64 1)), (some (57, true)), 39, false, false, none⟩,
           ⟨(some 62), .iaddr 3 (.tmp 59) (.tmp 61), (some (57, true)), 127, false, false, none⟩,
           ⟨(some 63), .loadN 3 (.tmp 62), (some (57, true)), 255, false, false, (some (.tmp 62))⟩,
           ⟨(some 64), .loadN 3 (.tmp 4), (some (57, true)), 7, false, false, (some (.tmp 4))⟩,
           ⟨(some 65), .call (.const (.fn 58 [])) [(.tmp 63), (.tmp 64)], (some (57, true)), 1023, true, true, none⟩,
           ⟨(some 66), .not (.tmp 65), (some (57, true)), 2047, false, false, none⟩,
           ⟨(some 67), .pick (.tmp 57) (.tmp 66) (.const (.bool false)), none, 4095, false, false, none⟩,
           ⟨(some 54), .mv (.tmp 67), none, 8191, false, false, none⟩])
         (.cond (.tmp 54)
          (.seq (.reg [
             ⟨(some 2), .mv (.const (.int .i64 13)), none, 0, false, false, none⟩])
           .ret)
          .skip)))))))))
   (.reg [
     ⟨(some 14), .mv (.tmp 3), none, 0, false, false, none⟩,
     ⟨(some 15), .ints .add (.tmp 14) (.const (.int .i64 1)), none, 0, false, false, none⟩,
     ⟨(some 3), .mv (.tmp 15), none, 0, false, false, none⟩]))))))
 (.seq (.seq (.reg [
   ⟨(some 5), .mv (.const (.int .i64 0)), none, 0, false, false, none⟩])
 (.block 3
  (.loop
   (.seq (.seq (.reg [
     ⟨(some 68), .mv (.tmp 5), none, 0, false, false, none⟩,
     ⟨(some 69), .faddr 0 (.tmp 1), none, 0, false, false, none⟩,
     ⟨(some 70), .load1 (.tmp 69), none, 0, false, false, none⟩,
     ⟨(some 71), .lenL (.tmp 70), none, 0, false, false, none⟩,
     ⟨(some 72), .ints .lss (.tmp 68) (.tmp 71), none, 0, false, false, none⟩])
   (.cond (.tmp 72)
    .skip
    (.exit 3)))
   (.seq (.block 4
    (.seq (.reg [
      ⟨(some 75), .faddr 0 (.tmp 1), none, 0, false, false, none⟩,
      ⟨(some 76), .load1 (.tmp 75), none, 0, false, false, none⟩,
      ⟨(some 77), .mv (.tmp 5), none, 0, false, false, none⟩,
      ⟨(some 78), .iaddr 3 (.tmp 76) (.tmp 77), none, 0, false, false, none⟩,
      ⟨(some 79), .faddr 0 (.tmp 78), none, 0, false, false, none⟩,
      ⟨(some 80), .load1 (.tmp 79), none, 0, false, false, none⟩,
      ⟨(some 6), .mv (.tmp 80), none, 0, false, false, none⟩])
    (.seq (.reg [
      ⟨(some 82), .loadN 3 (.tmp 1), none, 0, false, false, none⟩,
      ⟨(some 83), .mv (.tmp 6), none, 0, false, false, none⟩,
      ⟨(some 84), .call (.const (.fn 21 [])) [(.tmp 82), (.tmp 83)], none, 0, true, false, none⟩,
      ⟨(some 81), .mv (.tmp 84), none, 0, false, false, none⟩,
      ⟨(some 85), .extr (.tmp 81) 0, none, 0, false, false, none⟩,
      ⟨(some 86), .extr (.tmp 81) 1, none, 0, false, false, none⟩,
      ⟨(some 7), .mv (.tmp 85), none, 0, false, false, none⟩,
      ⟨(some 8), .mv (.tmp 86), none, 0, false, false, none⟩])
    (.seq (.reg [
      ⟨(some 87), .loadN 3 (.tmp 1), none, 0, false, false, none⟩,
      ⟨(some 88), .mv (.tmp 6), none, 0, false, false, none⟩,
      ⟨(some 89), .call (.const (.fn 17 [])) [(.tmp 87), (.tmp 88)], none, 0, true, false, none⟩,
      ⟨(some 90), .ints .lss (.tmp 89) (.const (.int .i64 0)), none, 0, false, false, none⟩,
      ⟨(some 91), .mv (.tmp 90), none, 0, false, false, none⟩,
      ⟨(some 92), .mv (.tmp 7), (some (91, false)), 0, false, false, none⟩,
      ⟨(some 93), .ints .lss (.tmp 92) (.const (.int .i64 0)), (some (91, false)), 0, false, false, none⟩,
      ⟨(some 94), .pick (.tmp 91) (.const (.bool true)) (.tmp 93), none, 0, false, false, none⟩,
      ⟨(some 95), .mv (.tmp 94), none, 0, false, false, none⟩,
      ⟨(some 96), .mv (.tmp 8), (some (95, false)), 0, false, false, none⟩,
      ⟨(some 97), .ints .lss (.tmp 96) (.const (.int .i64 0)), (some (95, false)), 0, false, false, none⟩,
      ⟨(some 98), .pick (.tmp 95) (.const (.bool true)) (.tmp 97), none, 0, false, false, none⟩])
    (.cond (.tmp 98)
     (.seq (.reg [
        ⟨(some 2), .mv (.const (.int .i64 1)), none, 0, false, false, none⟩])
      .ret)
     .skip)))))
   (.reg [
     ⟨(some 73), .mv (.tmp 5), none, 0, false, false, none⟩,
     ⟨(some 74), .ints .add (.tmp 73) (.const (.int .i64 1)), none, 0, false, false, none⟩,
     ⟨(some 5), .mv (.tmp 74), none, 0, false, false, none⟩]))))))
 (.seq (.seq (.reg [
   ⟨(some 99), .faddr 2 (.tmp 1), none, 0, false, false, none⟩,
   ⟨(some 100), .load1 (.tmp 99), none, 0, false, false, none⟩,
   ⟨(some 101), .ints .lss (.tmp 100) (.const (.int .i64 0)), none, 0, false, false, none⟩,
   ⟨(some 102), .mv (.tmp 101), none, 0, false, false, none⟩,
   ⟨(some 103), .faddr 2 (.tmp 1), (some (102, false)), 0, false, false, none⟩,
   ⟨(some 104), .load1 (.tmp 103), (some (102, false)), 0, false, false, none⟩,
   ⟨(some 105), .faddr 0 (.tmp 1), (some (102, false)), 0, false, false, none⟩,
   ⟨(some 106), .load1 (.tmp 105), (some (102, false)), 0, false, false, none⟩,
   ⟨(some 107), .lenL (.tmp 106), (some (102, false)), 0, false, false, none⟩,
   ⟨(some 108), .ints .geq (.tmp 104) (.tmp 107), (some (102, false)), 0, false, false, none⟩,
   ⟨(some 109), .pick (.tmp 102) (.const (.bool true)) (.tmp 108), none, 0, false, false, none⟩,
   ⟨(some 110), .mv (.tmp 109), none, 0, false, false, none⟩,
   ⟨(some 111), .faddr 0 (.tmp 1), (some (110, false)), 0, false, false, none⟩,
   ⟨(some 112), .load1 (.tmp 111), (some (110, false)), 0, false, false, none⟩,
   ⟨(some 113), .faddr 2 (.tmp 1), (some (110, false)), 0, false, false, none⟩,
   ⟨(some 114), .load1 (.tmp 113), (some (110, false)), 0, false, false, none⟩,
   ⟨(some 115), .iaddr 3 (.tmp 112) (.tmp 114), (some (110, false)), 0, false, false, none⟩,
   ⟨(some 116), .faddr 1 (.tmp 115), (some (110, false)), 0, false, false, none⟩,
   ⟨(some 117), .load1 (.tmp 116), (some (110, false)), 0, false, false, none⟩,
   ⟨(some 118), .eql (.b .int) true (.tmp 117) (.const (.int .i64 1)), (some (110, false)), 0, false, false, none⟩,
   ⟨(some 119), .pick (.tmp 110) (.const (.bool true)) (.tmp 118), none, 0, false, false, none⟩])
 (.cond (.tmp 119)
  (.seq (.reg [
     ⟨(some 2), .mv (.const (.int .i64 14)), none, 0, false, false, none⟩])
   .ret)
  .skip))
 (.seq (.reg [
   ⟨(some 2), .mv (.const (.int .i64 0)), none, 0, false, false, none⟩])
 .ret)))))
theorem x_nodes : tblX Tryz.prog X0 37 = some (.fn ⟨120, [(2, none)], s_nodes.den⟩) := by kernel_rfl
def s_RCheck : SC := (.seq (.reg [
   ⟨(some 1), .box (.tmp 0), none, 0, false, false, none⟩,
   ⟨(some 2), .mv (.const (.int .i64 0)), none, 0, false, false, none⟩])
 (.seq (.seq (.reg [
   ⟨(some 7), .faddr 0 (.tmp 1), none, 0, false, false, none⟩,
   ⟨(some 8), .load1 (.tmp 7), none, 0, false, false, none⟩,
   ⟨(some 9), .lenL (.tmp 8), none, 0, false, false, none⟩,
   ⟨(some 10), .ints .gtr (.tmp 9) (.const (.int .i64 8192)), none, 0, false, false, none⟩,
   ⟨(some 11), .mv (.tmp 10), none, 0, false, false, none⟩,
   ⟨(some 12), .faddr 1 (.tmp 1), (some (11, false)), 0, false, false, none⟩,
   ⟨(some 13), .load1 (.tmp 12), (some (11, false)), 0, false, false, none⟩,
   ⟨(some 14), .lenL (.tmp 13), (some (11, false)), 0, false, false, none⟩,
   ⟨(some 15), .ints .gtr (.tmp 14) (.const (.int .i64 32768)), (some (11, false)), 0, false, false, none⟩,
   ⟨(some 16), .pick (.tmp 11) (.const (.bool true)) (.tmp 15), none, 0, false, false, none⟩])
 (.cond (.tmp 16)
  (.seq (.reg [
     ⟨(some 2), .mv (.const (.int .i64 3)), none, 0, false, false, none⟩])
   .ret)
  .skip))
 (.seq (.seq (.reg [
   ⟨(some 17), .loadN 3 (.tmp 1), none, 0, false, false, none⟩,
   ⟨(some 18), .call (.const (.fn 37 [])) [(.tmp 17)], none, 0, true, false, none⟩,
   ⟨(some 3), .mv (.tmp 18), none, 0, false, false, none⟩])
 (.seq (.reg [
   ⟨(some 19), .mv (.tmp 3), none, 0, false, false, none⟩,
   ⟨(some 20), .eql (.b .int) true (.tmp 19) (.const (.int .i64 0)), none, 0, false, false, none⟩])
 (.cond (.tmp 20)
  (.seq (.reg [
     ⟨(some 21), .mv (.tmp 3), none, 0, false, false, none⟩,
     ⟨(some 2), .mv (.tmp 21), none, 0, false, false, none⟩])
   .ret)
  .skip)))
 (.seq (.seq (.reg [
   ⟨(some 4), .mv (.const (.int .i64 0)), none, 0, false, false, none⟩])
 (.block 0
  (.loop
   (.seq (.seq (.reg [
     ⟨(some 22), .mv (.tmp 4), none, 0, false, false, none⟩,
     ⟨(some 23), .faddr 1 (.tmp 1), none, 0, false, false, none⟩,
     ⟨(some 24), .load1 (.tmp 23), none, 0, false, false, none⟩,
     ⟨(some 25), .lenL (.tmp 24), none, 0, false, false, none⟩,
     ⟨(some 26), .ints .lss (.tmp 22) (.tmp 25), none, 0, false, false, none⟩])
   (.cond (.tmp 26)
    .skip
    (.exit 0)))
   (.seq (.block 1
    (.seq (.reg [
      ⟨(some 29), .faddr 1 (.tmp 1), none, 0, false, false, none⟩,
      ⟨(some 30), .load1 (.tmp 29), none, 0, false, false, none⟩,
      ⟨(some 31), .mv (.tmp 4), none, 0, false, false, none⟩,
      ⟨(some 32), .iaddr 4 (.tmp 30) (.tmp 31), none, 0, false, false, none⟩,
      ⟨(some 33), .loadN 4 (.tmp 32), none, 0, false, false, none⟩,
      ⟨(some 5), .box (.const (.agg [(.int .i64 0), (.int .i64 0), (.int .i64 0), (.int .i64 0)])), none, 0, false, false, none⟩,
      ⟨none, .store 4 (.tmp 5) (.tmp 33), none, 0, true, false, none⟩])
    (.seq (.reg [
      ⟨(some 34), .faddr 2 (.tmp 5), none, 0, false, false, none⟩,
      ⟨(some 35), .load1 (.tmp 34), none, 0, false, false, none⟩,
      ⟨(some 36), .eql (.b .int) false (.tmp 35) (.const (.int .i64 1)), none, 0, false, false, none⟩,
      ⟨(some 37), .mv (.tmp 36), none, 0, false, false, none⟩,
      ⟨(some 38), .faddr 2 (.tmp 5), (some (37, false)), 0, false, false, none⟩,
      ⟨(some 39), .load1 (.tmp 38), (some (37, false)), 0, false, false, none⟩,
      ⟨(some 40), .eql (.b .int) false (.tmp 39) (.const (.int .i64 5)), (some (37, false)), 0, false, false, none⟩,
      ⟨(some 41), .pick (.tmp 37) (.const (.bool true)) (.tmp 40), none, 0, false, false, none⟩,
      ⟨(some 6), .mv (.tmp 41), none, 0, false, false, none⟩])
    (.block 2
     (.seq (.reg [
       ⟨(some 43), .faddr 0 (.tmp 5), none, 0, false, false, none⟩,
       ⟨(some 44), .load1 (.tmp 43), none, 0, false, false, none⟩,
       ⟨(some 45), .ints .lss (.tmp 44) (.const (.int .i64 0)), none, 0, false, false, none⟩,
       ⟨(some 46), .mv (.tmp 45), none, 0, false, false, none⟩,
       ⟨(some 47), .faddr 0 (.tmp 5), (some (46, false)), 0, false, false, none⟩,
       ⟨(some 48), .load1 (.tmp 47), (some (46, false)), 0, false, false, none⟩,
       ⟨(some 49), .faddr 0 (.tmp 1), (some (46, false)), 0, false, false, none⟩,
       ⟨(some 50), .load1 (.tmp 49), (some (46, false)), 0, false, false, none⟩,
       ⟨(some 51), .lenL (.tmp 50), (some (46, false)), 0, false, false, none⟩,
       ⟨(some 52), .ints .geq (.tmp 48) (.tmp 51), (some (46, false)), 0, false, false, none⟩,
       ⟨(some 53), .pick (.tmp 46) (.const (.bool true)) (.tmp 52), none, 0, false, false, none⟩,
       ⟨(some 54), .mv (.tmp 53), none, 0, false, false, none⟩,
       ⟨(some 55), .faddr 1 (.tmp 5), (some (54, false)), 0, false, false, none⟩,
       ⟨(some 56), .load1 (.tmp 55), (some (54, false)), 0, false, false, none⟩,
       ⟨(some 57), .ints .lss (.tmp 56) (.const (.int .i64 0)), (some (54, false)), 0, false, false, none⟩,
       ⟨(some 58), .pick (.tmp 54) (.const (.bool true)) (.tmp 57), none, 0, false, false, none⟩,
       ⟨(some 59), .mv (.tmp 58), none, 0, false, false, none⟩,
       ⟨(some 60), .faddr 1 (.tmp 5), (some (59, false)), 0, false, false, none⟩,
       ⟨(some 61), .load1 (.tmp 60), (some (59, false)), 0, false, false, none⟩,
       ⟨(some 62), .faddr 0 (.tmp 1), (some (59, false)), 0, false, false, none⟩,
       ⟨(some 63), .load1 (.tmp 62), (some (59, false)), 0, false, false, none⟩,
       ⟨(some 64), .lenL (.tmp 63), (some (59, false)), 0, false, false, none⟩,
       ⟨(some 65), .ints .geq (.tmp 61) (.tmp 64), (some (59, false)), 0, false, false, none⟩,
       ⟨(some 66), .pick (.tmp 59) (.const (.bool true)) (.tmp 65), none, 0, false, false, none⟩,
       ⟨(some 42), .mv (.tmp 66), none, 0, false, false, none⟩])
     (.cond (.tmp 42)
      (.seq (.reg [
         ⟨(some 2), .mv (.const (.int .i64 4)), none, 0, false, false, none⟩])
       .ret)
      (.seq (.reg [
         ⟨(some 68), .faddr 2 (.tmp 5), none, 0, false, false, none⟩,
         ⟨(some 69), .load1 (.tmp 68), none, 0, false, false, none⟩,
         ⟨(some 70), .ints .lss (.tmp 69) (.const (.int .i64 1)), none, 0, false, false, none⟩,
         ⟨(some 71), .mv (.tmp 70), none, 0, false, false, none⟩,
         ⟨(some 72), .faddr 2 (.tmp 5), (some (71, false)), 0, false, false, none⟩,
         ⟨(some 73), .load1 (.tmp 72), (some (71, false)), 0, false, false, none⟩,
         ⟨(some 74), .ints .gtr (.tmp 73) (.const (.int .i64 5)), (some (71, false)), 0, false, false, none⟩,
         ⟨(some 75), .pick (.tmp 71) (.const (.bool true)) (.tmp 74), none, 0, false, false, none⟩,
         ⟨(some 67), .mv (.tmp 75), none, 0, false, false, none⟩])
       (.cond (.tmp 67)
        (.seq (.reg [
           ⟨(some 2), .mv (.const (.int .i64 12)), none, 0, false, false, none⟩])
         .ret)
        (.seq (.reg [
           ⟨(some 77), .mv (.tmp 6), none, 0, false, false, none⟩,
           ⟨(some 78), .mv (.tmp 77), none, 0, false, false, none⟩,
           ⟨(some 79), .faddr 3 (.tmp 5), (some (78, true)), 0, false, false, none⟩,
           ⟨(some 80), .load1 (.tmp 79), (some (78, true)), 0, false, false, none⟩,
           ⟨(some 81), .eql (.b .int) true (.tmp 80) (.const (.int .i64 (-1))), (some (78, true)), 0, false, false, none⟩,
           ⟨(some 82), .pick (.tmp 78) (.tmp 81) (.const (.bool false)), none, 0, false, false, none⟩,
           ⟨(some 83), .mv (.tmp 82), none, 0, false, false, none⟩,
           ⟨(some 84), .mv (.tmp 6), (some (83, false)), 0, false, false, none⟩,
           ⟨(some 85), .not (.tmp 84), (some (83, false)), 0, false, false, none⟩,
           ⟨(some 86), .mv (.tmp 85), (some (83, false)), 0, false, false, none⟩,
           ⟨(some 87), .faddr 3 (.tmp 5), (some (86, true)), 0, false, false, none⟩,
           ⟨(some 88), .load1 (.tmp 87), (some (86, true)), 0, false, false, none⟩,
           ⟨(some 89), .ints .lss (.tmp 88) (.const (.int .i64 0)), (some (86, true)), 0, false, false, none⟩,
           ⟨(some 90), .mv (.tmp 89), (some (86, true)), 0, false, false, none⟩,
           ⟨(some 91), .faddr 3 (.tmp 5), (some (90, false)), 0, false, false, none⟩,
           ⟨(some 92), .load1 (.tmp 91), (some (90, false)), 0, false, false, none⟩,
           ⟨(some 93), .faddr 0 (.tmp 1), (some (90, false)), 0, false, false, none⟩,
           ⟨(some 94), .load1 (.tmp 93), (some (90, false)), 0, false, false, none⟩,
           ⟨(some 95), .lenL (.tmp 94), (some (90, false)), 0, false, false, none⟩,
           ⟨(some 96), .ints .geq (.tmp 92) (.tmp 95), (some (90, false)), 0, false, false, none⟩,
           ⟨(some 97), .pick (.tmp 90) (.const (.bool true)) (.tmp 96), (some (86, true)), 0, false, false, none⟩,
           ⟨(some 98), .pick (.tmp 86) (.tmp 97) (.const (.bool false)), (some (83, false)), 0, false, false, none⟩,
           ⟨(some 99), .pick (.tmp 83) (.const (.bool true)) (.tmp 98), none, 0, false, false, none⟩,
           ⟨(some 76), .mv (.tmp 99), none, 0, false, false, none⟩])
         (.cond (.tmp 76)
          (.seq (.reg [
             ⟨(some 2), .mv (.const (.int .i64 4)), none, 0, false, false, none⟩])
           .ret)
          (.seq (.dreg [
             ⟨(some 101), .mv (.tmp 4), none, 0, false, false, none⟩,
             ⟨(some 102), .ints .gtr (.tmp 101) (.const (.int .i64 0)), none, 1, false, false, none⟩,
             ⟨(some 103), .mv (.tmp 102), none, 3, false, false, none⟩,
             ⟨(some 104), .faddr 1 (.tmp 1), (some (103, true)), 7, false, false, none⟩,
             ⟨(some 105), .load1 (.tmp 104), (some (103, true)), 15, false, false, (some (.tmp 104))⟩,
             ⟨(some 106), .mv (.tmp 4), (some (103, true)), 7, false, false, none⟩,
             ⟨(some 107), .ints .sub (.tmp 106) (.const (.int .i64 1)), (some (103, true)), 39, false, false, none⟩,
             ⟨(some 108), .iaddr 4 (.tmp 105) (.tmp 107), (some (103, true)), 127, false, false, none⟩,
             ⟨(some 109), .loadN 4 (.tmp 108), (some (103, true)), 255, false, false, (some (.tmp 108))⟩,
             ⟨(some 110), .loadN 4 (.tmp 5), (some (103, true)), 7, false, false, (some (.tmp 5))⟩,
             ⟨(some 111), .call (.const (.fn 38 [])) [(.tmp 109), (.tmp 110)], (some (103, true)), 1023, true, true, none⟩,
             ⟨(some 112), .not (.tmp 111), (some (103, true)), 2047, false, false, none⟩,
             ⟨(some 113), .pick (.tmp 103) (.tmp 112) (.const (.bool false)), none, 4095, false, false, none⟩,
             ⟨(some 100), .mv (.tmp 113), none, 8191, false, false, none⟩])
           (.cond (.tmp 100)
            (.seq (.reg [
               ⟨(some 2), .mv (.const (.int .i64 13)), none, 0, false, false, none⟩])
             .ret)
            (.seq (.reg [
               ⟨(some 115), .loadN 3 (.tmp 1), none, 0, false, false, none⟩,
               ⟨(some 116), .loadN 4 (.tmp 5), none, 0, false, false, none⟩,
               ⟨(some 117), .call (.const (.fn 39 [])) [(.tmp 115), (.tmp 116)], none, 0, true, false, none⟩,
               ⟨(some 118), .not (.tmp 117), none, 0, false, false, none⟩,
               ⟨(some 114), .mv (.tmp 118), none, 0, false, false, none⟩])
             (.cond (.tmp 114)
              (.seq (.reg [
                 ⟨(some 2), .mv (.const (.int .i64 20)), none, 0, false, false, none⟩])
               .ret)
              .skip))))))))))))))
   (.reg [
     ⟨(some 27), .mv (.tmp 4), none, 0, false, false, none⟩,
     ⟨(some 28), .ints .add (.tmp 27) (.const (.int .i64 1)), none, 0, false, false, none⟩,
     ⟨(some 4), .mv (.tmp 28), none, 0, false, false, none⟩]))))))
 (.seq (.reg [
   ⟨(some 2), .mv (.const (.int .i64 0)), none, 0, false, false, none⟩])
 .ret)))))
theorem x_RCheck : tblX Tryz.prog X0 13 = some (.fn ⟨119, [(2, none)], s_RCheck.den⟩) := by kernel_rfl
def s_Equal : SC := (.seq (.reg [
   ⟨(some 4), .mv (.const (.bool false)), none, 0, false, false, none⟩])
 (.seq (.seq (.reg [
   ⟨(some 6), .mv (.tmp 0), none, 0, false, false, none⟩,
   ⟨(some 7), .lenL (.tmp 6), none, 0, false, false, none⟩,
   ⟨(some 8), .mv (.tmp 1), none, 0, false, false, none⟩,
   ⟨(some 9), .lenL (.tmp 8), none, 0, false, false, none⟩,
   ⟨(some 10), .eql (.b .int) true (.tmp 7) (.tmp 9), none, 0, false, false, none⟩])
 (.cond (.tmp 10)
  (.seq (.reg [
     ⟨(some 4), .mv (.const (.bool false)), none, 0, false, false, none⟩])
   .ret)
  .skip))
 (.seq (.seq (.reg [
   ⟨(some 5), .mv (.const (.int .i64 0)), none, 0, false, false, none⟩])
 (.block 0
  (.loop
   (.seq (.seq (.reg [
     ⟨(some 11), .mv (.tmp 5), none, 0, false, false, none⟩,
     ⟨(some 12), .mv (.tmp 0), none, 0, false, false, none⟩,
     ⟨(some 13), .lenL (.tmp 12), none, 0, false, false, none⟩,
     ⟨(some 14), .ints .lss (.tmp 11) (.tmp 13), none, 0, false, false, none⟩])
   (.cond (.tmp 14)
    .skip
    (.exit 0)))
   (.seq (.block 1
    (.seq (.dreg [
      ⟨(some 17), .mv (.tmp 0), none, 0, false, false, none⟩,
      ⟨(some 18), .mv (.tmp 5), none, 0, false, false, none⟩,
      ⟨(some 19), .iaddr 1 (.tmp 17) (.tmp 18), none, 3, false, false, none⟩,
      ⟨(some 20), .load1 (.tmp 19), none, 7, false, false, (some (.tmp 19))⟩,
      ⟨(some 21), .mv (.tmp 1), none, 0, false, false, none⟩,
      ⟨(some 22), .mv (.tmp 5), none, 0, false, false, none⟩,
      ⟨(some 23), .iaddr 1 (.tmp 21) (.tmp 22), none, 48, false, false, none⟩,
      ⟨(some 24), .load1 (.tmp 23), none, 112, false, false, (some (.tmp 23))⟩,
      ⟨(some 25), .eql (.b .int) true (.tmp 20) (.tmp 24), none, 255, false, false, none⟩])
    (.cond (.tmp 25)
     (.seq (.reg [
        ⟨(some 4), .mv (.const (.bool false)), none, 0, false, false, none⟩])
      .ret)
     .skip)))
   (.reg [
     ⟨(some 15), .mv (.tmp 5), none, 0, false, false, none⟩,
     ⟨(some 16), .ints .add (.tmp 15) (.const (.int .i64 1)), none, 0, false, false, none⟩,
     ⟨(some 5), .mv (.tmp 16), none, 0, false, false, none⟩]))))))
 (.seq (.reg [
   ⟨(some 4), .mv (.const (.bool true)), none, 0, false, false, none⟩])
 .ret))))
theorem x_Equal : tblX Tryz.prog X0 7 = some (.fn ⟨26, [(4, none)], s_Equal.den⟩) := by kernel_rfl
def s_edge : SC := (.seq (.reg [
   ⟨(some 2), .box (.tmp 0), none, 0, false, false, none⟩,
   ⟨(some 3), .box (.tmp 1), none, 0, false, false, none⟩,
   ⟨(some 4), .mv (.const (.int .i64 0)), none, 0, false, false, none⟩])
 (.seq (.seq (.reg [
   ⟨(some 5), .mv (.const (.int .i64 0)), none, 0, false, false, none⟩])
 (.block 0
  (.loop
   (.seq (.seq (.reg [
     ⟨(some 6), .mv (.tmp 5), none, 0, false, false, none⟩,
     ⟨(some 7), .faddr 1 (.tmp 2), none, 0, false, false, none⟩,
     ⟨(some 8), .load1 (.tmp 7), none, 0, false, false, none⟩,
     ⟨(some 9), .lenL (.tmp 8), none, 0, false, false, none⟩,
     ⟨(some 10), .ints .lss (.tmp 6) (.tmp 9), none, 0, false, false, none⟩])
   (.cond (.tmp 10)
    .skip
    (.exit 0)))
   (.seq (.block 1
    (.seq (.dreg [
      ⟨(some 13), .faddr 1 (.tmp 2), none, 0, false, false, none⟩,
      ⟨(some 14), .load1 (.tmp 13), none, 1, false, false, (some (.tmp 13))⟩,
      ⟨(some 15), .mv (.tmp 5), none, 0, false, false, none⟩,
      ⟨(some 16), .iaddr 4 (.tmp 14) (.tmp 15), none, 7, false, false, none⟩,
      ⟨(some 17), .loadN 4 (.tmp 16), none, 15, false, false, (some (.tmp 16))⟩,
      ⟨(some 18), .loadN 4 (.tmp 3), none, 0, false, false, (some (.tmp 3))⟩,
      ⟨(some 19), .eql (.st [.int, .int, .int, .int]) false (.tmp 17) (.tmp 18), none, 63, false, false, none⟩])
    (.cond (.tmp 19)
     (.seq (.reg [
        ⟨(some 20), .mv (.tmp 5), none, 0, false, false, none⟩,
        ⟨(some 4), .mv (.tmp 20), none, 0, false, false, none⟩])
      .ret)
     .skip)))
   (.reg [
     ⟨(some 11), .mv (.tmp 5), none, 0, false, false, none⟩,
     ⟨(some 12), .ints .add (.tmp 11) (.const (.int .i64 1)), none, 0, false, false, none⟩,
     ⟨(some 5), .mv (.tmp 12), none, 0, false, false, none⟩]))))))
 (.seq (.reg [
   ⟨(some 4), .mv (.const (.int .i64 (-1))), none, 0, false, false, none⟩])
 .ret)))
theorem x_edge : tblX Tryz.prog X0 14 = some (.fn ⟨21, [(4, none)], s_edge.den⟩) := by kernel_rfl
def s_node : SC := (.seq (.reg [
   ⟨(some 2), .box (.tmp 0), none, 0, false, false, none⟩,
   ⟨(some 3), .box (.tmp 1), none, 0, false, false, none⟩,
   ⟨(some 4), .mv (.const (.int .i64 0)), none, 0, false, false, none⟩])
 (.seq (.reg [
   ⟨(some 5), .loadN 3 (.tmp 2), none, 0, false, false, none⟩,
   ⟨(some 6), .faddr 0 (.tmp 3), none, 0, false, false, none⟩,
   ⟨(some 7), .load1 (.tmp 6), none, 0, false, false, none⟩,
   ⟨(some 8), .faddr 1 (.tmp 3), none, 0, false, false, none⟩,
   ⟨(some 9), .load1 (.tmp 8), none, 0, false, false, none⟩,
   ⟨(some 10), .build [(.int .i64 0), (.int .i64 0), (.int .i64 0)] [(0, 1, (.tmp 7)), (1, 1, (.const (.int .i64 2))), (2, 1, (.tmp 9))], none, 0, false, false, none⟩,
   ⟨(some 11), .call (.const (.fn 40 [])) [(.tmp 5), (.tmp 10)], none, 0, true, false, none⟩,
   ⟨(some 4), .mv (.tmp 11), none, 0, false, false, none⟩])
 .ret))
theorem x_node : tblX Tryz.prog X0 15 = some (.fn ⟨12, [(4, none)], s_node.den⟩) := by kernel_rfl
def s_frames : SC := (.seq (.reg [
   ⟨(some 4), .box (.tmp 1), none, 0, false, false, none⟩,
   ⟨(some 6), .mv (.const .nils), none, 0, false, false, none⟩,
   ⟨(some 7), .mv (.const (.bool false)), none, 0, false, false, none⟩])
 (.seq (.reg [
   ⟨(some 10), .faddr 1 (.tmp 4), none, 0, false, false, none⟩,
   ⟨(some 11), .load1 (.tmp 10), none, 0, false, false, none⟩,
   ⟨(some 12), .mv (.tmp 2), none, 0, false, false, none⟩,
   ⟨(some 13), .iaddr 5 (.tmp 11) (.tmp 12), none, 0, false, false, none⟩,
   ⟨(some 14), .loadN 5 (.tmp 13), none, 0, false, false, none⟩,
   ⟨(some 8), .box (.const (.agg [(.int .i64 0), (.int .i64 0), (.int .i64 0), (.int .i64 0), .nils])), none, 0, false, false, none⟩,
   ⟨none, .store 5 (.tmp 8) (.tmp 14), none, 0, true, false, none⟩])
 (.seq (.seq (.reg [
   ⟨(some 15), .faddr 3 (.tmp 8), none, 0, false, false, none⟩,
   ⟨(some 16), .load1 (.tmp 15), none, 0, false, false, none⟩,
   ⟨(some 17), .mv (.tmp 2), none, 0, false, false, none⟩,
   ⟨(some 18), .ints .sub (.tmp 17) (.const (.int .i64 1)), none, 0, false, false, none⟩,
   ⟨(some 19), .eql (.b .int) false (.tmp 16) (.tmp 18), none, 0, false, false, none⟩])
 (.cond (.tmp 19)
  (.seq (.dreg [
     ⟨(some 20), .bslice 0 [(.int .i64 0), (.int .i64 0), .nils] [], none, 0, false, false, none⟩,
     ⟨(some 21), .mv (.tmp 0), none, 0, false, false, none⟩,
     ⟨(some 22), .append 3 (.tmp 20) (.tmp 21), none, 3, true, true, none⟩,
     ⟨(some 23), .faddr 2 (.tmp 8), none, 0, false, false, none⟩,
     ⟨(some 24), .load1 (.tmp 23), none, 8, false, false, (some (.tmp 23))⟩,
     ⟨(some 25), .mv (.tmp 2), none, 0, false, false, none⟩,
     ⟨(some 26), .ints .sub (.tmp 25) (.const (.int .i64 1)), none, 32, false, false, none⟩,
     ⟨(some 27), .build [(.int .i64 0), (.int .i64 0), .nils] [(0, 1, (.tmp 24)), (1, 1, (.tmp 26))], none, 120, false, false, none⟩,
     ⟨(some 28), .bslice 1 [(.int .i64 0), (.int .i64 0), .nils] [(0, 3, (.tmp 27))], none, 248, false, false, none⟩,
     ⟨(some 29), .append 3 (.tmp 22) (.tmp 28), none, 511, true, true, none⟩,
     ⟨(some 6), .mv (.tmp 29), none, 1023, false, false, none⟩,
     ⟨(some 7), .mv (.const (.bool true)), none, 2047, false, false, none⟩])
   .ret)
  .skip))
 (.seq (.seq (.reg [
   ⟨(some 30), .mv (.tmp 0), none, 0, false, false, none⟩,
   ⟨(some 31), .lenL (.tmp 30), none, 0, false, false, none⟩,
   ⟨(some 9), .mv (.tmp 31), none, 0, false, false, none⟩])
 (.block 0
  (.loop
   (.seq (.seq (.reg [
     ⟨(some 32), .mv (.tmp 9), none, 0, false, false, none⟩,
     ⟨(some 33), .ints .gtr (.tmp 32) (.const (.int .i64 0)), none, 0, false, false, none⟩])
   (.cond (.tmp 33)
    .skip
    (.exit 0)))
   (.seq (.block 1
    (.seq (.dreg [
      ⟨(some 36), .mv (.tmp 0), none, 0, false, false, none⟩,
      ⟨(some 37), .mv (.tmp 9), none, 0, false, false, none⟩,
      ⟨(some 38), .ints .sub (.tmp 37) (.const (.int .i64 1)), none, 2, false, false, none⟩,
      ⟨(some 39), .iaddr 3 (.tmp 36) (.tmp 38), none, 7, false, false, none⟩,
      ⟨(some 40), .faddr 0 (.tmp 39), none, 15, false, false, none⟩,
      ⟨(some 41), .load1 (.tmp 40), none, 31, false, false, (some (.tmp 40))⟩,
      ⟨(some 42), .faddr 2 (.tmp 8), none, 0, false, false, none⟩,
      ⟨(some 43), .load1 (.tmp 42), none, 64, false, false, (some (.tmp 42))⟩,
      ⟨(some 44), .eql (.b .int) false (.tmp 41) (.tmp 43), none, 255, false, false, none⟩,
      ⟨(some 45), .mv (.tmp 44), none, 511, false, false, none⟩,
      ⟨(some 46), .mv (.tmp 0), (some (45, true)), 1023, false, false, none⟩,
      ⟨(some 47), .mv (.tmp 9), (some (45, true)), 1023, false, false, none⟩,
      ⟨(some 48), .ints .sub (.tmp 47) (.const (.int .i64 1)), (some (45, true)), 3071, false, false, none⟩,
      ⟨(some 49), .iaddr 3 (.tmp 46) (.tmp 48), (some (45, true)), 8191, false, false, none⟩,
      ⟨(some 50), .faddr 1 (.tmp 49), (some (45, true)), 16383, false, false, none⟩,
      ⟨(some 51), .load1 (.tmp 50), (some (45, true)), 32767, false, false, (some (.tmp 50))⟩,
      ⟨(some 52), .faddr 3 (.tmp 8), (some (45, true)), 1023, false, false, none⟩,
      ⟨(some 53), .load1 (.tmp 52), (some (45, true)), 66559, false, false, (some (.tmp 52))⟩,
      ⟨(some 54), .eql (.b .int) false (.tmp 51) (.tmp 53), (some (45, true)), 262143, false, false, none⟩,
      ⟨(some 55), .pick (.tmp 45) (.tmp 54) (.const (.bool false)), none, 524287, false, false, none⟩])
    (.cond (.tmp 55)
     (.seq (.reg [
        ⟨(some 56), .mv (.tmp 0), none, 0, false, false, none⟩,
        ⟨(some 57), .mv (.tmp 9), none, 0, false, false, none⟩,
        ⟨(some 58), .slice 3 (.tmp 56) none (some (.tmp 57)), none, 0, false, false, none⟩,
        ⟨(some 6), .mv (.tmp 58), none, 0, false, false, none⟩,
        ⟨(some 7), .mv (.const (.bool true)), none, 0, false, false, none⟩])
      .ret)
     .skip)))
   (.reg [
     ⟨(some 34), .mv (.tmp 9), none, 0, false, false, none⟩,
     ⟨(some 35), .ints .sub (.tmp 34) (.const (.int .i64 1)), none, 0, false, false, none⟩,
     ⟨(some 9), .mv (.tmp 35), none, 0, false, false, none⟩]))))))
 (.seq (.reg [
   ⟨(some 6), .mv (.const .nils), none, 0, false, false, none⟩,
   ⟨(some 7), .mv (.const (.bool false)), none, 0, false, false, none⟩])
 .ret)))))
theorem x_frames : tblX Tryz.prog X0 16 = some (.fn ⟨59, [(6, none), (7, none)], s_frames.den⟩) := by kernel_rfl
def s_leave : SC := (.seq (.reg [
   ⟨(some 5), .box (.tmp 0), none, 0, false, false, none⟩,
   ⟨(some 6), .box (.tmp 1), none, 0, false, false, none⟩,
   ⟨(some 10), .mv (.const .nils), none, 0, false, false, none⟩])
 (.seq (.dreg [
   ⟨(some 24), .loadN 3 (.tmp 5), none, 0, false, false, (some (.tmp 5))⟩,
   ⟨(some 25), .faddr 1 (.tmp 6), none, 0, false, false, none⟩,
   ⟨(some 26), .load1 (.tmp 25), none, 2, false, false, (some (.tmp 25))⟩,
   ⟨(some 27), .mv (.tmp 4), none, 0, false, false, none⟩,
   ⟨(some 28), .ints .sub (.tmp 27) (.const (.int .i64 1)), none, 8, false, false, none⟩,
   ⟨(some 29), .iaddr 5 (.tmp 26) (.tmp 28), none, 30, false, false, none⟩,
   ⟨(some 30), .loadN 5 (.tmp 29), none, 62, false, false, (some (.tmp 29))⟩,
   ⟨(some 31), .call (.const (.fn 15 [])) [(.tmp 24), (.tmp 30)], none, 127, true, true, none⟩,
   ⟨(some 32), .loadN 3 (.tmp 5), none, 0, false, false, (some (.tmp 5))⟩,
   ⟨(some 33), .faddr 1 (.tmp 6), none, 0, false, false, none⟩,
   ⟨(some 34), .load1 (.tmp 33), none, 512, false, false, (some (.tmp 33))⟩,
   ⟨(some 35), .mv (.tmp 4), none, 0, false, false, none⟩,
   ⟨(some 36), .iaddr 5 (.tmp 34) (.tmp 35), none, 3584, false, false, none⟩,
   ⟨(some 37), .loadN 5 (.tmp 36), none, 7680, false, false, (some (.tmp 36))⟩,
   ⟨(some 38), .call (.const (.fn 15 [])) [(.tmp 32), (.tmp 37)], none, 16383, true, true, none⟩,
   ⟨(some 11), .mv (.tmp 31), none, 32767, false, false, none⟩,
   ⟨(some 12), .mv (.tmp 38), none, 65535, false, false, none⟩])
 (.seq (.reg [
   ⟨(some 39), .faddr 1 (.tmp 6), none, 0, false, false, none⟩,
   ⟨(some 40), .load1 (.tmp 39), none, 0, false, false, none⟩,
   ⟨(some 41), .mv (.tmp 4), none, 0, false, false, none⟩,
   ⟨(some 42), .ints .sub (.tmp 41) (.const (.int .i64 1)), none, 0, false, false, none⟩,
   ⟨(some 43), .iaddr 5 (.tmp 40) (.tmp 42), none, 0, false, false, none⟩,
   ⟨(some 44), .faddr 0 (.tmp 43), none, 0, false, false, none⟩,
   ⟨(some 45), .load1 (.tmp 44), none, 0, false, false, none⟩,
   ⟨(some 13), .mv (.tmp 45), none, 0, false, false, none⟩])
 (.seq (.reg [
   ⟨(some 47), .loadN 3 (.tmp 5), none, 0, false, false, none⟩,
   ⟨(some 48), .mv (.tmp 13), none, 0, false, false, none⟩,
   ⟨(some 49), .call (.const (.fn 21 [])) [(.tmp 47), (.tmp 48)], none, 0, true, false, none⟩,
   ⟨(some 46), .mv (.tmp 49), none, 0, false, false, none⟩,
   ⟨(some 50), .extr (.tmp 46) 0, none, 0, false, false, none⟩,
   ⟨(some 51), .extr (.tmp 46) 1, none, 0, false, false, none⟩,
   ⟨(some 14), .mv (.tmp 50), none, 0, false, false, none⟩,
   ⟨(some 15), .mv (.tmp 51), none, 0, false, false, none⟩])
 (.seq (.seq (.reg [
   ⟨(some 52), .mv (.tmp 2), none, 0, false, false, none⟩,
   ⟨(some 53), .lenL (.tmp 52), none, 0, false, false, none⟩,
   ⟨(some 54), .mv (.tmp 3), none, 0, false, false, none⟩,
   ⟨(some 55), .lenL (.tmp 54), none, 0, false, false, none⟩,
   ⟨(some 56), .ints .add (.tmp 55) (.const (.int .i64 1)), none, 0, false, false, none⟩,
   ⟨(some 57), .eql (.b .int) false (.tmp 53) (.tmp 56), none, 0, false, false, none⟩])
 (.cond (.tmp 57)
  (.seq (.dreg [
     ⟨(some 58), .loadN 3 (.tmp 5), none, 0, false, false, (some (.tmp 5))⟩,
     ⟨(some 59), .faddr 1 (.tmp 6), none, 0, false, false, none⟩,
     ⟨(some 60), .load1 (.tmp 59), none, 2, false, false, (some (.tmp 59))⟩,
     ⟨(some 61), .mv (.tmp 2), none, 0, false, false, none⟩,
     ⟨(some 62), .mv (.tmp 2), none, 0, false, false, none⟩,
     ⟨(some 63), .lenL (.tmp 62), none, 16, false, false, none⟩,
     ⟨(some 64), .ints .sub (.tmp 63) (.const (.int .i64 1)), none, 48, false, false, none⟩,
     ⟨(some 65), .iaddr 3 (.tmp 61) (.tmp 64), none, 120, false, false, none⟩,
     ⟨(some 66), .faddr 1 (.tmp 65), none, 248, false, false, none⟩,
     ⟨(some 67), .load1 (.tmp 66), none, 504, false, false, (some (.tmp 66))⟩,
     ⟨(some 68), .iaddr 5 (.tmp 60) (.tmp 67), none, 1022, false, false, none⟩,
     ⟨(some 69), .loadN 5 (.tmp 68), none, 2046, false, false, (some (.tmp 68))⟩,
     ⟨(some 70), .call (.const (.fn 15 [])) [(.tmp 58), (.tmp 69)], none, 4095, true, true, none⟩,
     ⟨(some 16), .mv (.tmp 70), none, 8191, false, false, none⟩])
   (.seq (.reg [
     ⟨(some 71), .loadN 3 (.tmp 5), none, 0, false, false, none⟩,
     ⟨(some 72), .mv (.tmp 11), none, 0, false, false, none⟩,
     ⟨(some 73), .mv (.tmp 14), none, 0, false, false, none⟩,
     ⟨(some 74), .build [(.int .i64 0), (.int .i64 0), (.int .i64 0), (.int .i64 0)] [(0, 1, (.tmp 72)), (1, 1, (.tmp 73)), (2, 1, (.const (.int .i64 1))), (3, 1, (.const (.int .i64 (-1))))], none, 0, false, false, none⟩,
     ⟨(some 75), .call (.const (.fn 14 [])) [(.tmp 71), (.tmp 74)], none, 0, true, false, none⟩,
     ⟨(some 17), .mv (.tmp 75), none, 0, false, false, none⟩])
   (.seq (.reg [
     ⟨(some 76), .loadN 3 (.tmp 5), none, 0, false, false, none⟩,
     ⟨(some 77), .mv (.tmp 14), none, 0, false, false, none⟩,
     ⟨(some 78), .mv (.tmp 12), none, 0, false, false, none⟩,
     ⟨(some 79), .mv (.tmp 16), none, 0, false, false, none⟩,
     ⟨(some 80), .build [(.int .i64 0), (.int .i64 0), (.int .i64 0), (.int .i64 0)] [(0, 1, (.tmp 77)), (1, 1, (.tmp 78)), (2, 1, (.const (.int .i64 3))), (3, 1, (.tmp 79))], none, 0, false, false, none⟩,
     ⟨(some 81), .call (.const (.fn 14 [])) [(.tmp 76), (.tmp 80)], none, 0, true, false, none⟩,
     ⟨(some 18), .mv (.tmp 81), none, 0, false, false, none⟩])
   (.seq (.reg [
     ⟨(some 82), .mv (.tmp 17), none, 0, false, false, none⟩,
     ⟨(some 83), .ints .geq (.tmp 82) (.const (.int .i64 0)), none, 0, false, false, none⟩,
     ⟨(some 84), .mv (.tmp 83), none, 0, false, false, none⟩,
     ⟨(some 85), .mv (.tmp 18), (some (84, true)), 0, false, false, none⟩,
     ⟨(some 86), .ints .geq (.tmp 85) (.const (.int .i64 0)), (some (84, true)), 0, false, false, none⟩,
     ⟨(some 87), .pick (.tmp 84) (.tmp 86) (.const (.bool false)), none, 0, false, false, none⟩])
   (.cond (.tmp 87)
    (.seq (.reg [
       ⟨(some 88), .mv (.tmp 17), none, 0, false, false, none⟩,
       ⟨(some 89), .mv (.tmp 18), none, 0, false, false, none⟩,
       ⟨(some 90), .bslice 2 [(.int .i64 0)] [(0, 1, (.tmp 88)), (1, 1, (.tmp 89))], none, 0, false, false, none⟩,
       ⟨(some 10), .mv (.tmp 90), none, 0, false, false, none⟩])
     .ret)
    .skip)))))
  .skip))
 (.seq (.reg [
   ⟨(some 91), .loadN 3 (.tmp 5), none, 0, false, false, none⟩,
   ⟨(some 92), .mv (.tmp 11), none, 0, false, false, none⟩,
   ⟨(some 93), .mv (.tmp 15), none, 0, false, false, none⟩,
   ⟨(some 94), .build [(.int .i64 0), (.int .i64 0), (.int .i64 0), (.int .i64 0)] [(0, 1, (.tmp 92)), (1, 1, (.tmp 93)), (2, 1, (.const (.int .i64 1))), (3, 1, (.const (.int .i64 (-1))))], none, 0, false, false, none⟩,
   ⟨(some 95), .call (.const (.fn 14 [])) [(.tmp 91), (.tmp 94)], none, 0, true, false, none⟩,
   ⟨(some 96), .bslice 1 [(.int .i64 0)] [(0, 1, (.tmp 95))], none, 0, false, false, none⟩,
   ⟨(some 19), .mv (.tmp 96), none, 0, false, false, none⟩])
 (.seq (.reg [
   ⟨(some 97), .mv (.tmp 15), none, 0, false, false, none⟩,
   ⟨(some 20), .mv (.tmp 97), none, 0, false, false, none⟩])
 (.seq (.seq (.reg [
   ⟨(some 98), .mv (.tmp 2), none, 0, false, false, none⟩,
   ⟨(some 99), .lenL (.tmp 98), none, 0, false, false, none⟩,
   ⟨(some 21), .mv (.tmp 99), none, 0, false, false, none⟩])
 (.block 0
  (.loop
   (.seq (.seq (.reg [
     ⟨(some 100), .mv (.tmp 21), none, 0, false, false, none⟩,
     ⟨(some 101), .mv (.tmp 3), none, 0, false, false, none⟩,
     ⟨(some 102), .lenL (.tmp 101), none, 0, false, false, none⟩,
     ⟨(some 103), .ints .gtr (.tmp 100) (.tmp 102), none, 0, false, false, none⟩])
   (.cond (.tmp 103)
    .skip
    (.exit 0)))
   (.seq (.block 1
    (.seq (.dreg [
      ⟨(some 106), .faddr 1 (.tmp 6), none, 0, false, false, none⟩,
      ⟨(some 107), .load1 (.tmp 106), none, 1, false, false, (some (.tmp 106))⟩,
      ⟨(some 108), .mv (.tmp 2), none, 0, false, false, none⟩,
      ⟨(some 109), .mv (.tmp 21), none, 0, false, false, none⟩,
      ⟨(some 110), .ints .sub (.tmp 109) (.const (.int .i64 1)), none, 8, false, false, none⟩,
      ⟨(some 111), .iaddr 3 (.tmp 108) (.tmp 110), none, 28, false, false, none⟩,
      ⟨(some 112), .faddr 1 (.tmp 111), none, 60, false, false, none⟩,
      ⟨(some 113), .load1 (.tmp 112), none, 124, false, false, (some (.tmp 112))⟩,
      ⟨(some 114), .iaddr 5 (.tmp 107) (.tmp 113), none, 255, false, false, none⟩,
      ⟨(some 115), .loadN 5 (.tmp 114), none, 511, false, false, (some (.tmp 114))⟩,
      ⟨(some 22), .box (.const (.agg [(.int .i64 0), (.int .i64 0), (.int .i64 0), (.int .i64 0), .nils])), none, 0, false, false, none⟩,
      ⟨none, .store 5 (.tmp 22) (.tmp 115), none, 2047, true, true, none⟩])
    (.seq (.reg [
      ⟨(some 116), .mv (.tmp 12), none, 0, false, false, none⟩,
      ⟨(some 23), .mv (.tmp 116), none, 0, false, false, none⟩])
    (.seq (.seq (.reg [
      ⟨(some 117), .mv (.tmp 21), none, 0, false, false, none⟩,
      ⟨(some 118), .mv (.tmp 3), none, 0, false, false, none⟩,
      ⟨(some 119), .lenL (.tmp 118), none, 0, false, false, none⟩,
      ⟨(some 120), .ints .add (.tmp 119) (.const (.int .i64 1)), none, 0, false, false, none⟩,
      ⟨(some 121), .ints .gtr (.tmp 117) (.tmp 120), none, 0, false, false, none⟩])
    (.cond (.tmp 121)
     (.reg [
        ⟨(some 123), .loadN 3 (.tmp 5), none, 0, false, false, none⟩,
        ⟨(some 124), .faddr 0 (.tmp 22), none, 0, false, false, none⟩,
        ⟨(some 125), .load1 (.tmp 124), none, 0, false, false, none⟩,
        ⟨(some 126), .call (.const (.fn 21 [])) [(.tmp 123), (.tmp 125)], none, 0, true, false, none⟩,
        ⟨(some 122), .mv (.tmp 126), none, 0, false, false, none⟩,
        ⟨(some 127), .extr (.tmp 122) 0, none, 0, false, false, none⟩,
        ⟨(some 128), .extr (.tmp 122) 1, none, 0, false, false, none⟩,
        ⟨(some 23), .mv (.tmp 128), none, 0, false, false, none⟩])
     .skip))
    (.seq (.dreg [
      ⟨(some 129), .mv (.tmp 19), none, 0, false, false, none⟩,
      ⟨(some 130), .loadN 3 (.tmp 5), none, 0, false, false, (some (.tmp 5))⟩,
      ⟨(some 131), .mv (.tmp 20), none, 0, false, false, none⟩,
      ⟨(some 132), .mv (.tmp 23), none, 0, false, false, none⟩,
      ⟨(some 133), .loadN 3 (.tmp 5), none, 0, false, false, (some (.tmp 5))⟩,
      ⟨(some 134), .loadN 5 (.tmp 22), none, 0, false, false, (some (.tmp 22))⟩,
      ⟨(some 135), .call (.const (.fn 15 [])) [(.tmp 133), (.tmp 134)], none, 48, true, true, none⟩,
      ⟨(some 136), .build [(.int .i64 0), (.int .i64 0), (.int .i64 0), (.int .i64 0)] [(0, 1, (.tmp 131)), (1, 1, (.tmp 132)), (2, 1, (.const (.int .i64 4))), (3, 1, (.tmp 135))], none, 124, false, false, none⟩,
      ⟨(some 137), .call (.const (.fn 14 [])) [(.tmp 130), (.tmp 136)], none, 254, true, true, none⟩,
      ⟨(some 138), .bslice 1 [(.int .i64 0)] [(0, 1, (.tmp 137))], none, 510, false, false, none⟩,
      ⟨(some 139), .append 1 (.tmp 129) (.tmp 138), none, 1023, true, true, none⟩,
      ⟨(some 19), .mv (.tmp 139), none, 2047, false, false, none⟩])
    (.reg [
      ⟨(some 140), .mv (.tmp 23), none, 0, false, false, none⟩,
      ⟨(some 20), .mv (.tmp 140), none, 0, false, false, none⟩]))))))
   (.reg [
     ⟨(some 104), .mv (.tmp 21), none, 0, false, false, none⟩,
     ⟨(some 105), .ints .sub (.tmp 104) (.const (.int .i64 1)), none, 0, false, false, none⟩,
     ⟨(some 21), .mv (.tmp 105), none, 0, false, false, none⟩]))))))
 (.seq (.reg [
   ⟨(some 141), .mv (.tmp 19), none, 0, false, false, none⟩,
   ⟨(some 10), .mv (.tmp 141), none, 0, false, false, none⟩])
 .ret)))))))))
theorem x_leave : tblX Tryz.prog X0 18 = some (.fn ⟨142, [(10, none)], s_leave.den⟩) := by kernel_rfl
def s_RPath : SC := (.seq (.reg [
   ⟨(some 2), .box (.tmp 0), none, 0, false, false, none⟩,
   ⟨(some 3), .box (.tmp 1), none, 0, false, false, none⟩,
   ⟨(some 4), .mv (.const .nils), none, 0, false, false, none⟩,
   ⟨(some 5), .mv (.const (.int .i64 0)), none, 0, false, false, none⟩])
 (.seq (.seq (.reg [
   ⟨(some 17), .loadN 3 (.tmp 2), none, 0, false, false, none⟩,
   ⟨(some 18), .call (.const (.fn 13 [])) [(.tmp 17)], none, 0, true, false, none⟩,
   ⟨(some 6), .mv (.tmp 18), none, 0, false, false, none⟩])
 (.seq (.reg [
   ⟨(some 19), .mv (.tmp 6), none, 0, false, false, none⟩,
   ⟨(some 20), .eql (.b .int) true (.tmp 19) (.const (.int .i64 0)), none, 0, false, false, none⟩])
 (.cond (.tmp 20)
  (.seq (.reg [
     ⟨(some 21), .mv (.tmp 6), none, 0, false, false, none⟩,
     ⟨(some 4), .mv (.const .nils), none, 0, false, false, none⟩,
     ⟨(some 5), .mv (.tmp 21), none, 0, false, false, none⟩])
   .ret)
  .skip)))
 (.seq (.seq (.reg [
   ⟨(some 22), .faddr 1 (.tmp 3), none, 0, false, false, none⟩,
   ⟨(some 23), .load1 (.tmp 22), none, 0, false, false, none⟩,
   ⟨(some 24), .lenL (.tmp 23), none, 0, false, false, none⟩,
   ⟨(some 25), .eql (.b .int) false (.tmp 24) (.const (.int .i64 0)), none, 0, false, false, none⟩])
 (.cond (.tmp 25)
  (.seq (.reg [
     ⟨(some 4), .mv (.const .nils), none, 0, false, false, none⟩,
     ⟨(some 5), .mv (.const (.int .i64 0)), none, 0, false, false, none⟩])
   .ret)
  .skip))
 (.seq (.reg [
   ⟨(some 26), .faddr 1 (.tmp 3), none, 0, false, false, none⟩,
   ⟨(some 27), .load1 (.tmp 26), none, 0, false, false, none⟩,
   ⟨(some 28), .iaddr 5 (.tmp 27) (.const (.int .i64 0)), none, 0, false, false, none⟩,
   ⟨(some 29), .loadN 5 (.tmp 28), none, 0, false, false, none⟩,
   ⟨(some 7), .box (.const (.agg [(.int .i64 0), (.int .i64 0), (.int .i64 0), (.int .i64 0), .nils])), none, 0, false, false, none⟩,
   ⟨none, .store 5 (.tmp 7) (.tmp 29), none, 0, true, false, none⟩])
 (.seq (.seq (.dreg [
   ⟨(some 30), .faddr 0 (.tmp 7), none, 0, false, false, none⟩,
   ⟨(some 31), .load1 (.tmp 30), none, 1, false, false, (some (.tmp 30))⟩,
   ⟨(some 32), .faddr 0 (.tmp 2), none, 0, false, false, none⟩,
   ⟨(some 33), .load1 (.tmp 32), none, 4, false, false, (some (.tmp 32))⟩,
   ⟨(some 34), .faddr 2 (.tmp 2), none, 0, false, false, none⟩,
   ⟨(some 35), .load1 (.tmp 34), none, 16, false, false, (some (.tmp 34))⟩,
   ⟨(some 36), .iaddr 3 (.tmp 33) (.tmp 35), none, 60, false, false, none⟩,
   ⟨(some 37), .faddr 0 (.tmp 36), none, 124, false, false, none⟩,
   ⟨(some 38), .load1 (.tmp 37), none, 252, false, false, (some (.tmp 37))⟩,
   ⟨(some 39), .eql (.b .int) true (.tmp 31) (.tmp 38), none, 511, false, false, none⟩,
   ⟨(some 40), .mv (.tmp 39), none, 1023, false, false, none⟩,
   ⟨(some 41), .faddr 1 (.tmp 7), (some (40, false)), 2047, false, false, none⟩,
   ⟨(some 42), .load1 (.tmp 41), (some (40, false)), 4095, false, false, (some (.tmp 41))⟩,
   ⟨(some 43), .eql (.b .int) true (.tmp 42) (.const (.int .i64 0)), (some (40, false)), 8191, false, false, none⟩,
   ⟨(some 44), .pick (.tmp 40) (.const (.bool true)) (.tmp 43), none, 16383, false, false, none⟩,
   ⟨(some 45), .mv (.tmp 44), none, 32767, false, false, none⟩,
   ⟨(some 46), .faddr 2 (.tmp 7), (some (45, false)), 65535, false, false, none⟩,
   ⟨(some 47), .load1 (.tmp 46), (some (45, false)), 131071, false, false, (some (.tmp 46))⟩,
   ⟨(some 48), .eql (.b .int) true (.tmp 47) (.const (.int .i64 0)), (some (45, false)), 262143, false, false, none⟩,
   ⟨(some 49), .pick (.tmp 45) (.const (.bool true)) (.tmp 48), none, 524287, false, false, none⟩,
   ⟨(some 50), .mv (.tmp 49), none, 1048575, false, false, none⟩,
   ⟨(some 51), .faddr 3 (.tmp 7), (some (50, false)), 2097151, false, false, none⟩,
   ⟨(some 52), .load1 (.tmp 51), (some (50, false)), 4194303, false, false, (some (.tmp 51))⟩,
   ⟨(some 53), .eql (.b .int) true (.tmp 52) (.const (.int .i64 (-1))), (some (50, false)), 8388607, false, false, none⟩,
   ⟨(some 54), .pick (.tmp 50) (.const (.bool true)) (.tmp 53), none, 16777215, false, false, none⟩])
 (.cond (.tmp 54)
  (.seq (.reg [
     ⟨(some 4), .mv (.const .nils), none, 0, false, false, none⟩,
     ⟨(some 5), .mv (.const (.int .i64 20)), none, 0, false, false, none⟩])
   .ret)
  .skip))
 (.seq (.dreg [
   ⟨(some 55), .loadN 3 (.tmp 2), none, 0, false, false, (some (.tmp 2))⟩,
   ⟨(some 56), .faddr 2 (.tmp 2), none, 0, false, false, none⟩,
   ⟨(some 57), .load1 (.tmp 56), none, 2, false, false, (some (.tmp 56))⟩,
   ⟨(some 58), .loadN 3 (.tmp 2), none, 0, false, false, (some (.tmp 2))⟩,
   ⟨(some 59), .loadN 5 (.tmp 7), none, 0, false, false, (some (.tmp 7))⟩,
   ⟨(some 60), .call (.const (.fn 15 [])) [(.tmp 58), (.tmp 59)], none, 24, true, true, none⟩,
   ⟨(some 61), .build [(.int .i64 0), (.int .i64 0), (.int .i64 0), (.int .i64 0)] [(0, 1, (.tmp 57)), (1, 1, (.tmp 60)), (2, 1, (.const (.int .i64 1))), (3, 1, (.const (.int .i64 (-1))))], none, 62, false, false, none⟩,
   ⟨(some 62), .call (.const (.fn 14 [])) [(.tmp 55), (.tmp 61)], none, 127, true, true, none⟩,
   ⟨(some 63), .bslice 1 [(.int .i64 0)] [(0, 1, (.tmp 62))], none, 255, false, false, none⟩,
   ⟨(some 8), .mv (.tmp 63), none, 511, false, false, none⟩])
 (.seq (.reg [
   ⟨(some 64), .build [(.int .i64 0), (.int .i64 0), .nils] [(0, 1, (.const (.int .i64 0))), (1, 1, (.const (.int .i64 (-1))))], none, 0, false, false, none⟩,
   ⟨(some 65), .bslice 1 [(.int .i64 0), (.int .i64 0), .nils] [(0, 3, (.tmp 64))], none, 0, false, false, none⟩,
   ⟨(some 9), .mv (.tmp 65), none, 0, false, false, none⟩])
 (.seq (.seq (.reg [
   ⟨(some 10), .mv (.const (.int .i64 1)), none, 0, false, false, none⟩])
 (.block 0
  (.loop
   (.seq (.seq (.reg [
     ⟨(some 66), .mv (.tmp 10), none, 0, false, false, none⟩,
     ⟨(some 67), .faddr 1 (.tmp 3), none, 0, false, false, none⟩,
     ⟨(some 68), .load1 (.tmp 67), none, 0, false, false, none⟩,
     ⟨(some 69), .lenL (.tmp 68), none, 0, false, false, none⟩,
     ⟨(some 70), .ints .lss (.tmp 66) (.tmp 69), none, 0, false, false, none⟩])
   (.cond (.tmp 70)
    .skip
    (.exit 0)))
   (.seq (.block 1
    (.seq (.reg [
      ⟨(some 74), .mv (.tmp 9), none, 0, false, false, none⟩,
      ⟨(some 75), .loadN 2 (.tmp 3), none, 0, false, false, none⟩,
      ⟨(some 76), .mv (.tmp 10), none, 0, false, false, none⟩,
      ⟨(some 77), .call (.const (.fn 16 [])) [(.tmp 74), (.tmp 75), (.tmp 76)], none, 0, true, false, none⟩,
      ⟨(some 73), .mv (.tmp 77), none, 0, false, false, none⟩,
      ⟨(some 78), .extr (.tmp 73) 0, none, 0, false, false, none⟩,
      ⟨(some 79), .extr (.tmp 73) 1, none, 0, false, false, none⟩,
      ⟨(some 11), .mv (.tmp 78), none, 0, false, false, none⟩,
      ⟨(some 12), .mv (.tmp 79), none, 0, false, false, none⟩])
    (.seq (.seq (.reg [
      ⟨(some 80), .mv (.tmp 12), none, 0, false, false, none⟩,
      ⟨(some 81), .not (.tmp 80), none, 0, false, false, none⟩])
    (.cond (.tmp 81)
     (.seq (.reg [
        ⟨(some 4), .mv (.const .nils), none, 0, false, false, none⟩,
        ⟨(some 5), .mv (.const (.int .i64 20)), none, 0, false, false, none⟩])
      .ret)
     .skip))
    (.seq (.dreg [
      ⟨(some 82), .loadN 3 (.tmp 2), none, 0, false, false, (some (.tmp 2))⟩,
      ⟨(some 83), .faddr 1 (.tmp 3), none, 0, false, false, none⟩,
      ⟨(some 84), .load1 (.tmp 83), none, 2, false, false, (some (.tmp 83))⟩,
      ⟨(some 85), .mv (.tmp 10), none, 0, false, false, none⟩,
      ⟨(some 86), .ints .sub (.tmp 85) (.const (.int .i64 1)), none, 8, false, false, none⟩,
      ⟨(some 87), .iaddr 5 (.tmp 84) (.tmp 86), none, 30, false, false, none⟩,
      ⟨(some 88), .loadN 5 (.tmp 87), none, 62, false, false, (some (.tmp 87))⟩,
      ⟨(some 89), .call (.const (.fn 15 [])) [(.tmp 82), (.tmp 88)], none, 127, true, true, none⟩,
      ⟨(some 90), .loadN 3 (.tmp 2), none, 0, false, false, (some (.tmp 2))⟩,
      ⟨(some 91), .faddr 1 (.tmp 3), none, 0, false, false, none⟩,
      ⟨(some 92), .load1 (.tmp 91), none, 512, false, false, (some (.tmp 91))⟩,
      ⟨(some 93), .mv (.tmp 10), none, 0, false, false, none⟩,
      ⟨(some 94), .iaddr 5 (.tmp 92) (.tmp 93), none, 3584, false, false, none⟩,
      ⟨(some 95), .loadN 5 (.tmp 94), none, 7680, false, false, (some (.tmp 94))⟩,
      ⟨(some 96), .call (.const (.fn 15 [])) [(.tmp 90), (.tmp 95)], none, 16383, true, true, none⟩,
      ⟨(some 13), .mv (.tmp 89), none, 32767, false, false, none⟩,
      ⟨(some 14), .mv (.tmp 96), none, 65535, false, false, none⟩])
    (.seq (.block 2
     (.seq (.reg [
       ⟨(some 106), .mv (.tmp 11), none, 0, false, false, none⟩,
       ⟨(some 107), .lenL (.tmp 106), none, 0, false, false, none⟩,
       ⟨(some 108), .mv (.tmp 9), none, 0, false, false, none⟩,
       ⟨(some 109), .lenL (.tmp 108), none, 0, false, false, none⟩,
       ⟨(some 110), .ints .gtr (.tmp 107) (.tmp 109), none, 0, false, false, none⟩,
       ⟨(some 105), .mv (.tmp 110), none, 0, false, false, none⟩])
     (.cond (.tmp 105)
      (.seq (.dreg [
         ⟨(some 111), .loadN 3 (.tmp 2), none, 0, false, false, (some (.tmp 2))⟩,
         ⟨(some 112), .faddr 1 (.tmp 3), none, 0, false, false, none⟩,
         ⟨(some 113), .load1 (.tmp 112), none, 2, false, false, (some (.tmp 112))⟩,
         ⟨(some 114), .mv (.tmp 10), none, 0, false, false, none⟩,
         ⟨(some 115), .iaddr 5 (.tmp 113) (.tmp 114), none, 14, false, false, none⟩,
         ⟨(some 116), .faddr 0 (.tmp 115), none, 30, false, false, none⟩,
         ⟨(some 117), .load1 (.tmp 116), none, 62, false, false, (some (.tmp 116))⟩,
         ⟨(some 118), .call (.const (.fn 17 [])) [(.tmp 111), (.tmp 117)], none, 127, true, true, none⟩,
         ⟨(some 15), .mv (.tmp 118), none, 255, false, false, none⟩])
       (.dreg [
         ⟨(some 119), .mv (.tmp 8), none, 0, false, false, none⟩,
         ⟨(some 120), .loadN 3 (.tmp 2), none, 0, false, false, (some (.tmp 2))⟩,
         ⟨(some 121), .mv (.tmp 13), none, 0, false, false, none⟩,
         ⟨(some 122), .mv (.tmp 15), none, 0, false, false, none⟩,
         ⟨(some 123), .mv (.tmp 13), none, 0, false, false, none⟩,
         ⟨(some 124), .build [(.int .i64 0), (.int .i64 0), (.int .i64 0), (.int .i64 0)] [(0, 1, (.tmp 121)), (1, 1, (.tmp 122)), (2, 1, (.const (.int .i64 2))), (3, 1, (.tmp 123))], none, 28, false, false, none⟩,
         ⟨(some 125), .call (.const (.fn 14 [])) [(.tmp 120), (.tmp 124)], none, 62, true, true, none⟩,
         ⟨(some 126), .loadN 3 (.tmp 2), none, 0, false, false, (some (.tmp 2))⟩,
         ⟨(some 127), .mv (.tmp 15), none, 0, false, false, none⟩,
         ⟨(some 128), .mv (.tmp 14), none, 0, false, false, none⟩,
         ⟨(some 129), .build [(.int .i64 0), (.int .i64 0), (.int .i64 0), (.int .i64 0)] [(0, 1, (.tmp 127)), (1, 1, (.tmp 128)), (2, 1, (.const (.int .i64 1))), (3, 1, (.const (.int .i64 (-1))))], none, 768, false, false, none⟩,
         ⟨(some 130), .call (.const (.fn 14 [])) [(.tmp 126), (.tmp 129)], none, 2046, true, true, none⟩,
         ⟨(some 131), .bslice 2 [(.int .i64 0)] [(0, 1, (.tmp 125)), (1, 1, (.tmp 130))], none, 4094, false, false, none⟩,
         ⟨(some 132), .append 1 (.tmp 119) (.tmp 131), none, 8191, true, true, none⟩,
         ⟨(some 8), .mv (.tmp 132), none, 16383, false, false, none⟩]))
      (.seq (.reg [
         ⟨(some 134), .mv (.tmp 11), none, 0, false, false, none⟩,
         ⟨(some 135), .lenL (.tmp 134), none, 0, false, false, none⟩,
         ⟨(some 136), .mv (.tmp 9), none, 0, false, false, none⟩,
         ⟨(some 137), .lenL (.tmp 136), none, 0, false, false, none⟩,
         ⟨(some 138), .eql (.b .int) false (.tmp 135) (.tmp 137), none, 0, false, false, none⟩,
         ⟨(some 133), .mv (.tmp 138), none, 0, false, false, none⟩])
       (.cond (.tmp 133)
        (.reg [
           ⟨(some 139), .mv (.tmp 8), none, 0, false, false, none⟩,
           ⟨(some 140), .loadN 3 (.tmp 2), none, 0, false, false, none⟩,
           ⟨(some 141), .mv (.tmp 13), none, 0, false, false, none⟩,
           ⟨(some 142), .mv (.tmp 14), none, 0, false, false, none⟩,
           ⟨(some 143), .build [(.int .i64 0), (.int .i64 0), (.int .i64 0), (.int .i64 0)] [(0, 1, (.tmp 141)), (1, 1, (.tmp 142)), (2, 1, (.const (.int .i64 1))), (3, 1, (.const (.int .i64 (-1))))], none, 0, false, false, none⟩,
           ⟨(some 144), .call (.const (.fn 14 [])) [(.tmp 140), (.tmp 143)], none, 0, true, false, none⟩,
           ⟨(some 145), .bslice 1 [(.int .i64 0)] [(0, 1, (.tmp 144))], none, 0, false, false, none⟩,
           ⟨(some 146), .append 1 (.tmp 139) (.tmp 145), none, 0, true, false, none⟩,
           ⟨(some 8), .mv (.tmp 146), none, 0, false, false, none⟩])
        (.reg [
           ⟨(some 97), .mv (.tmp 8), none, 0, false, false, none⟩,
           ⟨(some 98), .loadN 3 (.tmp 2), none, 0, false, false, none⟩,
           ⟨(some 99), .loadN 2 (.tmp 3), none, 0, false, false, none⟩,
           ⟨(some 100), .mv (.tmp 9), none, 0, false, false, none⟩,
           ⟨(some 101), .mv (.tmp 11), none, 0, false, false, none⟩,
           ⟨(some 102), .mv (.tmp 10), none, 0, false, false, none⟩,
           ⟨(some 103), .call (.const (.fn 18 [])) [(.tmp 98), (.tmp 99), (.tmp 100), (.tmp 101), (.tmp 102)], none, 0, true, false, none⟩,
           ⟨(some 104), .append 1 (.tmp 97) (.tmp 103), none, 0, true, false, none⟩,
           ⟨(some 8), .mv (.tmp 104), none, 0, false, false, none⟩]))))))
    (.reg [
      ⟨(some 147), .mv (.tmp 11), none, 0, false, false, none⟩,
      ⟨(some 9), .mv (.tmp 147), none, 0, false, false, none⟩]))))))
   (.reg [
     ⟨(some 71), .mv (.tmp 10), none, 0, false, false, none⟩,
     ⟨(some 72), .ints .add (.tmp 71) (.const (.int .i64 1)), none, 0, false, false, none⟩,
     ⟨(some 10), .mv (.tmp 72), none, 0, false, false, none⟩]))))))
 (.seq (.seq (.reg [
   ⟨(some 16), .mv (.const (.int .i64 0)), none, 0, false, false, none⟩])
 (.block 3
  (.loop
   (.seq (.seq (.reg [
     ⟨(some 148), .mv (.tmp 16), none, 0, false, false, none⟩,
     ⟨(some 149), .mv (.tmp 8), none, 0, false, false, none⟩,
     ⟨(some 150), .lenL (.tmp 149), none, 0, false, false, none⟩,
     ⟨(some 151), .ints .lss (.tmp 148) (.tmp 150), none, 0, false, false, none⟩])
   (.cond (.tmp 151)
    .skip
    (.exit 3)))
   (.seq (.block 4
    (.seq (.reg [
      ⟨(some 154), .mv (.tmp 8), none, 0, false, false, none⟩,
      ⟨(some 155), .mv (.tmp 16), none, 0, false, false, none⟩,
      ⟨(some 156), .iaddr 1 (.tmp 154) (.tmp 155), none, 0, false, false, none⟩,
      ⟨(some 157), .load1 (.tmp 156), none, 0, false, false, none⟩,
      ⟨(some 158), .ints .lss (.tmp 157) (.const (.int .i64 0)), none, 0, false, false, none⟩])
    (.cond (.tmp 158)
     (.seq (.reg [
        ⟨(some 4), .mv (.const .nils), none, 0, false, false, none⟩,
        ⟨(some 5), .mv (.const (.int .i64 20)), none, 0, false, false, none⟩])
      .ret)
     .skip)))
   (.reg [
     ⟨(some 152), .mv (.tmp 16), none, 0, false, false, none⟩,
     ⟨(some 153), .ints .add (.tmp 152) (.const (.int .i64 1)), none, 0, false, false, none⟩,
     ⟨(some 16), .mv (.tmp 153), none, 0, false, false, none⟩]))))))
 (.seq (.seq (.reg [
   ⟨(some 159), .mv (.tmp 8), none, 0, false, false, none⟩,
   ⟨(some 160), .lenL (.tmp 159), none, 0, false, false, none⟩,
   ⟨(some 161), .ints .gtr (.tmp 160) (.const (.int .i64 4096)), none, 0, false, false, none⟩])
 (.cond (.tmp 161)
  (.seq (.reg [
     ⟨(some 4), .mv (.const .nils), none, 0, false, false, none⟩,
     ⟨(some 5), .mv (.const (.int .i64 3)), none, 0, false, false, none⟩])
   .ret)
  .skip))
 (.seq (.reg [
   ⟨(some 162), .mv (.tmp 8), none, 0, false, false, none⟩,
   ⟨(some 4), .mv (.tmp 162), none, 0, false, false, none⟩,
   ⟨(some 5), .mv (.const (.int .i64 0)), none, 0, false, false, none⟩])
 .ret)))))))))))
theorem x_RPath : tblX Tryz.prog X0 6 = some (.fn ⟨163, [(4, none), (5, none)], s_RPath.den⟩) := by kernel_rfl
def s_orderNode : SC := (.seq (.reg [
   ⟨(some 2), .box (.tmp 0), none, 0, false, false, none⟩,
   ⟨(some 3), .box (.tmp 1), none, 0, false, false, none⟩,
   ⟨(some 4), .mv (.const (.int .i64 0)), none, 0, false, false, none⟩])
 (.seq (.dreg [
   ⟨(some 5), .faddr 0 (.tmp 2), none, 0, false, false, none⟩,
   ⟨(some 6), .load1 (.tmp 5), none, 1, false, false, (some (.tmp 5))⟩,
   ⟨(some 7), .faddr 0 (.tmp 3), none, 0, false, false, none⟩,
   ⟨(some 8), .load1 (.tmp 7), none, 4, false, false, (some (.tmp 7))⟩,
   ⟨(some 9), .call (.const (.fn 55 [])) [(.tmp 6), (.tmp 8)], none, 15, true, true, none⟩,
   ⟨(some 10), .faddr 1 (.tmp 2), none, 0, false, false, none⟩,
   ⟨(some 11), .load1 (.tmp 10), none, 32, false, false, (some (.tmp 10))⟩,
   ⟨(some 12), .faddr 1 (.tmp 3), none, 0, false, false, none⟩,
   ⟨(some 13), .load1 (.tmp 12), none, 128, false, false, (some (.tmp 12))⟩,
   ⟨(some 14), .call (.const (.fn 55 [])) [(.tmp 11), (.tmp 13)], none, 511, true, true, none⟩,
   ⟨(some 15), .faddr 2 (.tmp 2), none, 0, false, false, none⟩,
   ⟨(some 16), .load1 (.tmp 15), none, 1024, false, false, (some (.tmp 15))⟩,
   ⟨(some 17), .faddr 2 (.tmp 3), none, 0, false, false, none⟩,
   ⟨(some 18), .load1 (.tmp 17), none, 4096, false, false, (some (.tmp 17))⟩,
   ⟨(some 19), .call (.const (.fn 55 [])) [(.tmp 16), (.tmp 18)], none, 16383, true, true, none⟩,
   ⟨(some 20), .bslice 3 [(.int .i64 0)] [(0, 1, (.tmp 9)), (1, 1, (.tmp 14)), (2, 1, (.tmp 19))], none, 32767, false, false, none⟩,
   ⟨(some 21), .call (.const (.fn 54 [])) [(.tmp 20)], none, 65535, true, true, none⟩,
   ⟨(some 4), .mv (.tmp 21), none, 131071, false, false, none⟩])
 .ret))
theorem x_orderNode : tblX Tryz.prog X0 28 = some (.fn ⟨22, [(4, none)], s_orderNode.den⟩) := by kernel_rfl
def s_orderEdge : SC := (.seq (.reg [
   ⟨(some 2), .box (.tmp 0), none, 0, false, false, none⟩,
   ⟨(some 3), .box (.tmp 1), none, 0, false, false, none⟩,
   ⟨(some 4), .mv (.const (.int .i64 0)), none, 0, false, false, none⟩])
 (.seq (.dreg [
   ⟨(some 5), .faddr 0 (.tmp 2), none, 0, false, false, none⟩,
   ⟨(some 6), .load1 (.tmp 5), none, 1, false, false, (some (.tmp 5))⟩,
   ⟨(some 7), .faddr 0 (.tmp 3), none, 0, false, false, none⟩,
   ⟨(some 8), .load1 (.tmp 7), none, 4, false, false, (some (.tmp 7))⟩,
   ⟨(some 9), .call (.const (.fn 55 [])) [(.tmp 6), (.tmp 8)], none, 15, true, true, none⟩,
   ⟨(some 10), .faddr 1 (.tmp 2), none, 0, false, false, none⟩,
   ⟨(some 11), .load1 (.tmp 10), none, 32, false, false, (some (.tmp 10))⟩,
   ⟨(some 12), .faddr 1 (.tmp 3), none, 0, false, false, none⟩,
   ⟨(some 13), .load1 (.tmp 12), none, 128, false, false, (some (.tmp 12))⟩,
   ⟨(some 14), .call (.const (.fn 55 [])) [(.tmp 11), (.tmp 13)], none, 511, true, true, none⟩,
   ⟨(some 15), .faddr 2 (.tmp 2), none, 0, false, false, none⟩,
   ⟨(some 16), .load1 (.tmp 15), none, 1024, false, false, (some (.tmp 15))⟩,
   ⟨(some 17), .faddr 2 (.tmp 3), none, 0, false, false, none⟩,
   ⟨(some 18), .load1 (.tmp 17), none, 4096, false, false, (some (.tmp 17))⟩,
   ⟨(some 19), .call (.const (.fn 55 [])) [(.tmp 16), (.tmp 18)], none, 16383, true, true, none⟩,
   ⟨(some 20), .faddr 3 (.tmp 2), none, 0, false, false, none⟩,
   ⟨(some 21), .load1 (.tmp 20), none, 32768, false, false, (some (.tmp 20))⟩,
   ⟨(some 22), .faddr 3 (.tmp 3), none, 0, false, false, none⟩,
   ⟨(some 23), .load1 (.tmp 22), none, 131072, false, false, (some (.tmp 22))⟩,
   ⟨(some 24), .call (.const (.fn 55 [])) [(.tmp 21), (.tmp 23)], none, 524287, true, true, none⟩,
   ⟨(some 25), .bslice 4 [(.int .i64 0)] [(0, 1, (.tmp 9)), (1, 1, (.tmp 14)), (2, 1, (.tmp 19)), (3, 1, (.tmp 24))], none, 1048575, false, false, none⟩,
   ⟨(some 26), .call (.const (.fn 54 [])) [(.tmp 25)], none, 2097151, true, true, none⟩,
   ⟨(some 4), .mv (.tmp 26), none, 4194303, false, false, none⟩])
 .ret))
theorem x_orderEdge : tblX Tryz.prog X0 31 = some (.fn ⟨27, [(4, none)], s_orderEdge.den⟩) := by kernel_rfl
def s_starts : SC := (.seq (.reg [
   ⟨(some 1), .box (.tmp 0), none, 0, false, false, none⟩,
   ⟨(some 2), .mv (.const .nilm), none, 0, false, false, none⟩,
   ⟨(some 3), .mv (.const (.bool false)), none, 0, false, false, none⟩])
 (.seq (.reg [
   ⟨(some 10), .mkmap, none, 0, false, false, none⟩,
   ⟨(some 11), .mkmap, none, 0, false, false, none⟩,
   ⟨(some 4), .mv (.tmp 10), none, 0, false, false, none⟩,
   ⟨(some 5), .mv (.tmp 11), none, 0, false, false, none⟩])
 (.seq (.seq (.reg [
   ⟨(some 12), .faddr 0 (.tmp 1), none, 0, false, false, none⟩,
   ⟨(some 13), .load1 (.tmp 12), none, 0, false, false, none⟩,
   ⟨(some 14), .lenL (.tmp 13), none, 0, false, false, none⟩,
   ⟨(some 15), .mv (.const (.int .i64 0)), none, 0, false, false, none⟩])
 (.block 0
  (.loop
   (.seq (.reg [
     ⟨(some 16), .ints .lss (.tmp 15) (.tmp 14), none, 0, false, false, none⟩])
   (.seq (.cond (.tmp 16)
    .skip
    (.exit 0))
   (.seq (.block 1
    (.seq (.reg [
      ⟨(some 17), .mv (.tmp 15), none, 0, false, false, none⟩,
      ⟨(some 18), .iaddr 3 (.tmp 13) (.tmp 15), none, 0, false, false, none⟩,
      ⟨(some 19), .loadN 3 (.tmp 18), none, 0, false, false, none⟩,
      ⟨(some 7), .box (.const (.agg [(.int .i64 0), (.int .i64 0), (.int .i64 0)])), none, 0, false, false, none⟩,
      ⟨(some 6), .mv (.tmp 17), none, 0, false, false, none⟩,
      ⟨none, .store 3 (.tmp 7) (.tmp 19), none, 0, true, false, none⟩])
    (.seq (.reg [
      ⟨(some 20), .faddr 1 (.tmp 7), none, 0, false, false, none⟩,
      ⟨(some 21), .load1 (.tmp 20), none, 0, false, false, none⟩])
    (.block 2
     (.seq (.reg [
       ⟨(some 23), .eql (.b .int) false (.tmp 21) (.const (.int .i64 1)), none, 0, false, false, none⟩,
       ⟨(some 22), .mv (.tmp 23), none, 0, false, false, none⟩])
     (.cond (.tmp 22)
      (.seq (.reg [
         ⟨(some 24), .mv (.tmp 4), none, 0, false, false, none⟩,
         ⟨(some 25), .faddr 0 (.tmp 7), none, 0, false, false, none⟩,
         ⟨(some 26), .load1 (.tmp 25), none, 0, false, false, none⟩,
         ⟨(some 27), .mv (.tmp 6), none, 0, false, false, none⟩,
         ⟨none, .mapup (.b .int) (.tmp 24) (.tmp 26) (.tmp 27), none, 0, true, false, none⟩])
       (.reg [
         ⟨(some 28), .mv (.tmp 5), none, 0, false, false, none⟩,
         ⟨(some 29), .faddr 0 (.tmp 7), none, 0, false, false, none⟩,
         ⟨(some 30), .load1 (.tmp 29), none, 0, false, false, none⟩,
         ⟨(some 31), .lookup (.b .int) (.int .i64 0) (.tmp 28) (.tmp 30) false, none, 0, false, false, none⟩,
         ⟨(some 32), .ints .add (.tmp 31) (.const (.int .i64 1)), none, 0, false, false, none⟩,
         ⟨none, .mapup (.b .int) (.tmp 28) (.tmp 30) (.tmp 32), none, 0, true, false, none⟩]))
      (.seq (.seq (.reg [
         ⟨(some 34), .eql (.b .int) false (.tmp 21) (.const (.int .i64 3)), none, 0, false, false, none⟩,
         ⟨(some 33), .mv (.tmp 34), none, 0, false, false, none⟩])
       (.cond (.tmp 33)
        .skip
        (.reg [
           ⟨(some 35), .eql (.b .int) false (.tmp 21) (.const (.int .i64 4)), none, 0, false, false, none⟩,
           ⟨(some 33), .mv (.tmp 35), none, 0, false, false, none⟩])))
       (.cond (.tmp 33)
        (.reg [
           ⟨(some 36), .mv (.tmp 5), none, 0, false, false, none⟩,
           ⟨(some 37), .faddr 0 (.tmp 7), none, 0, false, false, none⟩,
           ⟨(some 38), .load1 (.tmp 37), none, 0, false, false, none⟩,
           ⟨(some 39), .lookup (.b .int) (.int .i64 0) (.tmp 36) (.tmp 38) false, none, 0, false, false, none⟩,
           ⟨(some 40), .ints .add (.tmp 39) (.const (.int .i64 1)), none, 0, false, false, none⟩,
           ⟨none, .mapup (.b .int) (.tmp 36) (.tmp 38) (.tmp 40), none, 0, true, false, none⟩])
        .skip))))))))
   (.reg [
     ⟨(some 41), .ints .add (.tmp 15) (.const (.int .i64 1)), none, 0, false, false, none⟩,
     ⟨(some 15), .mv (.tmp 41), none, 0, false, false, none⟩])))))))
 (.seq (.seq (.reg [
   ⟨(some 42), .faddr 0 (.tmp 1), none, 0, false, false, none⟩,
   ⟨(some 43), .load1 (.tmp 42), none, 0, false, false, none⟩,
   ⟨(some 44), .lenL (.tmp 43), none, 0, false, false, none⟩,
   ⟨(some 45), .mv (.const (.int .i64 0)), none, 0, false, false, none⟩])
 (.block 3
  (.loop
   (.seq (.reg [
     ⟨(some 46), .ints .lss (.tmp 45) (.tmp 44), none, 0, false, false, none⟩])
   (.seq (.cond (.tmp 46)
    .skip
    (.exit 3))
   (.seq (.block 4
    (.seq (.reg [
      ⟨(some 47), .iaddr 3 (.tmp 43) (.tmp 45), none, 0, false, false, none⟩,
      ⟨(some 48), .loadN 3 (.tmp 47), none, 0, false, false, none⟩,
      ⟨(some 9), .box (.const (.agg [(.int .i64 0), (.int .i64 0), (.int .i64 0)])), none, 0, false, false, none⟩,
      ⟨none, .store 3 (.tmp 9) (.tmp 48), none, 0, true, false, none⟩])
    (.seq (.reg [
      ⟨(some 49), .mv (.tmp 5), none, 0, false, false, none⟩,
      ⟨(some 50), .faddr 0 (.tmp 9), none, 0, false, false, none⟩,
      ⟨(some 51), .load1 (.tmp 50), none, 0, false, false, none⟩,
      ⟨(some 52), .lookup (.b .int) (.int .i64 0) (.tmp 49) (.tmp 51) false, none, 0, false, false, none⟩,
      ⟨(some 53), .eql (.b .int) true (.tmp 52) (.const (.int .i64 3)), none, 0, false, false, none⟩])
    (.cond (.tmp 53)
     (.seq (.reg [
        ⟨(some 2), .mv (.const .nilm), none, 0, false, false, none⟩,
        ⟨(some 3), .mv (.const (.bool false)), none, 0, false, false, none⟩])
      .ret)
     .skip))))
   (.reg [
     ⟨(some 54), .ints .add (.tmp 45) (.const (.int .i64 1)), none, 0, false, false, none⟩,
     ⟨(some 45), .mv (.tmp 54), none, 0, false, false, none⟩])))))))
 (.seq (.reg [
   ⟨(some 55), .mv (.tmp 4), none, 0, false, false, none⟩,
   ⟨(some 2), .mv (.tmp 55), none, 0, false, false, none⟩,
   ⟨(some 3), .mv (.const (.bool true)), none, 0, false, false, none⟩])
 .ret)))))
theorem x_starts : tblX Tryz.prog X0 29 = some (.fn ⟨56, [(2, none), (3, none)], s_starts.den⟩) := by kernel_rfl
def s_check : SC := (.seq (.reg [
   ⟨(some 2), .box (.tmp 0), none, 0, false, false, none⟩,
   ⟨(some 3), .box (.tmp 1), none, 0, false, false, none⟩,
   ⟨(some 4), .mv (.const (.int .i64 0)), none, 0, false, false, none⟩])
 (.seq (.reg [
   ⟨(some 6), .mkfn 56 [(.tmp 2)], none, 0, false, false, none⟩,
   ⟨(some 5), .mv (.tmp 6), none, 0, false, false, none⟩])
 (.seq (.seq (.reg [
   ⟨(some 7), .mv (.tmp 5), none, 0, false, false, none⟩,
   ⟨(some 8), .faddr 0 (.tmp 3), none, 0, false, false, none⟩,
   ⟨(some 9), .load1 (.tmp 8), none, 0, false, false, none⟩,
   ⟨(some 10), .call (.tmp 7) [(.tmp 9)], none, 0, true, false, none⟩,
   ⟨(some 11), .not (.tmp 10), none, 0, false, false, none⟩,
   ⟨(some 12), .mv (.tmp 11), none, 0, false, false, none⟩,
   ⟨(some 13), .mv (.tmp 5), (some (12, false)), 0, false, false, none⟩,
   ⟨(some 14), .faddr 1 (.tmp 3), (some (12, false)), 0, false, false, none⟩,
   ⟨(some 15), .load1 (.tmp 14), (some (12, false)), 0, false, false, none⟩,
   ⟨(some 16), .call (.tmp 13) [(.tmp 15)], (some (12, false)), 0, true, false, none⟩,
   ⟨(some 17), .not (.tmp 16), (some (12, false)), 0, false, false, none⟩,
   ⟨(some 18), .pick (.tmp 12) (.const (.bool true)) (.tmp 17), none, 0, false, false, none⟩])
 (.cond (.tmp 18)
  (.seq (.reg [
     ⟨(some 4), .mv (.const (.int .i64 4)), none, 0, false, false, none⟩])
   .ret)
  .skip))
 (.seq (.seq (.reg [
   ⟨(some 19), .faddr 2 (.tmp 3), none, 0, false, false, none⟩,
   ⟨(some 20), .load1 (.tmp 19), none, 0, false, false, none⟩])
 (.block 0
  (.seq (.seq (.reg [
    ⟨(some 22), .eql (.b .int) false (.tmp 20) (.const (.int .i64 1)), none, 0, false, false, none⟩,
    ⟨(some 21), .mv (.tmp 22), none, 0, false, false, none⟩])
  (.cond (.tmp 21)
   .skip
   (.reg [
      ⟨(some 23), .eql (.b .int) false (.tmp 20) (.const (.int .i64 5)), none, 0, false, false, none⟩,
      ⟨(some 21), .mv (.tmp 23), none, 0, false, false, none⟩])))
  (.cond (.tmp 21)
   (.seq (.reg [
      ⟨(some 24), .faddr 3 (.tmp 3), none, 0, false, false, none⟩,
      ⟨(some 25), .load1 (.tmp 24), none, 0, false, false, none⟩,
      ⟨(some 26), .eql (.b .int) true (.tmp 25) (.const (.int .i64 (-1))), none, 0, false, false, none⟩])
    (.cond (.tmp 26)
     (.seq (.reg [
        ⟨(some 4), .mv (.const (.int .i64 4)), none, 0, false, false, none⟩])
      .ret)
     .skip))
   (.seq (.seq (.reg [
      ⟨(some 28), .eql (.b .int) false (.tmp 20) (.const (.int .i64 2)), none, 0, false, false, none⟩,
      ⟨(some 27), .mv (.tmp 28), none, 0, false, false, none⟩])
    (.cond (.tmp 27)
     .skip
     (.seq (.reg [
        ⟨(some 29), .eql (.b .int) false (.tmp 20) (.const (.int .i64 3)), none, 0, false, false, none⟩,
        ⟨(some 27), .mv (.tmp 29), none, 0, false, false, none⟩])
      (.cond (.tmp 27)
       .skip
       (.reg [
          ⟨(some 30), .eql (.b .int) false (.tmp 20) (.const (.int .i64 4)), none, 0, false, false, none⟩,
          ⟨(some 27), .mv (.tmp 30), none, 0, false, false, none⟩])))))
    (.cond (.tmp 27)
     (.seq (.reg [
        ⟨(some 31), .mv (.tmp 5), none, 0, false, false, none⟩,
        ⟨(some 32), .faddr 3 (.tmp 3), none, 0, false, false, none⟩,
        ⟨(some 33), .load1 (.tmp 32), none, 0, false, false, none⟩,
        ⟨(some 34), .call (.tmp 31) [(.tmp 33)], none, 0, true, false, none⟩,
        ⟨(some 35), .not (.tmp 34), none, 0, false, false, none⟩])
      (.cond (.tmp 35)
       (.seq (.reg [
          ⟨(some 4), .mv (.const (.int .i64 4)), none, 0, false, false, none⟩])
        .ret)
       .skip))
     (.seq (.reg [
        ⟨(some 4), .mv (.const (.int .i64 12)), none, 0, false, false, none⟩])
      .ret)))))))
 (.seq (.reg [
   ⟨(some 4), .mv (.const (.int .i64 0)), none, 0, false, false, none⟩])
 .ret)))))
theorem x_check : tblX Tryz.prog X0 30 = some (.fn ⟨36, [(4, none)], s_check.den⟩) := by kernel_rfl
def s_check1 : SC := (.seq (.reg [
   ⟨(some 3), .mv (.const (.bool false)), none, 0, false, false, none⟩])
 (.seq (.reg [
   ⟨(some 4), .mv (.tmp 0), none, 0, false, false, none⟩,
   ⟨(some 5), .ints .geq (.tmp 4) (.const (.int .i64 0)), none, 0, false, false, none⟩,
   ⟨(some 6), .mv (.tmp 5), none, 0, false, false, none⟩,
   ⟨(some 7), .mv (.tmp 0), (some (6, true)), 0, false, false, none⟩,
   ⟨(some 8), .faddr 0 (.tmp 1), (some (6, true)), 0, false, false, none⟩,
   ⟨(some 9), .load1 (.tmp 8), (some (6, true)), 0, false, false, none⟩,
   ⟨(some 10), .lenL (.tmp 9), (some (6, true)), 0, false, false, none⟩,
   ⟨(some 11), .ints .lss (.tmp 7) (.tmp 10), (some (6, true)), 0, false, false, none⟩,
   ⟨(some 12), .pick (.tmp 6) (.tmp 11) (.const (.bool false)), none, 0, false, false, none⟩,
   ⟨(some 3), .mv (.tmp 12), none, 0, false, false, none⟩])
 .ret))
theorem x_check1 : tblX Tryz.prog X0 56 = some (.fn ⟨13, [(3, none)], s_check1.den⟩) := by kernel_rfl
def s_matches : SC := (.seq (.reg [
   ⟨(some 4), .box (.tmp 0), none, 0, false, false, none⟩,
   ⟨(some 7), .box (.tmp 3), none, 0, false, false, none⟩,
   ⟨(some 8), .mv (.const (.bool false)), none, 0, false, false, none⟩])
 (.seq (.dreg [
   ⟨(some 13), .faddr 0 (.tmp 4), none, 0, false, false, none⟩,
   ⟨(some 14), .load1 (.tmp 13), none, 1, false, false, (some (.tmp 13))⟩,
   ⟨(some 15), .faddr 0 (.tmp 7), none, 0, false, false, none⟩,
   ⟨(some 16), .load1 (.tmp 15), none, 4, false, false, (some (.tmp 15))⟩,
   ⟨(some 17), .iaddr 3 (.tmp 14) (.tmp 16), none, 15, false, false, none⟩,
   ⟨(some 18), .loadN 3 (.tmp 17), none, 31, false, false, (some (.tmp 17))⟩,
   ⟨(some 19), .faddr 0 (.tmp 4), none, 0, false, false, none⟩,
   ⟨(some 20), .load1 (.tmp 19), none, 64, false, false, (some (.tmp 19))⟩,
   ⟨(some 21), .faddr 1 (.tmp 7), none, 0, false, false, none⟩,
   ⟨(some 22), .load1 (.tmp 21), none, 256, false, false, (some (.tmp 21))⟩,
   ⟨(some 23), .iaddr 3 (.tmp 20) (.tmp 22), none, 960, false, false, none⟩,
   ⟨(some 24), .loadN 3 (.tmp 23), none, 1984, false, false, (some (.tmp 23))⟩,
   ⟨(some 9), .box (.const (.agg [(.int .i64 0), (.int .i64 0), (.int .i64 0)])), none, 0, false, false, none⟩,
   ⟨(some 10), .box (.const (.agg [(.int .i64 0), (.int .i64 0), (.int .i64 0)])), none, 0, false, false, none⟩,
   ⟨none, .store 3 (.tmp 9) (.tmp 18), none, 12351, true, true, none⟩,
   ⟨none, .store 3 (.tmp 10) (.tmp 24), none, 32767, true, true, none⟩])
 (.seq (.seq (.reg [
   ⟨(some 25), .faddr 2 (.tmp 7), none, 0, false, false, none⟩,
   ⟨(some 26), .load1 (.tmp 25), none, 0, false, false, none⟩])
 (.block 0
  (.seq (.reg [
    ⟨(some 28), .eql (.b .int) false (.tmp 26) (.const (.int .i64 1)), none, 0, false, false, none⟩,
    ⟨(some 27), .mv (.tmp 28), none, 0, false, false, none⟩])
  (.cond (.tmp 27)
   (.seq (.reg [
      ⟨(some 29), .faddr 0 (.tmp 9), none, 0, false, false, none⟩,
      ⟨(some 30), .load1 (.tmp 29), none, 0, false, false, none⟩,
      ⟨(some 31), .faddr 0 (.tmp 10), none, 0, false, false, none⟩,
      ⟨(some 32), .load1 (.tmp 31), none, 0, false, false, none⟩,
      ⟨(some 33), .eql (.b .int) false (.tmp 30) (.tmp 32), none, 0, false, false, none⟩,
      ⟨(some 34), .mv (.tmp 33), none, 0, false, false, none⟩,
      ⟨(some 35), .faddr 1 (.tmp 9), (some (34, true)), 0, false, false, none⟩,
      ⟨(some 36), .load1 (.tmp 35), (some (34, true)), 0, false, false, none⟩,
      ⟨(some 37), .eql (.b .int) false (.tmp 36) (.const (.int .i64 1)), (some (34, true)), 0, false, false, none⟩,
      ⟨(some 38), .mv (.tmp 37), (some (34, true)), 0, false, false, none⟩,
      ⟨(some 39), .faddr 1 (.tmp 9), (some (38, false)), 0, false, false, none⟩,
      ⟨(some 40), .load1 (.tmp 39), (some (38, false)), 0, false, false, none⟩,
      ⟨(some 41), .eql (.b .int) false (.tmp 40) (.const (.int .i64 2)), (some (38, false)), 0, false, false, none⟩,
      ⟨(some 42), .pick (.tmp 38) (.const (.bool true)) (.tmp 41), (some (34, true)), 0, false, false, none⟩,
      ⟨(some 43), .pick (.tmp 34) (.tmp 42) (.const (.bool false)), none, 0, false, false, none⟩,
      ⟨(some 44), .mv (.tmp 43), none, 0, false, false, none⟩,
      ⟨(some 45), .faddr 1 (.tmp 10), (some (44, true)), 0, false, false, none⟩,
      ⟨(some 46), .load1 (.tmp 45), (some (44, true)), 0, false, false, none⟩,
      ⟨(some 47), .eql (.b .int) true (.tmp 46) (.const (.int .i64 1)), (some (44, true)), 0, false, false, none⟩,
      ⟨(some 48), .pick (.tmp 44) (.tmp 47) (.const (.bool false)), none, 0, false, false, none⟩,
      ⟨(some 8), .mv (.tmp 48), none, 0, false, false, none⟩])
    .ret)
   (.seq (.reg [
      ⟨(some 50), .eql (.b .int) false (.tmp 26) (.const (.int .i64 5)), none, 0, false, false, none⟩,
      ⟨(some 49), .mv (.tmp 50), none, 0, false, false, none⟩])
    (.cond (.tmp 49)
     (.seq (.reg [
        ⟨(some 51), .faddr 0 (.tmp 9), none, 0, false, false, none⟩,
        ⟨(some 52), .load1 (.tmp 51), none, 0, false, false, none⟩,
        ⟨(some 53), .faddr 0 (.tmp 10), none, 0, false, false, none⟩,
        ⟨(some 54), .load1 (.tmp 53), none, 0, false, false, none⟩,
        ⟨(some 55), .eql (.b .int) false (.tmp 52) (.tmp 54), none, 0, false, false, none⟩,
        ⟨(some 56), .mv (.tmp 55), none, 0, false, false, none⟩,
        ⟨(some 57), .faddr 1 (.tmp 9), (some (56, true)), 0, false, false, none⟩,
        ⟨(some 58), .load1 (.tmp 57), (some (56, true)), 0, false, false, none⟩,
        ⟨(some 59), .eql (.b .int) false (.tmp 58) (.const (.int .i64 2)), (some (56, true)), 0, false, false, none⟩,
        ⟨(some 60), .pick (.tmp 56) (.tmp 59) (.const (.bool false)), none, 0, false, false, none⟩,
        ⟨(some 61), .mv (.tmp 60), none, 0, false, false, none⟩,
        ⟨(some 62), .faddr 1 (.tmp 10), (some (61, true)), 0, false, false, none⟩,
        ⟨(some 63), .load1 (.tmp 62), (some (61, true)), 0, false, false, none⟩,
        ⟨(some 64), .eql (.b .int) true (.tmp 63) (.const (.int .i64 1)), (some (61, true)), 0, false, false, none⟩,
        ⟨(some 65), .pick (.tmp 61) (.tmp 64) (.const (.bool false)), none, 0, false, false, none⟩,
        ⟨(some 8), .mv (.tmp 65), none, 0, false, false, none⟩])
      .ret)
     (.seq (.reg [
        ⟨(some 67), .eql (.b .int) false (.tmp 26) (.const (.int .i64 2)), none, 0, false, false, none⟩,
        ⟨(some 66), .mv (.tmp 67), none, 0, false, false, none⟩])
      (.cond (.tmp 66)
       (.seq (.reg [
          ⟨(some 68), .faddr 1 (.tmp 9), none, 0, false, false, none⟩,
          ⟨(some 69), .load1 (.tmp 68), none, 0, false, false, none⟩,
          ⟨(some 70), .eql (.b .int) false (.tmp 69) (.const (.int .i64 2)), none, 0, false, false, none⟩,
          ⟨(some 71), .mv (.tmp 70), none, 0, false, false, none⟩,
          ⟨(some 72), .faddr 3 (.tmp 7), (some (71, true)), 0, false, false, none⟩,
          ⟨(some 73), .load1 (.tmp 72), (some (71, true)), 0, false, false, none⟩,
          ⟨(some 74), .faddr 0 (.tmp 7), (some (71, true)), 0, false, false, none⟩,
          ⟨(some 75), .load1 (.tmp 74), (some (71, true)), 0, false, false, none⟩,
          ⟨(some 76), .eql (.b .int) false (.tmp 73) (.tmp 75), (some (71, true)), 0, false, false, none⟩,
          ⟨(some 77), .pick (.tmp 71) (.tmp 76) (.const (.bool false)), none, 0, false, false, none⟩,
          ⟨(some 78), .mv (.tmp 77), none, 0, false, false, none⟩,
          ⟨(some 79), .faddr 1 (.tmp 10), (some (78, true)), 0, false, false, none⟩,
          ⟨(some 80), .load1 (.tmp 79), (some (78, true)), 0, false, false, none⟩,
          ⟨(some 81), .eql (.b .int) false (.tmp 80) (.const (.int .i64 1)), (some (78, true)), 0, false, false, none⟩,
          ⟨(some 82), .pick (.tmp 78) (.tmp 81) (.const (.bool false)), none, 0, false, false, none⟩,
          ⟨(some 8), .mv (.tmp 82), none, 0, false, false, none⟩])
        .ret)
       .skip))))))))
 (.seq (.reg [
   ⟨(some 11), .mv (.const (.int .i64 3)), none, 0, false, false, none⟩])
 (.seq (.seq (.reg [
   ⟨(some 83), .faddr 2 (.tmp 7), none, 0, false, false, none⟩,
   ⟨(some 84), .load1 (.tmp 83), none, 0, false, false, none⟩,
   ⟨(some 85), .eql (.b .int) false (.tmp 84) (.const (.int .i64 4)), none, 0, false, false, none⟩])
 (.cond (.tmp 85)
  (.reg [
     ⟨(some 11), .mv (.const (.int .i64 4)), none, 0, false, false, none⟩])
  .skip))
 (.seq (.reg [
   ⟨(some 86), .faddr 0 (.tmp 4), none, 0, false, false, none⟩,
   ⟨(some 87), .load1 (.tmp 86), none, 0, false, false, none⟩,
   ⟨(some 88), .faddr 3 (.tmp 7), none, 0, false, false, none⟩,
   ⟨(some 89), .load1 (.tmp 88), none, 0, false, false, none⟩,
   ⟨(some 90), .iaddr 3 (.tmp 87) (.tmp 89), none, 0, false, false, none⟩,
   ⟨(some 91), .loadN 3 (.tmp 90), none, 0, false, false, none⟩,
   ⟨(some 12), .box (.const (.agg [(.int .i64 0), (.int .i64 0), (.int .i64 0)])), none, 0, false, false, none⟩,
   ⟨none, .store 3 (.tmp 12) (.tmp 91), none, 0, true, false, none⟩])
 (.seq (.reg [
   ⟨(some 92), .faddr 1 (.tmp 9), none, 0, false, false, none⟩,
   ⟨(some 93), .load1 (.tmp 92), none, 0, false, false, none⟩,
   ⟨(some 94), .mv (.tmp 11), none, 0, false, false, none⟩,
   ⟨(some 95), .eql (.b .int) false (.tmp 93) (.tmp 94), none, 0, false, false, none⟩,
   ⟨(some 96), .mv (.tmp 95), none, 0, false, false, none⟩,
   ⟨(some 97), .faddr 1 (.tmp 12), (some (96, true)), 0, false, false, none⟩,
   ⟨(some 98), .load1 (.tmp 97), (some (96, true)), 0, false, false, none⟩,
   ⟨(some 99), .eql (.b .int) false (.tmp 98) (.const (.int .i64 2)), (some (96, true)), 0, false, false, none⟩,
   ⟨(some 100), .pick (.tmp 96) (.tmp 99) (.const (.bool false)), none, 0, false, false, none⟩,
   ⟨(some 101), .mv (.tmp 100), none, 0, false, false, none⟩,
   ⟨(some 102), .mv (.tmp 2), (some (101, true)), 0, false, false, none⟩,
   ⟨(some 103), .faddr 3 (.tmp 7), (some (101, true)), 0, false, false, none⟩,
   ⟨(some 104), .load1 (.tmp 103), (some (101, true)), 0, false, false, none⟩,
   ⟨(some 105), .mv (.tmp 1), (some (101, true)), 0, false, false, none⟩,
   ⟨(some 106), .faddr 0 (.tmp 9), (some (101, true)), 0, false, false, none⟩,
   ⟨(some 107), .load1 (.tmp 106), (some (101, true)), 0, false, false, none⟩,
   ⟨(some 108), .lookup (.b .int) (.int .i64 0) (.tmp 105) (.tmp 107) false, (some (101, true)), 0, false, false, none⟩,
   ⟨(some 109), .build [(.int .i64 0), (.int .i64 0)] [(0, 1, (.tmp 104)), (1, 1, (.tmp 108))], (some (101, true)), 0, false, false, none⟩,
   ⟨(some 110), .lookup (.st [.int, .int]) (.bool false) (.tmp 102) (.tmp 109) false, (some (101, true)), 0, false, false, none⟩,
   ⟨(some 111), .pick (.tmp 101) (.tmp 110) (.const (.bool false)), none, 0, false, false, none⟩,
   ⟨(some 112), .mv (.tmp 111), none, 0, false, false, none⟩,
   ⟨(some 113), .faddr 0 (.tmp 10), (some (112, true)), 0, false, false, none⟩,
   ⟨(some 114), .load1 (.tmp 113), (some (112, true)), 0, false, false, none⟩,
   ⟨(some 115), .faddr 0 (.tmp 12), (some (112, true)), 0, false, false, none⟩,
   ⟨(some 116), .load1 (.tmp 115), (some (112, true)), 0, false, false, none⟩,
   ⟨(some 117), .eql (.b .int) false (.tmp 114) (.tmp 116), (some (112, true)), 0, false, false, none⟩,
   ⟨(some 118), .pick (.tmp 112) (.tmp 117) (.const (.bool false)), none, 0, false, false, none⟩,
   ⟨(some 119), .mv (.tmp 118), none, 0, false, false, none⟩,
   ⟨(some 120), .faddr 1 (.tmp 10), (some (119, true)), 0, false, false, none⟩,
   ⟨(some 121), .load1 (.tmp 120), (some (119, true)), 0, false, false, none⟩,
   ⟨(some 122), .eql (.b .int) true (.tmp 121) (.const (.int .i64 1)), (some (119, true)), 0, false, false, none⟩,
   ⟨(some 123), .pick (.tmp 119) (.tmp 122) (.const (.bool false)), none, 0, false, false, none⟩,
   ⟨(some 8), .mv (.tmp 123), none, 0, false, false, none⟩])
 .ret)))))))
theorem x_matches : tblX Tryz.prog X0 32 = some (.fn ⟨124, [(8, none)], s_matches.den⟩) := by kernel_rfl
def s_PCheck : SC := (.seq (.reg [
   ⟨(some 1), .box (.tmp 0), none, 0, false, false, none⟩,
   ⟨(some 2), .mv (.const (.int .i64 0)), none, 0, false, false, none⟩])
 (.seq (.seq (.reg [
   ⟨(some 13), .faddr 0 (.tmp 1), none, 0, false, false, none⟩,
   ⟨(some 14), .load1 (.tmp 13), none, 0, false, false, none⟩,
   ⟨(some 15), .lenL (.tmp 14), none, 0, false, false, none⟩,
   ⟨(some 16), .ints .gtr (.tmp 15) (.const (.int .i64 8192)), none, 0, false, false, none⟩,
   ⟨(some 17), .mv (.tmp 16), none, 0, false, false, none⟩,
   ⟨(some 18), .faddr 1 (.tmp 1), (some (17, false)), 0, false, false, none⟩,
   ⟨(some 19), .load1 (.tmp 18), (some (17, false)), 0, false, false, none⟩,
   ⟨(some 20), .lenL (.tmp 19), (some (17, false)), 0, false, false, none⟩,
   ⟨(some 21), .ints .gtr (.tmp 20) (.const (.int .i64 32768)), (some (17, false)), 0, false, false, none⟩,
   ⟨(some 22), .pick (.tmp 17) (.const (.bool true)) (.tmp 21), none, 0, false, false, none⟩])
 (.cond (.tmp 22)
  (.seq (.reg [
     ⟨(some 2), .mv (.const (.int .i64 3)), none, 0, false, false, none⟩])
   .ret)
  .skip))
 (.seq (.seq (.reg [
   ⟨(some 23), .faddr 0 (.tmp 1), none, 0, false, false, none⟩,
   ⟨(some 24), .load1 (.tmp 23), none, 0, false, false, none⟩,
   ⟨(some 25), .lenL (.tmp 24), none, 0, false, false, none⟩,
   ⟨(some 26), .mv (.const (.int .i64 0)), none, 0, false, false, none⟩])
 (.block 0
  (.loop
   (.seq (.reg [
     ⟨(some 27), .ints .lss (.tmp 26) (.tmp 25), none, 0, false, false, none⟩])
   (.seq (.cond (.tmp 27)
    .skip
    (.exit 0))
   (.seq (.block 1
    (.seq (.reg [
      ⟨(some 28), .mv (.tmp 26), none, 0, false, false, none⟩,
      ⟨(some 29), .iaddr 3 (.tmp 24) (.tmp 26), none, 0, false, false, none⟩,
      ⟨(some 30), .loadN 3 (.tmp 29), none, 0, false, false, none⟩,
      ⟨(some 4), .box (.const (.agg [(.int .i64 0), (.int .i64 0), (.int .i64 0)])), none, 0, false, false, none⟩,
      ⟨(some 3), .mv (.tmp 28), none, 0, false, false, none⟩,
      ⟨none, .store 3 (.tmp 4) (.tmp 30), none, 0, true, false, none⟩])
    (.seq (.seq (.reg [
      ⟨(some 31), .faddr 1 (.tmp 4), none, 0, false, false, none⟩,
      ⟨(some 32), .load1 (.tmp 31), none, 0, false, false, none⟩,
      ⟨(some 33), .ints .lss (.tmp 32) (.const (.int .i64 1)), none, 0, false, false, none⟩,
      ⟨(some 34), .mv (.tmp 33), none, 0, false, false, none⟩,
      ⟨(some 35), .faddr 1 (.tmp 4), (some (34, false)), 0, false, false, none⟩,
      ⟨(some 36), .load1 (.tmp 35), (some (34, false)), 0, false, false, none⟩,
      ⟨(some 37), .ints .gtr (.tmp 36) (.const (.int .i64 4)), (some (34, false)), 0, false, false, none⟩,
      ⟨(some 38), .pick (.tmp 34) (.const (.bool true)) (.tmp 37), none, 0, false, false, none⟩])
    (.cond (.tmp 38)
     (.seq (.reg [
        ⟨(some 2), .mv (.const (.int .i64 12)), none, 0, false, false, none⟩])
      .ret)
     .skip))
    (.seq (.seq (.reg [
      ⟨(some 39), .faddr 0 (.tmp 4), none, 0, false, false, none⟩,
      ⟨(some 40), .load1 (.tmp 39), none, 0, false, false, none⟩,
      ⟨(some 41), .ints .lss (.tmp 40) (.const (.int .i64 0)), none, 0, false, false, none⟩,
      ⟨(some 42), .mv (.tmp 41), none, 0, false, false, none⟩,
      ⟨(some 43), .faddr 1 (.tmp 4), (some (42, false)), 0, false, false, none⟩,
      ⟨(some 44), .load1 (.tmp 43), (some (42, false)), 0, false, false, none⟩,
      ⟨(some 45), .eql (.b .int) false (.tmp 44) (.const (.int .i64 2)), (some (42, false)), 0, false, false, none⟩,
      ⟨(some 46), .mv (.tmp 45), (some (42, false)), 0, false, false, none⟩,
      ⟨(some 47), .faddr 2 (.tmp 4), (some (46, true)), 0, false, false, none⟩,
      ⟨(some 48), .load1 (.tmp 47), (some (46, true)), 0, false, false, none⟩,
      ⟨(some 49), .ints .lss (.tmp 48) (.const (.int .i64 0)), (some (46, true)), 0, false, false, none⟩,
      ⟨(some 50), .pick (.tmp 46) (.tmp 49) (.const (.bool false)), (some (42, false)), 0, false, false, none⟩,
      ⟨(some 51), .pick (.tmp 42) (.const (.bool true)) (.tmp 50), none, 0, false, false, none⟩,
      ⟨(some 52), .mv (.tmp 51), none, 0, false, false, none⟩,
      ⟨(some 53), .faddr 1 (.tmp 4), (some (52, false)), 0, false, false, none⟩,
      ⟨(some 54), .load1 (.tmp 53), (some (52, false)), 0, false, false, none⟩,
      ⟨(some 55), .eql (.b .int) true (.tmp 54) (.const (.int .i64 2)), (some (52, false)), 0, false, false, none⟩,
      ⟨(some 56), .mv (.tmp 55), (some (52, false)), 0, false, false, none⟩,
      ⟨(some 57), .faddr 2 (.tmp 4), (some (56, true)), 0, false, false, none⟩,
      ⟨(some 58), .load1 (.tmp 57), (some (56, true)), 0, false, false, none⟩,
      ⟨(some 59), .eql (.b .int) true (.tmp 58) (.const (.int .i64 (-1))), (some (56, true)), 0, false, false, none⟩,
      ⟨(some 60), .pick (.tmp 56) (.tmp 59) (.const (.bool false)), (some (52, false)), 0, false, false, none⟩,
      ⟨(some 61), .pick (.tmp 52) (.const (.bool true)) (.tmp 60), none, 0, false, false, none⟩])
    (.cond (.tmp 61)
     (.seq (.reg [
        ⟨(some 2), .mv (.const (.int .i64 4)), none, 0, false, false, none⟩])
      .ret)
     .skip))
    (.seq (.dreg [
      ⟨(some 62), .mv (.tmp 3), none, 0, false, false, none⟩,
      ⟨(some 63), .ints .gtr (.tmp 62) (.const (.int .i64 0)), none, 1, false, false, none⟩,
      ⟨(some 64), .mv (.tmp 63), none, 3, false, false, none⟩,
      ⟨(some 65), .faddr 0 (.tmp 1), (some (64, true)), 7, false, false, none⟩,
      ⟨(some 66), .load1 (.tmp 65), (some (64, true)), 15, false, false, (some (.tmp 65))⟩,
      ⟨(some 67), .mv (.tmp 3), (some (64, true)), 7, false, false, none⟩,
      ⟨(some 68), .ints .sub (.tmp 67) (.const (.int .i64 1)), (some (64, true)), 39, false, false, none⟩,
      ⟨(some 69), .iaddr 3 (.tmp 66) (.tmp 68), (some (64, true)), 127, false, false, none⟩,
      ⟨(some 70), .loadN 3 (.tmp 69), (some (64, true)), 255, false, false, (some (.tmp 69))⟩,
      ⟨(some 71), .loadN 3 (.tmp 4), (some (64, true)), 7, false, false, (some (.tmp 4))⟩,
      ⟨(some 72), .call (.const (.fn 28 [])) [(.tmp 70), (.tmp 71)], (some (64, true)), 1023, true, true, none⟩,
      ⟨(some 73), .ints .geq (.tmp 72) (.const (.int .i64 0)), (some (64, true)), 2047, false, false, none⟩,
      ⟨(some 74), .pick (.tmp 64) (.tmp 73) (.const (.bool false)), none, 4095, false, false, none⟩])
    (.cond (.tmp 74)
     (.seq (.reg [
        ⟨(some 2), .mv (.const (.int .i64 13)), none, 0, false, false, none⟩])
      .ret)
     .skip))))))
   (.reg [
     ⟨(some 75), .ints .add (.tmp 26) (.const (.int .i64 1)), none, 0, false, false, none⟩,
     ⟨(some 26), .mv (.tmp 75), none, 0, false, false, none⟩])))))))
 (.seq (.reg [
   ⟨(some 77), .loadN 3 (.tmp 1), none, 0, false, false, none⟩,
   ⟨(some 78), .call (.const (.fn 29 [])) [(.tmp 77)], none, 0, true, false, none⟩,
   ⟨(some 76), .mv (.tmp 78), none, 0, false, false, none⟩,
   ⟨(some 79), .extr (.tmp 76) 0, none, 0, false, false, none⟩,
   ⟨(some 80), .extr (.tmp 76) 1, none, 0, false, false, none⟩,
   ⟨(some 5), .mv (.tmp 79), none, 0, false, false, none⟩,
   ⟨(some 6), .mv (.tmp 80), none, 0, false, false, none⟩])
 (.seq (.seq (.reg [
   ⟨(some 81), .mv (.tmp 6), none, 0, false, false, none⟩,
   ⟨(some 82), .not (.tmp 81), none, 0, false, false, none⟩])
 (.cond (.tmp 82)
  (.seq (.reg [
     ⟨(some 2), .mv (.const (.int .i64 1)), none, 0, false, false, none⟩])
   .ret)
  .skip))
 (.seq (.seq (.reg [
   ⟨(some 83), .faddr 2 (.tmp 1), none, 0, false, false, none⟩,
   ⟨(some 84), .load1 (.tmp 83), none, 0, false, false, none⟩,
   ⟨(some 85), .ints .lss (.tmp 84) (.const (.int .i64 0)), none, 0, false, false, none⟩,
   ⟨(some 86), .mv (.tmp 85), none, 0, false, false, none⟩,
   ⟨(some 87), .faddr 2 (.tmp 1), (some (86, false)), 0, false, false, none⟩,
   ⟨(some 88), .load1 (.tmp 87), (some (86, false)), 0, false, false, none⟩,
   ⟨(some 89), .faddr 0 (.tmp 1), (some (86, false)), 0, false, false, none⟩,
   ⟨(some 90), .load1 (.tmp 89), (some (86, false)), 0, false, false, none⟩,
   ⟨(some 91), .lenL (.tmp 90), (some (86, false)), 0, false, false, none⟩,
   ⟨(some 92), .ints .geq (.tmp 88) (.tmp 91), (some (86, false)), 0, false, false, none⟩,
   ⟨(some 93), .pick (.tmp 86) (.const (.bool true)) (.tmp 92), none, 0, false, false, none⟩,
   ⟨(some 94), .mv (.tmp 93), none, 0, false, false, none⟩,
   ⟨(some 95), .faddr 0 (.tmp 1), (some (94, false)), 0, false, false, none⟩,
   ⟨(some 96), .load1 (.tmp 95), (some (94, false)), 0, false, false, none⟩,
   ⟨(some 97), .faddr 2 (.tmp 1), (some (94, false)), 0, false, false, none⟩,
   ⟨(some 98), .load1 (.tmp 97), (some (94, false)), 0, false, false, none⟩,
   ⟨(some 99), .iaddr 3 (.tmp 96) (.tmp 98), (some (94, false)), 0, false, false, none⟩,
   ⟨(some 100), .faddr 1 (.tmp 99), (some (94, false)), 0, false, false, none⟩,
   ⟨(some 101), .load1 (.tmp 100), (some (94, false)), 0, false, false, none⟩,
   ⟨(some 102), .eql (.b .int) true (.tmp 101) (.const (.int .i64 1)), (some (94, false)), 0, false, false, none⟩,
   ⟨(some 103), .pick (.tmp 94) (.const (.bool true)) (.tmp 102), none, 0, false, false, none⟩])
 (.cond (.tmp 103)
  (.seq (.reg [
     ⟨(some 2), .mv (.const (.int .i64 14)), none, 0, false, false, none⟩])
   .ret)
  .skip))
 (.seq (.reg [
   ⟨(some 104), .mkmap, none, 0, false, false, none⟩,
   ⟨(some 7), .mv (.tmp 104), none, 0, false, false, none⟩])
 (.seq (.seq (.reg [
   ⟨(some 105), .faddr 1 (.tmp 1), none, 0, false, false, none⟩,
   ⟨(some 106), .load1 (.tmp 105), none, 0, false, false, none⟩,
   ⟨(some 107), .lenL (.tmp 106), none, 0, false, false, none⟩,
   ⟨(some 108), .mv (.const (.int .i64 0)), none, 0, false, false, none⟩])
 (.block 2
  (.loop
   (.seq (.reg [
     ⟨(some 109), .ints .lss (.tmp 108) (.tmp 107), none, 0, false, false, none⟩])
   (.seq (.cond (.tmp 109)
    .skip
    (.exit 2))
   (.seq (.block 3
    (.seq (.reg [
      ⟨(some 110), .iaddr 4 (.tmp 106) (.tmp 108), none, 0, false, false, none⟩,
      ⟨(some 111), .loadN 4 (.tmp 110), none, 0, false, false, none⟩,
      ⟨(some 9), .box (.const (.agg [(.int .i64 0), (.int .i64 0), (.int .i64 0), (.int .i64 0)])), none, 0, false, false, none⟩,
      ⟨none, .store 4 (.tmp 9) (.tmp 111), none, 0, true, false, none⟩])
    (.seq (.reg [
      ⟨(some 112), .faddr 2 (.tmp 9), none, 0, false, false, none⟩,
      ⟨(some 113), .load1 (.tmp 112), none, 0, false, false, none⟩,
      ⟨(some 114), .eql (.b .int) false (.tmp 113) (.const (.int .i64 2)), none, 0, false, false, none⟩])
    (.cond (.tmp 114)
     (.reg [
        ⟨(some 115), .mv (.tmp 7), none, 0, false, false, none⟩,
        ⟨(some 116), .faddr 0 (.tmp 9), none, 0, false, false, none⟩,
        ⟨(some 117), .load1 (.tmp 116), none, 0, false, false, none⟩,
        ⟨(some 118), .faddr 1 (.tmp 9), none, 0, false, false, none⟩,
        ⟨(some 119), .load1 (.tmp 118), none, 0, false, false, none⟩,
        ⟨(some 120), .build [(.int .i64 0), (.int .i64 0)] [(0, 1, (.tmp 117)), (1, 1, (.tmp 119))], none, 0, false, false, none⟩,
        ⟨none, .mapup (.st [.int, .int]) (.tmp 115) (.tmp 120) (.const (.bool true)), none, 0, true, false, none⟩])
     .skip))))
   (.reg [
     ⟨(some 121), .ints .add (.tmp 108) (.const (.int .i64 1)), none, 0, false, false, none⟩,
     ⟨(some 108), .mv (.tmp 121), none, 0, false, false, none⟩])))))))
 (.seq (.seq (.reg [
   ⟨(some 122), .faddr 1 (.tmp 1), none, 0, false, false, none⟩,
   ⟨(some 123), .load1 (.tmp 122), none, 0, false, false, none⟩,
   ⟨(some 124), .lenL (.tmp 123), none, 0, false, false, none⟩,
   ⟨(some 125), .mv (.const (.int .i64 0)), none, 0, false, false, none⟩])
 (.block 4
  (.loop
   (.seq (.reg [
     ⟨(some 126), .ints .lss (.tmp 125) (.tmp 124), none, 0, false, false, none⟩])
   (.seq (.cond (.tmp 126)
    .skip
    (.exit 4))
   (.seq (.block 5
    (.seq (.reg [
      ⟨(some 127), .mv (.tmp 125), none, 0, false, false, none⟩,
      ⟨(some 128), .iaddr 4 (.tmp 123) (.tmp 125), none, 0, false, false, none⟩,
      ⟨(some 129), .loadN 4 (.tmp 128), none, 0, false, false, none⟩,
      ⟨(some 11), .box (.const (.agg [(.int .i64 0), (.int .i64 0), (.int .i64 0), (.int .i64 0)])), none, 0, false, false, none⟩,
      ⟨(some 10), .mv (.tmp 127), none, 0, false, false, none⟩,
      ⟨none, .store 4 (.tmp 11) (.tmp 129), none, 0, true, false, none⟩])
    (.seq (.seq (.reg [
      ⟨(some 130), .loadN 3 (.tmp 1), none, 0, false, false, none⟩,
      ⟨(some 131), .loadN 4 (.tmp 11), none, 0, false, false, none⟩,
      ⟨(some 132), .call (.const (.fn 30 [])) [(.tmp 130), (.tmp 131)], none, 0, true, false, none⟩,
      ⟨(some 12), .mv (.tmp 132), none, 0, false, false, none⟩])
    (.seq (.reg [
      ⟨(some 133), .mv (.tmp 12), none, 0, false, false, none⟩,
      ⟨(some 134), .eql (.b .int) true (.tmp 133) (.const (.int .i64 0)), none, 0, false, false, none⟩])
    (.cond (.tmp 134)
     (.seq (.reg [
        ⟨(some 135), .mv (.tmp 12), none, 0, false, false, none⟩,
        ⟨(some 2), .mv (.tmp 135), none, 0, false, false, none⟩])
      .ret)
     .skip)))
    (.seq (.seq (.dreg [
      ⟨(some 136), .mv (.tmp 10), none, 0, false, false, none⟩,
      ⟨(some 137), .ints .gtr (.tmp 136) (.const (.int .i64 0)), none, 1, false, false, none⟩,
      ⟨(some 138), .mv (.tmp 137), none, 3, false, false, none⟩,
      ⟨(some 139), .faddr 1 (.tmp 1), (some (138, true)), 7, false, false, none⟩,
      ⟨(some 140), .load1 (.tmp 139), (some (138, true)), 15, false, false, (some (.tmp 139))⟩,
      ⟨(some 141), .mv (.tmp 10), (some (138, true)), 7, false, false, none⟩,
      ⟨(some 142), .ints .sub (.tmp 141) (.const (.int .i64 1)), (some (138, true)), 39, false, false, none⟩,
      ⟨(some 143), .iaddr 4 (.tmp 140) (.tmp 142), (some (138, true)), 127, false, false, none⟩,
      ⟨(some 144), .loadN 4 (.tmp 143), (some (138, true)), 255, false, false, (some (.tmp 143))⟩,
      ⟨(some 145), .loadN 4 (.tmp 11), (some (138, true)), 7, false, false, (some (.tmp 11))⟩,
      ⟨(some 146), .call (.const (.fn 31 [])) [(.tmp 144), (.tmp 145)], (some (138, true)), 1023, true, true, none⟩,
      ⟨(some 147), .ints .geq (.tmp 146) (.const (.int .i64 0)), (some (138, true)), 2047, false, false, none⟩,
      ⟨(some 148), .pick (.tmp 138) (.tmp 147) (.const (.bool false)), none, 4095, false, false, none⟩])
    (.cond (.tmp 148)
     (.seq (.reg [
        ⟨(some 2), .mv (.const (.int .i64 13)), none, 0, false, false, none⟩])
      .ret)
     .skip))
    (.seq (.reg [
      ⟨(some 149), .loadN 3 (.tmp 1), none, 0, false, false, none⟩,
      ⟨(some 150), .mv (.tmp 5), none, 0, false, false, none⟩,
      ⟨(some 151), .mv (.tmp 7), none, 0, false, false, none⟩,
      ⟨(some 152), .loadN 4 (.tmp 11), none, 0, false, false, none⟩,
      ⟨(some 153), .call (.const (.fn 32 [])) [(.tmp 149), (.tmp 150), (.tmp 151), (.tmp 152)], none, 0, true, false, none⟩,
      ⟨(some 154), .not (.tmp 153), none, 0, false, false, none⟩])
    (.cond (.tmp 154)
     (.seq (.reg [
        ⟨(some 2), .mv (.const (.int .i64 20)), none, 0, false, false, none⟩])
      .ret)
     .skip))))))
   (.reg [
     ⟨(some 155), .ints .add (.tmp 125) (.const (.int .i64 1)), none, 0, false, false, none⟩,
     ⟨(some 125), .mv (.tmp 155), none, 0, false, false, none⟩])))))))
 (.seq (.reg [
   ⟨(some 2), .mv (.const (.int .i64 0)), none, 0, false, false, none⟩])
 .ret))))))))))
theorem x_PCheck : tblX Tryz.prog X0 11 = some (.fn ⟨156, [(2, none)], s_PCheck.den⟩) := by kernel_rfl
def s_tnode : SC := (.seq (.reg [
   ⟨(some 8), .mv (.const (.int .i64 0)), none, 0, false, false, none⟩])
 (.seq (.seq (.reg [
   ⟨(some 12), .mv (.tmp 0), none, 0, false, false, none⟩,
   ⟨(some 13), .nilc (.tmp 12), none, 0, false, false, none⟩,
   ⟨(some 14), .faddr 4 (.tmp 13), none, 0, false, false, none⟩,
   ⟨(some 15), .load1 (.tmp 14), none, 0, false, false, none⟩,
   ⟨(some 16), .mv (.tmp 1), none, 0, false, false, none⟩,
   ⟨(some 17), .mv (.tmp 2), none, 0, false, false, none⟩,
   ⟨(some 18), .mv (.tmp 3), none, 0, false, false, none⟩,
   ⟨(some 19), .build [(.int .i64 0), (.int .i64 0), (.int .i64 0)] [(0, 1, (.tmp 16)), (1, 1, (.tmp 17)), (2, 1, (.tmp 18))], none, 0, false, false, none⟩,
   ⟨(some 20), .lookup (.st [.int, .int, .int]) (.int .i64 0) (.tmp 15) (.tmp 19) true, none, 0, false, false, none⟩,
   ⟨(some 11), .mv (.tmp 20), none, 0, false, false, none⟩,
   ⟨(some 21), .extr (.tmp 11) 0, none, 0, false, false, none⟩,
   ⟨(some 22), .extr (.tmp 11) 1, none, 0, false, false, none⟩,
   ⟨(some 9), .mv (.tmp 21), none, 0, false, false, none⟩,
   ⟨(some 10), .mv (.tmp 22), none, 0, false, false, none⟩])
 (.seq (.reg [
   ⟨(some 23), .mv (.tmp 10), none, 0, false, false, none⟩])
 (.cond (.tmp 23)
  (.seq (.reg [
     ⟨(some 24), .mv (.tmp 9), none, 0, false, false, none⟩,
     ⟨(some 8), .mv (.tmp 24), none, 0, false, false, none⟩])
   .ret)
  .skip)))
 (.seq (.reg [
   ⟨(some 8), .mv (.const (.int .i64 (-1))), none, 0, false, false, none⟩])
 .ret)))
theorem x_tnode : tblX Tryz.prog X0 35 = some (.fn ⟨25, [(8, none)], s_tnode.den⟩) := by kernel_rfl
def s_tat : SC := (.seq (.reg [
   ⟨(some 4), .mv (.const (.int .i64 0)), none, 0, false, false, none⟩])
 (.seq (.dreg [
   ⟨(some 5), .mv (.tmp 0), none, 0, false, false, none⟩,
   ⟨(some 6), .mv (.tmp 0), none, 0, false, false, none⟩,
   ⟨(some 7), .nilc (.tmp 6), none, 2, false, false, none⟩,
   ⟨(some 8), .faddr 3 (.tmp 7), none, 6, false, false, none⟩,
   ⟨(some 9), .load1 (.tmp 8), none, 14, false, false, (some (.tmp 8))⟩,
   ⟨(some 10), .mv (.tmp 1), none, 0, false, false, none⟩,
   ⟨(some 11), .iaddr 5 (.tmp 9) (.tmp 10), none, 62, false, false, none⟩,
   ⟨(some 12), .faddr 0 (.tmp 11), none, 126, false, false, none⟩,
   ⟨(some 13), .load1 (.tmp 12), none, 254, false, false, (some (.tmp 12))⟩,
   ⟨(some 14), .mv (.tmp 0), none, 0, false, false, none⟩,
   ⟨(some 15), .nilc (.tmp 14), none, 512, false, false, none⟩,
   ⟨(some 16), .faddr 3 (.tmp 15), none, 1536, false, false, none⟩,
   ⟨(some 17), .load1 (.tmp 16), none, 3584, false, false, (some (.tmp 16))⟩,
   ⟨(some 18), .mv (.tmp 1), none, 0, false, false, none⟩,
   ⟨(some 19), .iaddr 5 (.tmp 17) (.tmp 18), none, 15872, false, false, none⟩,
   ⟨(some 20), .faddr 1 (.tmp 19), none, 32256, false, false, none⟩,
   ⟨(some 21), .load1 (.tmp 20), none, 65024, false, false, (some (.tmp 20))⟩,
   ⟨(some 22), .call (.const (.fn 35 [])) [(.tmp 5), (.tmp 13), (.const (.int .i64 2)), (.tmp 21)], none, 131071, true, true, none⟩,
   ⟨(some 4), .mv (.tmp 22), none, 262143, false, false, none⟩])
 .ret))
theorem x_tat : tblX Tryz.prog X0 33 = some (.fn ⟨23, [(4, none)], s_tat.den⟩) := by kernel_rfl
def s_thas : SC := (.seq (.reg [
   ⟨(some 10), .mv (.const (.bool false)), none, 0, false, false, none⟩])
 (.seq (.reg [
   ⟨(some 14), .mv (.tmp 0), none, 0, false, false, none⟩,
   ⟨(some 15), .nilc (.tmp 14), none, 0, false, false, none⟩,
   ⟨(some 16), .faddr 5 (.tmp 15), none, 0, false, false, none⟩,
   ⟨(some 17), .load1 (.tmp 16), none, 0, false, false, none⟩,
   ⟨(some 18), .mv (.tmp 1), none, 0, false, false, none⟩,
   ⟨(some 19), .mv (.tmp 2), none, 0, false, false, none⟩,
   ⟨(some 20), .mv (.tmp 3), none, 0, false, false, none⟩,
   ⟨(some 21), .mv (.tmp 4), none, 0, false, false, none⟩,
   ⟨(some 22), .build [(.int .i64 0), (.int .i64 0), (.int .i64 0), (.int .i64 0)] [(0, 1, (.tmp 18)), (1, 1, (.tmp 19)), (2, 1, (.tmp 20)), (3, 1, (.tmp 21))], none, 0, false, false, none⟩,
   ⟨(some 23), .lookup (.st [.int, .int, .int, .int]) (.int .i64 0) (.tmp 17) (.tmp 22) true, none, 0, false, false, none⟩,
   ⟨(some 13), .mv (.tmp 23), none, 0, false, false, none⟩,
   ⟨(some 24), .extr (.tmp 13) 0, none, 0, false, false, none⟩,
   ⟨(some 25), .extr (.tmp 13) 1, none, 0, false, false, none⟩,
   ⟨(some 11), .mv (.tmp 24), none, 0, false, false, none⟩,
   ⟨(some 12), .mv (.tmp 25), none, 0, false, false, none⟩])
 (.seq (.reg [
   ⟨(some 26), .mv (.tmp 12), none, 0, false, false, none⟩,
   ⟨(some 10), .mv (.tmp 26), none, 0, false, false, none⟩])
 .ret)))
theorem x_thas : tblX Tryz.prog X0 57 = some (.fn ⟨27, [(10, none)], s_thas.den⟩) := by kernel_rfl
def s_ttake : SC := (.seq (.reg [
   ⟨(some 13), .mv (.tmp 0), none, 0, false, false, none⟩,
   ⟨(some 14), .nilc (.tmp 13), none, 0, false, false, none⟩,
   ⟨(some 15), .faddr 5 (.tmp 14), none, 0, false, false, none⟩,
   ⟨(some 16), .load1 (.tmp 15), none, 0, false, false, none⟩,
   ⟨(some 17), .mv (.tmp 1), none, 0, false, false, none⟩,
   ⟨(some 18), .mv (.tmp 2), none, 0, false, false, none⟩,
   ⟨(some 19), .mv (.tmp 3), none, 0, false, false, none⟩,
   ⟨(some 20), .mv (.tmp 4), none, 0, false, false, none⟩,
   ⟨(some 21), .build [(.int .i64 0), (.int .i64 0), (.int .i64 0), (.int .i64 0)] [(0, 1, (.tmp 17)), (1, 1, (.tmp 18)), (2, 1, (.tmp 19)), (3, 1, (.tmp 20))], none, 0, false, false, none⟩,
   ⟨(some 22), .lookup (.st [.int, .int, .int, .int]) (.int .i64 0) (.tmp 16) (.tmp 21) true, none, 0, false, false, none⟩,
   ⟨(some 12), .mv (.tmp 22), none, 0, false, false, none⟩,
   ⟨(some 23), .extr (.tmp 12) 0, none, 0, false, false, none⟩,
   ⟨(some 24), .extr (.tmp 12) 1, none, 0, false, false, none⟩,
   ⟨(some 10), .mv (.tmp 23), none, 0, false, false, none⟩,
   ⟨(some 11), .mv (.tmp 24), none, 0, false, false, none⟩])
 (.seq (.reg [
   ⟨(some 25), .mv (.tmp 11), none, 0, false, false, none⟩])
 (.cond (.tmp 25)
  (.reg [
     ⟨(some 26), .mv (.tmp 0), none, 0, false, false, none⟩,
     ⟨(some 27), .mv (.tmp 0), none, 0, false, false, none⟩,
     ⟨(some 28), .nilc (.tmp 27), none, 0, false, false, none⟩,
     ⟨(some 29), .faddr 7 (.tmp 28), none, 0, false, false, none⟩,
     ⟨(some 30), .load1 (.tmp 29), none, 0, false, false, none⟩,
     ⟨(some 31), .mv (.tmp 10), none, 0, false, false, none⟩,
     ⟨(some 32), .bslice 1 [(.int .i64 0)] [(0, 1, (.tmp 31))], none, 0, false, false, none⟩,
     ⟨(some 33), .append 1 (.tmp 30) (.tmp 32), none, 0, true, false, none⟩,
     ⟨(some 34), .nilc (.tmp 26), none, 0, false, false, none⟩,
     ⟨(some 35), .faddr 7 (.tmp 34), none, 0, false, false, none⟩,
     ⟨none, .store 1 (.tmp 35) (.tmp 33), none, 0, true, false, none⟩])
  (.reg [
     ⟨(some 36), .mv (.tmp 0), none, 0, false, false, none⟩,
     ⟨(some 37), .nilc (.tmp 36), none, 0, false, false, none⟩,
     ⟨(some 38), .faddr 8 (.tmp 37), none, 0, false, false, none⟩,
     ⟨none, .store 1 (.tmp 38) (.const (.bool true)), none, 0, true, false, none⟩]))))
theorem x_ttake : tblX Tryz.prog X0 34 = some (.fn ⟨39, [], s_ttake.den⟩) := by kernel_rfl
def s_tleave : SC := (.seq (.reg [
   ⟨(some 15), .mv (.tmp 0), none, 0, false, false, none⟩,
   ⟨(some 16), .mv (.tmp 1), none, 0, false, false, none⟩,
   ⟨(some 17), .ints .sub (.tmp 16) (.const (.int .i64 1)), none, 0, false, false, none⟩,
   ⟨(some 18), .call (.const (.fn 33 [])) [(.tmp 15), (.tmp 17)], none, 0, true, false, none⟩,
   ⟨(some 19), .mv (.tmp 0), none, 0, false, false, none⟩,
   ⟨(some 20), .mv (.tmp 1), none, 0, false, false, none⟩,
   ⟨(some 21), .call (.const (.fn 33 [])) [(.tmp 19), (.tmp 20)], none, 0, true, false, none⟩,
   ⟨(some 6), .mv (.tmp 18), none, 0, false, false, none⟩,
   ⟨(some 7), .mv (.tmp 21), none, 0, false, false, none⟩])
 (.seq (.reg [
   ⟨(some 22), .mv (.tmp 0), none, 0, false, false, none⟩,
   ⟨(some 23), .nilc (.tmp 22), none, 0, false, false, none⟩,
   ⟨(some 24), .faddr 3 (.tmp 23), none, 0, false, false, none⟩,
   ⟨(some 25), .load1 (.tmp 24), none, 0, false, false, none⟩,
   ⟨(some 26), .mv (.tmp 1), none, 0, false, false, none⟩,
   ⟨(some 27), .ints .sub (.tmp 26) (.const (.int .i64 1)), none, 0, false, false, none⟩,
   ⟨(some 28), .iaddr 5 (.tmp 25) (.tmp 27), none, 0, false, false, none⟩,
   ⟨(some 29), .faddr 0 (.tmp 28), none, 0, false, false, none⟩,
   ⟨(some 30), .load1 (.tmp 29), none, 0, false, false, none⟩,
   ⟨(some 8), .mv (.tmp 30), none, 0, false, false, none⟩])
 (.seq (.reg [
   ⟨(some 31), .mv (.tmp 0), none, 0, false, false, none⟩,
   ⟨(some 32), .nilc (.tmp 31), none, 0, false, false, none⟩,
   ⟨(some 33), .faddr 6 (.tmp 32), none, 0, false, false, none⟩,
   ⟨(some 34), .load1 (.tmp 33), none, 0, false, false, none⟩,
   ⟨(some 35), .lenL (.tmp 34), none, 0, false, false, none⟩,
   ⟨(some 36), .ints .sub (.tmp 35) (.const (.int .i64 1)), none, 0, false, false, none⟩,
   ⟨(some 9), .mv (.tmp 36), none, 0, false, false, none⟩])
 (.seq (.seq (.reg [
   ⟨(some 37), .mv (.tmp 2), none, 0, false, false, none⟩,
   ⟨(some 38), .mv (.tmp 9), none, 0, false, false, none⟩,
   ⟨(some 39), .ints .sub (.tmp 38) (.const (.int .i64 1)), none, 0, false, false, none⟩,
   ⟨(some 40), .eql (.b .int) false (.tmp 37) (.tmp 39), none, 0, false, false, none⟩])
 (.cond (.tmp 40)
  (.seq (.reg [
     ⟨(some 41), .mv (.tmp 0), none, 0, false, false, none⟩,
     ⟨(some 42), .mv (.tmp 8), none, 0, false, false, none⟩,
     ⟨(some 43), .call (.const (.fn 35 [])) [(.tmp 41), (.tmp 42), (.const (.int .i64 3)), (.const (.int .i64 (-1)))], none, 0, true, false, none⟩,
     ⟨(some 10), .mv (.tmp 43), none, 0, false, false, none⟩])
   (.seq (.reg [
     ⟨(some 44), .mv (.tmp 0), none, 0, false, false, none⟩,
     ⟨(some 45), .mv (.tmp 0), none, 0, false, false, none⟩,
     ⟨(some 46), .nilc (.tmp 45), none, 0, false, false, none⟩,
     ⟨(some 47), .faddr 6 (.tmp 46), none, 0, false, false, none⟩,
     ⟨(some 48), .load1 (.tmp 47), none, 0, false, false, none⟩,
     ⟨(some 49), .mv (.tmp 9), none, 0, false, false, none⟩,
     ⟨(some 50), .iaddr 2 (.tmp 48) (.tmp 49), none, 0, false, false, none⟩,
     ⟨(some 51), .faddr 1 (.tmp 50), none, 0, false, false, none⟩,
     ⟨(some 52), .load1 (.tmp 51), none, 0, false, false, none⟩,
     ⟨(some 53), .call (.const (.fn 33 [])) [(.tmp 44), (.tmp 52)], none, 0, true, false, none⟩,
     ⟨(some 11), .mv (.tmp 53), none, 0, false, false, none⟩])
   (.seq (.reg [
     ⟨(some 54), .mv (.tmp 0), none, 0, false, false, none⟩,
     ⟨(some 55), .mv (.tmp 6), none, 0, false, false, none⟩,
     ⟨(some 56), .mv (.tmp 10), none, 0, false, false, none⟩,
     ⟨(some 57), .call (.const (.fn 57 [])) [(.tmp 54), (.tmp 55), (.tmp 56), (.const (.int .i64 1)), (.const (.int .i64 (-1)))], none, 0, true, false, none⟩,
     ⟨(some 58), .mv (.tmp 57), none, 0, false, false, none⟩,
     ⟨(some 59), .mv (.tmp 0), (some (58, true)), 0, false, false, none⟩,
     ⟨(some 60), .mv (.tmp 10), (some (58, true)), 0, false, false, none⟩,
     ⟨(some 61), .mv (.tmp 7), (some (58, true)), 0, false, false, none⟩,
     ⟨(some 62), .mv (.tmp 11), (some (58, true)), 0, false, false, none⟩,
     ⟨(some 63), .call (.const (.fn 57 [])) [(.tmp 59), (.tmp 60), (.tmp 61), (.const (.int .i64 3)), (.tmp 62)], (some (58, true)), 0, true, false, none⟩,
     ⟨(some 64), .pick (.tmp 58) (.tmp 63) (.const (.bool false)), none, 0, false, false, none⟩])
   (.cond (.tmp 64)
    (.seq (.reg [
       ⟨(some 65), .mv (.tmp 0), none, 0, false, false, none⟩,
       ⟨(some 66), .mv (.tmp 6), none, 0, false, false, none⟩,
       ⟨(some 67), .mv (.tmp 10), none, 0, false, false, none⟩,
       ⟨(some 68), .call (.const (.fn 34 [])) [(.tmp 65), (.tmp 66), (.tmp 67), (.const (.int .i64 1)), (.const (.int .i64 (-1)))], none, 0, true, false, none⟩])
     (.seq (.reg [
       ⟨(some 69), .mv (.tmp 0), none, 0, false, false, none⟩,
       ⟨(some 70), .mv (.tmp 10), none, 0, false, false, none⟩,
       ⟨(some 71), .mv (.tmp 7), none, 0, false, false, none⟩,
       ⟨(some 72), .mv (.tmp 11), none, 0, false, false, none⟩,
       ⟨(some 73), .call (.const (.fn 34 [])) [(.tmp 69), (.tmp 70), (.tmp 71), (.const (.int .i64 3)), (.tmp 72)], none, 0, true, false, none⟩])
     .ret))
    .skip))))
  .skip))
 (.seq (.reg [
   ⟨(some 74), .mv (.tmp 0), none, 0, false, false, none⟩,
   ⟨(some 75), .mv (.tmp 8), none, 0, false, false, none⟩,
   ⟨(some 76), .call (.const (.fn 35 [])) [(.tmp 74), (.tmp 75), (.const (.int .i64 4)), (.const (.int .i64 (-1)))], none, 0, true, false, none⟩,
   ⟨(some 12), .mv (.tmp 76), none, 0, false, false, none⟩])
 (.seq (.reg [
   ⟨(some 77), .mv (.tmp 0), none, 0, false, false, none⟩,
   ⟨(some 78), .mv (.tmp 6), none, 0, false, false, none⟩,
   ⟨(some 79), .mv (.tmp 12), none, 0, false, false, none⟩,
   ⟨(some 80), .call (.const (.fn 34 [])) [(.tmp 77), (.tmp 78), (.tmp 79), (.const (.int .i64 1)), (.const (.int .i64 (-1)))], none, 0, true, false, none⟩])
 (.block 0
  (.loop
   (.seq (.seq (.reg [
     ⟨(some 81), .mv (.tmp 9), none, 0, false, false, none⟩,
     ⟨(some 82), .mv (.tmp 2), none, 0, false, false, none⟩,
     ⟨(some 83), .ints .gtr (.tmp 81) (.tmp 82), none, 0, false, false, none⟩])
   (.cond (.tmp 83)
    .skip
    (.exit 0)))
   (.seq (.block 1
    (.seq (.reg [
      ⟨(some 86), .mv (.tmp 0), none, 0, false, false, none⟩,
      ⟨(some 87), .nilc (.tmp 86), none, 0, false, false, none⟩,
      ⟨(some 88), .faddr 6 (.tmp 87), none, 0, false, false, none⟩,
      ⟨(some 89), .load1 (.tmp 88), none, 0, false, false, none⟩,
      ⟨(some 90), .mv (.tmp 9), none, 0, false, false, none⟩,
      ⟨(some 91), .iaddr 2 (.tmp 89) (.tmp 90), none, 0, false, false, none⟩,
      ⟨(some 92), .faddr 1 (.tmp 91), none, 0, false, false, none⟩,
      ⟨(some 93), .load1 (.tmp 92), none, 0, false, false, none⟩,
      ⟨(some 13), .mv (.tmp 93), none, 0, false, false, none⟩])
    (.seq (.reg [
      ⟨(some 94), .mv (.tmp 7), none, 0, false, false, none⟩,
      ⟨(some 14), .mv (.tmp 94), none, 0, false, false, none⟩])
    (.seq (.seq (.reg [
      ⟨(some 95), .mv (.tmp 9), none, 0, false, false, none⟩,
      ⟨(some 96), .ints .sub (.tmp 95) (.const (.int .i64 1)), none, 0, false, false, none⟩,
      ⟨(some 97), .mv (.tmp 2), none, 0, false, false, none⟩,
      ⟨(some 98), .ints .gtr (.tmp 96) (.tmp 97), none, 0, false, false, none⟩])
    (.cond (.tmp 98)
     (.reg [
        ⟨(some 99), .mv (.tmp 0), none, 0, false, false, none⟩,
        ⟨(some 100), .mv (.tmp 0), none, 0, false, false, none⟩,
        ⟨(some 101), .nilc (.tmp 100), none, 0, false, false, none⟩,
        ⟨(some 102), .faddr 3 (.tmp 101), none, 0, false, false, none⟩,
        ⟨(some 103), .load1 (.tmp 102), none, 0, false, false, none⟩,
        ⟨(some 104), .mv (.tmp 13), none, 0, false, false, none⟩,
        ⟨(some 105), .iaddr 5 (.tmp 103) (.tmp 104), none, 0, false, false, none⟩,
        ⟨(some 106), .faddr 0 (.tmp 105), none, 0, false, false, none⟩,
        ⟨(some 107), .load1 (.tmp 106), none, 0, false, false, none⟩,
        ⟨(some 108), .call (.const (.fn 35 [])) [(.tmp 99), (.tmp 107), (.const (.int .i64 4)), (.const (.int .i64 (-1)))], none, 0, true, false, none⟩,
        ⟨(some 14), .mv (.tmp 108), none, 0, false, false, none⟩])
     .skip))
    (.seq (.reg [
      ⟨(some 109), .mv (.tmp 0), none, 0, false, false, none⟩,
      ⟨(some 110), .mv (.tmp 12), none, 0, false, false, none⟩,
      ⟨(some 111), .mv (.tmp 14), none, 0, false, false, none⟩,
      ⟨(some 112), .mv (.tmp 0), none, 0, false, false, none⟩,
      ⟨(some 113), .mv (.tmp 13), none, 0, false, false, none⟩,
      ⟨(some 114), .call (.const (.fn 33 [])) [(.tmp 112), (.tmp 113)], none, 0, true, false, none⟩,
      ⟨(some 115), .call (.const (.fn 34 [])) [(.tmp 109), (.tmp 110), (.tmp 111), (.const (.int .i64 4)), (.tmp 114)], none, 0, true, false, none⟩])
    (.reg [
      ⟨(some 116), .mv (.tmp 14), none, 0, false, false, none⟩,
      ⟨(some 12), .mv (.tmp 116), none, 0, false, false, none⟩]))))))
   (.reg [
     ⟨(some 84), .mv (.tmp 9), none, 0, false, false, none⟩,
     ⟨(some 85), .ints .sub (.tmp 84) (.const (.int .i64 1)), none, 0, false, false, none⟩,
     ⟨(some 9), .mv (.tmp 85), none, 0, false, false, none⟩])))))))))))
theorem x_tleave : tblX Tryz.prog X0 36 = some (.fn ⟨117, [], s_tleave.den⟩) := by kernel_rfl
def s_tstep : SC := (.seq (.reg [
   ⟨(some 9), .mv (.tmp 0), none, 0, false, false, none⟩,
   ⟨(some 10), .nilc (.tmp 9), none, 0, false, false, none⟩,
   ⟨(some 11), .faddr 3 (.tmp 10), none, 0, false, false, none⟩,
   ⟨(some 12), .load1 (.tmp 11), none, 0, false, false, none⟩,
   ⟨(some 13), .mv (.tmp 1), none, 0, false, false, none⟩,
   ⟨(some 14), .iaddr 5 (.tmp 12) (.tmp 13), none, 0, false, false, none⟩,
   ⟨(some 15), .loadN 5 (.tmp 14), none, 0, false, false, none⟩,
   ⟨(some 4), .box (.const (.agg [(.int .i64 0), (.int .i64 0), (.int .i64 0), (.int .i64 0), .nils])), none, 0, false, false, none⟩,
   ⟨none, .store 5 (.tmp 4) (.tmp 15), none, 0, true, false, none⟩])
 (.seq (.reg [
   ⟨(some 16), .mv (.tmp 0), none, 0, false, false, none⟩,
   ⟨(some 17), .mv (.tmp 1), none, 0, false, false, none⟩,
   ⟨(some 18), .call (.const (.fn 33 [])) [(.tmp 16), (.tmp 17)], none, 0, true, false, none⟩,
   ⟨(some 5), .mv (.tmp 18), none, 0, false, false, none⟩])
 (.seq (.seq (.reg [
   ⟨(some 19), .mv (.tmp 1), none, 0, false, false, none⟩,
   ⟨(some 20), .eql (.b .int) false (.tmp 19) (.const (.int .i64 0)), none, 0, false, false, none⟩])
 (.cond (.tmp 20)
  (.seq (.seq (.dreg [
     ⟨(some 21), .faddr 0 (.tmp 4), none, 0, false, false, none⟩,
     ⟨(some 22), .load1 (.tmp 21), none, 1, false, false, (some (.tmp 21))⟩,
     ⟨(some 23), .mv (.tmp 0), none, 0, false, false, none⟩,
     ⟨(some 24), .nilc (.tmp 23), none, 4, false, false, none⟩,
     ⟨(some 25), .faddr 0 (.tmp 24), none, 12, false, false, none⟩,
     ⟨(some 26), .faddr 0 (.tmp 25), none, 28, false, false, none⟩,
     ⟨(some 27), .load1 (.tmp 26), none, 60, false, false, (some (.tmp 26))⟩,
     ⟨(some 28), .mv (.tmp 0), none, 0, false, false, none⟩,
     ⟨(some 29), .nilc (.tmp 28), none, 128, false, false, none⟩,
     ⟨(some 30), .faddr 0 (.tmp 29), none, 384, false, false, none⟩,
     ⟨(some 31), .faddr 2 (.tmp 30), none, 896, false, false, none⟩,
     ⟨(some 32), .load1 (.tmp 31), none, 1920, false, false, (some (.tmp 31))⟩,
     ⟨(some 33), .iaddr 3 (.tmp 27) (.tmp 32), none, 4092, false, false, none⟩,
     ⟨(some 34), .faddr 0 (.tmp 33), none, 8188, false, false, none⟩,
     ⟨(some 35), .load1 (.tmp 34), none, 16380, false, false, (some (.tmp 34))⟩,
     ⟨(some 36), .eql (.b .int) true (.tmp 22) (.tmp 35), none, 32767, false, false, none⟩,
     ⟨(some 37), .mv (.tmp 36), none, 65535, false, false, none⟩,
     ⟨(some 38), .faddr 1 (.tmp 4), (some (37, false)), 131071, false, false, none⟩,
     ⟨(some 39), .load1 (.tmp 38), (some (37, false)), 262143, false, false, (some (.tmp 38))⟩,
     ⟨(some 40), .eql (.b .int) true (.tmp 39) (.const (.int .i64 0)), (some (37, false)), 524287, false, false, none⟩,
     ⟨(some 41), .pick (.tmp 37) (.const (.bool true)) (.tmp 40), none, 1048575, false, false, none⟩,
     ⟨(some 42), .mv (.tmp 41), none, 2097151, false, false, none⟩,
     ⟨(some 43), .faddr 2 (.tmp 4), (some (42, false)), 4194303, false, false, none⟩,
     ⟨(some 44), .load1 (.tmp 43), (some (42, false)), 8388607, false, false, (some (.tmp 43))⟩,
     ⟨(some 45), .eql (.b .int) true (.tmp 44) (.const (.int .i64 0)), (some (42, false)), 16777215, false, false, none⟩,
     ⟨(some 46), .pick (.tmp 42) (.const (.bool true)) (.tmp 45), none, 33554431, false, false, none⟩,
     ⟨(some 47), .mv (.tmp 46), none, 67108863, false, false, none⟩,
     ⟨(some 48), .faddr 3 (.tmp 4), (some (47, false)), 134217727, false, false, none⟩,
     ⟨(some 49), .load1 (.tmp 48), (some (47, false)), 268435455, false, false, (some (.tmp 48))⟩,
     ⟨(some 50), .eql (.b .int) true (.tmp 49) (.const (.int .i64 (-1))), (some (47, false)), 536870911, false, false, none⟩,
     ⟨(some 51), .pick (.tmp 47) (.const (.bool true)) (.tmp 50), none, 1073741823, false, false, none⟩])
   (.cond (.tmp 51)
    (.seq (.reg [
       ⟨(some 52), .mv (.tmp 0), none, 0, false, false, none⟩,
       ⟨(some 53), .nilc (.tmp 52), none, 0, false, false, none⟩,
       ⟨(some 54), .faddr 8 (.tmp 53), none, 0, false, false, none⟩,
       ⟨none, .store 1 (.tmp 54) (.const (.bool true)), none, 0, true, false, none⟩])
     .ret)
    .skip))
   (.seq (.reg [
     ⟨(some 55), .mv (.tmp 0), none, 0, false, false, none⟩,
     ⟨(some 56), .mv (.tmp 0), none, 0, false, false, none⟩,
     ⟨(some 57), .nilc (.tmp 56), none, 0, false, false, none⟩,
     ⟨(some 58), .faddr 0 (.tmp 57), none, 0, false, false, none⟩,
     ⟨(some 59), .faddr 2 (.tmp 58), none, 0, false, false, none⟩,
     ⟨(some 60), .load1 (.tmp 59), none, 0, false, false, none⟩,
     ⟨(some 61), .mv (.tmp 5), none, 0, false, false, none⟩,
     ⟨(some 62), .call (.const (.fn 34 [])) [(.tmp 55), (.tmp 60), (.tmp 61), (.const (.int .i64 1)), (.const (.int .i64 (-1)))], none, 0, true, false, none⟩])
   (.seq (.dreg [
     ⟨(some 63), .mv (.tmp 0), none, 0, false, false, none⟩,
     ⟨(some 64), .mv (.tmp 0), none, 0, false, false, none⟩,
     ⟨(some 65), .nilc (.tmp 64), none, 2, false, false, none⟩,
     ⟨(some 66), .faddr 6 (.tmp 65), none, 6, false, false, none⟩,
     ⟨(some 67), .load1 (.tmp 66), none, 14, false, false, (some (.tmp 66))⟩,
     ⟨(some 68), .faddr 2 (.tmp 4), none, 0, false, false, none⟩,
     ⟨(some 69), .load1 (.tmp 68), none, 32, false, false, (some (.tmp 68))⟩,
     ⟨(some 70), .faddr 3 (.tmp 4), none, 0, false, false, none⟩,
     ⟨(some 71), .load1 (.tmp 70), none, 128, false, false, (some (.tmp 70))⟩,
     ⟨(some 72), .build [(.int .i64 0), (.int .i64 0)] [(0, 1, (.tmp 69)), (1, 1, (.tmp 71))], none, 480, false, false, none⟩,
     ⟨(some 73), .bslice 1 [(.int .i64 0), (.int .i64 0)] [(0, 2, (.tmp 72))], none, 992, false, false, none⟩,
     ⟨(some 74), .append 2 (.tmp 67) (.tmp 73), none, 2046, true, true, none⟩,
     ⟨(some 75), .nilc (.tmp 63), none, 4095, false, false, none⟩,
     ⟨(some 76), .faddr 6 (.tmp 75), none, 8191, false, false, none⟩,
     ⟨none, .store 1 (.tmp 76) (.tmp 74), none, 16383, true, true, none⟩])
   .ret)))
  .skip))
 (.seq (.reg [
   ⟨(some 77), .mv (.tmp 0), none, 0, false, false, none⟩,
   ⟨(some 78), .mv (.tmp 1), none, 0, false, false, none⟩,
   ⟨(some 79), .ints .sub (.tmp 78) (.const (.int .i64 1)), none, 0, false, false, none⟩,
   ⟨(some 80), .call (.const (.fn 33 [])) [(.tmp 77), (.tmp 79)], none, 0, true, false, none⟩,
   ⟨(some 6), .mv (.tmp 80), none, 0, false, false, none⟩])
 (.seq (.seq (.reg [
   ⟨(some 81), .faddr 3 (.tmp 4), none, 0, false, false, none⟩,
   ⟨(some 82), .load1 (.tmp 81), none, 0, false, false, none⟩,
   ⟨(some 83), .mv (.tmp 1), none, 0, false, false, none⟩,
   ⟨(some 84), .ints .sub (.tmp 83) (.const (.int .i64 1)), none, 0, false, false, none⟩,
   ⟨(some 85), .eql (.b .int) false (.tmp 82) (.tmp 84), none, 0, false, false, none⟩])
 (.cond (.tmp 85)
  (.seq (.reg [
     ⟨(some 86), .mv (.tmp 0), none, 0, false, false, none⟩,
     ⟨(some 87), .faddr 0 (.tmp 4), none, 0, false, false, none⟩,
     ⟨(some 88), .load1 (.tmp 87), none, 0, false, false, none⟩,
     ⟨(some 89), .call (.const (.fn 35 [])) [(.tmp 86), (.tmp 88), (.const (.int .i64 1)), (.const (.int .i64 (-1)))], none, 0, true, false, none⟩,
     ⟨(some 7), .mv (.tmp 89), none, 0, false, false, none⟩])
   (.seq (.reg [
     ⟨(some 90), .mv (.tmp 0), none, 0, false, false, none⟩,
     ⟨(some 91), .mv (.tmp 6), none, 0, false, false, none⟩,
     ⟨(some 92), .mv (.tmp 7), none, 0, false, false, none⟩,
     ⟨(some 93), .mv (.tmp 6), none, 0, false, false, none⟩,
     ⟨(some 94), .call (.const (.fn 34 [])) [(.tmp 90), (.tmp 91), (.tmp 92), (.const (.int .i64 2)), (.tmp 93)], none, 0, true, false, none⟩])
   (.seq (.reg [
     ⟨(some 95), .mv (.tmp 0), none, 0, false, false, none⟩,
     ⟨(some 96), .mv (.tmp 7), none, 0, false, false, none⟩,
     ⟨(some 97), .mv (.tmp 5), none, 0, false, false, none⟩,
     ⟨(some 98), .call (.const (.fn 34 [])) [(.tmp 95), (.tmp 96), (.tmp 97), (.const (.int .i64 1)), (.const (.int .i64 (-1)))], none, 0, true, false, none⟩])
   (.seq (.dreg [
     ⟨(some 99), .mv (.tmp 0), none, 0, false, false, none⟩,
     ⟨(some 100), .mv (.tmp 0), none, 0, false, false, none⟩,
     ⟨(some 101), .nilc (.tmp 100), none, 2, false, false, none⟩,
     ⟨(some 102), .faddr 6 (.tmp 101), none, 6, false, false, none⟩,
     ⟨(some 103), .load1 (.tmp 102), none, 14, false, false, (some (.tmp 102))⟩,
     ⟨(some 104), .faddr 2 (.tmp 4), none, 0, false, false, none⟩,
     ⟨(some 105), .load1 (.tmp 104), none, 32, false, false, (some (.tmp 104))⟩,
     ⟨(some 106), .faddr 3 (.tmp 4), none, 0, false, false, none⟩,
     ⟨(some 107), .load1 (.tmp 106), none, 128, false, false, (some (.tmp 106))⟩,
     ⟨(some 108), .build [(.int .i64 0), (.int .i64 0)] [(0, 1, (.tmp 105)), (1, 1, (.tmp 107))], none, 480, false, false, none⟩,
     ⟨(some 109), .bslice 1 [(.int .i64 0), (.int .i64 0)] [(0, 2, (.tmp 108))], none, 992, false, false, none⟩,
     ⟨(some 110), .append 2 (.tmp 103) (.tmp 109), none, 2046, true, true, none⟩,
     ⟨(some 111), .nilc (.tmp 99), none, 4095, false, false, none⟩,
     ⟨(some 112), .faddr 6 (.tmp 111), none, 8191, false, false, none⟩,
     ⟨none, .store 1 (.tmp 112) (.tmp 110), none, 16383, true, true, none⟩])
   .ret))))
  .skip))
 (.seq (.reg [
   ⟨(some 113), .mv (.tmp 0), none, 0, false, false, none⟩,
   ⟨(some 114), .nilc (.tmp 113), none, 0, false, false, none⟩,
   ⟨(some 115), .faddr 6 (.tmp 114), none, 0, false, false, none⟩,
   ⟨(some 116), .load1 (.tmp 115), none, 0, false, false, none⟩,
   ⟨(some 117), .lenL (.tmp 116), none, 0, false, false, none⟩,
   ⟨(some 118), .ints .sub (.tmp 117) (.const (.int .i64 1)), none, 0, false, false, none⟩,
   ⟨(some 8), .mv (.tmp 118), none, 0, false, false, none⟩])
 (.seq (.block 0
  (.loop
   (.seq (.seq (.dreg [
     ⟨(some 119), .mv (.tmp 8), none, 0, false, false, none⟩,
     ⟨(some 120), .ints .geq (.tmp 119) (.const (.int .i64 0)), none, 1, false, false, none⟩,
     ⟨(some 121), .mv (.tmp 120), none, 3, false, false, none⟩,
     ⟨(some 122), .mv (.tmp 0), (some (121, true)), 7, false, false, none⟩,
     ⟨(some 123), .nilc (.tmp 122), (some (121, true)), 15, false, false, none⟩,
     ⟨(some 124), .faddr 6 (.tmp 123), (some (121, true)), 31, false, false, none⟩,
     ⟨(some 125), .load1 (.tmp 124), (some (121, true)), 63, false, false, (some (.tmp 124))⟩,
     ⟨(some 126), .mv (.tmp 8), (some (121, true)), 7, false, false, none⟩,
     ⟨(some 127), .iaddr 2 (.tmp 125) (.tmp 126), (some (121, true)), 255, false, false, none⟩,
     ⟨(some 128), .loadN 2 (.tmp 127), (some (121, true)), 511, false, false, (some (.tmp 127))⟩,
     ⟨(some 129), .faddr 2 (.tmp 4), (some (121, true)), 7, false, false, none⟩,
     ⟨(some 130), .load1 (.tmp 129), (some (121, true)), 1031, false, false, (some (.tmp 129))⟩,
     ⟨(some 131), .faddr 3 (.tmp 4), (some (121, true)), 7, false, false, none⟩,
     ⟨(some 132), .load1 (.tmp 131), (some (121, true)), 4103, false, false, (some (.tmp 131))⟩,
     ⟨(some 133), .build [(.int .i64 0), (.int .i64 0)] [(0, 1, (.tmp 130)), (1, 1, (.tmp 132))], (some (121, true)), 15367, false, false, none⟩,
     ⟨(some 134), .eql (.st [.int, .int]) true (.tmp 128) (.tmp 133), (some (121, true)), 32767, false, false, none⟩,
     ⟨(some 135), .pick (.tmp 121) (.tmp 134) (.const (.bool false)), none, 65535, false, false, none⟩])
   (.cond (.tmp 135)
    .skip
    (.exit 0)))
   (.block 1
    (.reg [
      ⟨(some 136), .mv (.tmp 8), none, 0, false, false, none⟩,
      ⟨(some 137), .ints .sub (.tmp 136) (.const (.int .i64 1)), none, 0, false, false, none⟩,
      ⟨(some 8), .mv (.tmp 137), none, 0, false, false, none⟩])))))
 (.block 2
  (.seq (.reg [
    ⟨(some 153), .mv (.tmp 8), none, 0, false, false, none⟩,
    ⟨(some 154), .ints .lss (.tmp 153) (.const (.int .i64 0)), none, 0, false, false, none⟩,
    ⟨(some 152), .mv (.tmp 154), none, 0, false, false, none⟩])
  (.cond (.tmp 152)
   (.reg [
      ⟨(some 155), .mv (.tmp 0), none, 0, false, false, none⟩,
      ⟨(some 156), .nilc (.tmp 155), none, 0, false, false, none⟩,
      ⟨(some 157), .faddr 8 (.tmp 156), none, 0, false, false, none⟩,
      ⟨none, .store 1 (.tmp 157) (.const (.bool true)), none, 0, true, false, none⟩])
   (.seq (.reg [
      ⟨(some 159), .mv (.tmp 8), none, 0, false, false, none⟩,
      ⟨(some 160), .mv (.tmp 0), none, 0, false, false, none⟩,
      ⟨(some 161), .nilc (.tmp 160), none, 0, false, false, none⟩,
      ⟨(some 162), .faddr 6 (.tmp 161), none, 0, false, false, none⟩,
      ⟨(some 163), .load1 (.tmp 162), none, 0, false, false, none⟩,
      ⟨(some 164), .lenL (.tmp 163), none, 0, false, false, none⟩,
      ⟨(some 165), .ints .sub (.tmp 164) (.const (.int .i64 1)), none, 0, false, false, none⟩,
      ⟨(some 166), .eql (.b .int) false (.tmp 159) (.tmp 165), none, 0, false, false, none⟩,
      ⟨(some 158), .mv (.tmp 166), none, 0, false, false, none⟩])
    (.cond (.tmp 158)
     (.reg [
        ⟨(some 167), .mv (.tmp 0), none, 0, false, false, none⟩,
        ⟨(some 168), .mv (.tmp 6), none, 0, false, false, none⟩,
        ⟨(some 169), .mv (.tmp 5), none, 0, false, false, none⟩,
        ⟨(some 170), .call (.const (.fn 34 [])) [(.tmp 167), (.tmp 168), (.tmp 169), (.const (.int .i64 1)), (.const (.int .i64 (-1)))], none, 0, true, false, none⟩])
     (.seq (.reg [
        ⟨(some 138), .mv (.tmp 0), none, 0, false, false, none⟩,
        ⟨(some 139), .mv (.tmp 1), none, 0, false, false, none⟩,
        ⟨(some 140), .mv (.tmp 8), none, 0, false, false, none⟩,
        ⟨(some 141), .call (.const (.fn 36 [])) [(.tmp 138), (.tmp 139), (.tmp 140)], none, 0, true, false, none⟩])
      (.reg [
        ⟨(some 142), .mv (.tmp 0), none, 0, false, false, none⟩,
        ⟨(some 143), .mv (.tmp 0), none, 0, false, false, none⟩,
        ⟨(some 144), .nilc (.tmp 143), none, 0, false, false, none⟩,
        ⟨(some 145), .faddr 6 (.tmp 144), none, 0, false, false, none⟩,
        ⟨(some 146), .load1 (.tmp 145), none, 0, false, false, none⟩,
        ⟨(some 147), .mv (.tmp 8), none, 0, false, false, none⟩,
        ⟨(some 148), .ints .add (.tmp 147) (.const (.int .i64 1)), none, 0, false, false, none⟩,
        ⟨(some 149), .slice 2 (.tmp 146) none (some (.tmp 148)), none, 0, false, false, none⟩,
        ⟨(some 150), .nilc (.tmp 142), none, 0, false, false, none⟩,
        ⟨(some 151), .faddr 6 (.tmp 150), none, 0, false, false, none⟩,
        ⟨none, .store 1 (.tmp 151) (.tmp 149), none, 0, true, false, none⟩]))))))))))))))
theorem x_tstep : tblX Tryz.prog X0 12 = some (.fn ⟨171, [], s_tstep.den⟩) := by kernel_rfl
def s_PPath : SC := (.seq (.reg [
   ⟨(some 2), .box (.tmp 0), none, 0, false, false, none⟩,
   ⟨(some 3), .box (.tmp 1), none, 0, false, false, none⟩,
   ⟨(some 4), .mv (.const .nils), none, 0, false, false, none⟩,
   ⟨(some 5), .mv (.const (.int .i64 0)), none, 0, false, false, none⟩])
 (.seq (.seq (.reg [
   ⟨(some 13), .loadN 3 (.tmp 2), none, 0, false, false, none⟩,
   ⟨(some 14), .call (.const (.fn 11 [])) [(.tmp 13)], none, 0, true, false, none⟩,
   ⟨(some 6), .mv (.tmp 14), none, 0, false, false, none⟩])
 (.seq (.reg [
   ⟨(some 15), .mv (.tmp 6), none, 0, false, false, none⟩,
   ⟨(some 16), .eql (.b .int) true (.tmp 15) (.const (.int .i64 0)), none, 0, false, false, none⟩])
 (.cond (.tmp 16)
  (.seq (.reg [
     ⟨(some 17), .mv (.tmp 6), none, 0, false, false, none⟩,
     ⟨(some 4), .mv (.const .nils), none, 0, false, false, none⟩,
     ⟨(some 5), .mv (.tmp 17), none, 0, false, false, none⟩])
   .ret)
  .skip)))
 (.seq (.reg [
   ⟨(some 18), .loadN 3 (.tmp 2), none, 0, false, false, none⟩,
   ⟨(some 19), .faddr 1 (.tmp 3), none, 0, false, false, none⟩,
   ⟨(some 20), .load1 (.tmp 19), none, 0, false, false, none⟩,
   ⟨(some 21), .mkmap, none, 0, false, false, none⟩,
   ⟨(some 22), .mkmap, none, 0, false, false, none⟩,
   ⟨(some 23), .build [.nils, .nils, (.int .i64 0), .nils, .nilm, .nilm, .nils, .nils, (.bool false)] [(0, 3, (.tmp 18)), (3, 1, (.tmp 20)), (4, 1, (.tmp 21)), (5, 1, (.tmp 22))], none, 0, false, false, none⟩,
   ⟨(some 24), .box (.tmp 23), none, 0, false, false, none⟩,
   ⟨(some 7), .mv (.tmp 24), none, 0, false, false, none⟩])
 (.seq (.seq (.reg [
   ⟨(some 25), .faddr 0 (.tmp 2), none, 0, false, false, none⟩,
   ⟨(some 26), .load1 (.tmp 25), none, 0, false, false, none⟩,
   ⟨(some 27), .lenL (.tmp 26), none, 0, false, false, none⟩,
   ⟨(some 28), .mv (.const (.int .i64 0)), none, 0, false, false, none⟩])
 (.block 0
  (.loop
   (.seq (.reg [
     ⟨(some 29), .ints .lss (.tmp 28) (.tmp 27), none, 0, false, false, none⟩])
   (.seq (.cond (.tmp 29)
    .skip
    (.exit 0))
   (.seq (.block 1
    (.seq (.reg [
      ⟨(some 30), .mv (.tmp 28), none, 0, false, false, none⟩,
      ⟨(some 31), .iaddr 3 (.tmp 26) (.tmp 28), none, 0, false, false, none⟩,
      ⟨(some 32), .loadN 3 (.tmp 31), none, 0, false, false, none⟩,
      ⟨(some 9), .box (.const (.agg [(.int .i64 0), (.int .i64 0), (.int .i64 0)])), none, 0, false, false, none⟩,
      ⟨(some 8), .mv (.tmp 30), none, 0, false, false, none⟩,
      ⟨none, .store 3 (.tmp 9) (.tmp 32), none, 0, true, false, none⟩])
    (.dreg [
      ⟨(some 33), .mv (.tmp 7), none, 0, false, false, none⟩,
      ⟨(some 34), .nilc (.tmp 33), none, 1, false, false, none⟩,
      ⟨(some 35), .faddr 4 (.tmp 34), none, 3, false, false, none⟩,
      ⟨(some 36), .load1 (.tmp 35), none, 7, false, false, (some (.tmp 35))⟩,
      ⟨(some 37), .loadN 3 (.tmp 9), none, 0, false, false, (some (.tmp 9))⟩,
      ⟨(some 38), .mv (.tmp 8), none, 0, false, false, none⟩,
      ⟨none, .mapup (.st [.int, .int, .int]) (.tmp 36) (.tmp 37) (.tmp 38), none, 63, true, true, none⟩])))
   (.reg [
     ⟨(some 39), .ints .add (.tmp 28) (.const (.int .i64 1)), none, 0, false, false, none⟩,
     ⟨(some 28), .mv (.tmp 39), none, 0, false, false, none⟩])))))))
 (.seq (.seq (.reg [
   ⟨(some 40), .faddr 1 (.tmp 2), none, 0, false, false, none⟩,
   ⟨(some 41), .load1 (.tmp 40), none, 0, false, false, none⟩,
   ⟨(some 42), .lenL (.tmp 41), none, 0, false, false, none⟩,
   ⟨(some 43), .mv (.const (.int .i64 0)), none, 0, false, false, none⟩])
 (.block 2
  (.loop
   (.seq (.reg [
     ⟨(some 44), .ints .lss (.tmp 43) (.tmp 42), none, 0, false, false, none⟩])
   (.seq (.cond (.tmp 44)
    .skip
    (.exit 2))
   (.seq (.block 3
    (.seq (.reg [
      ⟨(some 45), .mv (.tmp 43), none, 0, false, false, none⟩,
      ⟨(some 46), .iaddr 4 (.tmp 41) (.tmp 43), none, 0, false, false, none⟩,
      ⟨(some 47), .loadN 4 (.tmp 46), none, 0, false, false, none⟩,
      ⟨(some 11), .box (.const (.agg [(.int .i64 0), (.int .i64 0), (.int .i64 0), (.int .i64 0)])), none, 0, false, false, none⟩,
      ⟨(some 10), .mv (.tmp 45), none, 0, false, false, none⟩,
      ⟨none, .store 4 (.tmp 11) (.tmp 47), none, 0, true, false, none⟩])
    (.dreg [
      ⟨(some 48), .mv (.tmp 7), none, 0, false, false, none⟩,
      ⟨(some 49), .nilc (.tmp 48), none, 1, false, false, none⟩,
      ⟨(some 50), .faddr 5 (.tmp 49), none, 3, false, false, none⟩,
      ⟨(some 51), .load1 (.tmp 50), none, 7, false, false, (some (.tmp 50))⟩,
      ⟨(some 52), .loadN 4 (.tmp 11), none, 0, false, false, (some (.tmp 11))⟩,
      ⟨(some 53), .mv (.tmp 10), none, 0, false, false, none⟩,
      ⟨none, .mapup (.st [.int, .int, .int, .int]) (.tmp 51) (.tmp 52) (.tmp 53), none, 63, true, true, none⟩])))
   (.reg [
     ⟨(some 54), .ints .add (.tmp 43) (.const (.int .i64 1)), none, 0, false, false, none⟩,
     ⟨(some 43), .mv (.tmp 54), none, 0, false, false, none⟩])))))))
 (.seq (.seq (.reg [
   ⟨(some 55), .faddr 1 (.tmp 3), none, 0, false, false, none⟩,
   ⟨(some 56), .load1 (.tmp 55), none, 0, false, false, none⟩,
   ⟨(some 57), .lenL (.tmp 56), none, 0, false, false, none⟩,
   ⟨(some 58), .mv (.const (.int .i64 0)), none, 0, false, false, none⟩])
 (.block 4
  (.loop
   (.seq (.reg [
     ⟨(some 59), .ints .lss (.tmp 58) (.tmp 57), none, 0, false, false, none⟩])
   (.seq (.cond (.tmp 59)
    .skip
    (.exit 4))
   (.seq (.block 5
    (.seq (.reg [
      ⟨(some 60), .mv (.tmp 58), none, 0, false, false, none⟩,
      ⟨(some 12), .mv (.tmp 60), none, 0, false, false, none⟩])
    (.seq (.reg [
      ⟨(some 61), .mv (.tmp 7), none, 0, false, false, none⟩,
      ⟨(some 62), .mv (.tmp 12), none, 0, false, false, none⟩,
      ⟨(some 63), .call (.const (.fn 12 [])) [(.tmp 61), (.tmp 62)], none, 0, true, false, none⟩])
    (.seq (.reg [
      ⟨(some 64), .mv (.tmp 7), none, 0, false, false, none⟩,
      ⟨(some 65), .nilc (.tmp 64), none, 0, false, false, none⟩,
      ⟨(some 66), .faddr 8 (.tmp 65), none, 0, false, false, none⟩,
      ⟨(some 67), .load1 (.tmp 66), none, 0, false, false, none⟩])
    (.cond (.tmp 67)
     (.seq (.reg [
        ⟨(some 4), .mv (.const .nils), none, 0, false, false, none⟩,
        ⟨(some 5), .mv (.const (.int .i64 20)), none, 0, false, false, none⟩])
      .ret)
     .skip)))))
   (.reg [
     ⟨(some 68), .ints .add (.tmp 58) (.const (.int .i64 1)), none, 0, false, false, none⟩,
     ⟨(some 58), .mv (.tmp 68), none, 0, false, false, none⟩])))))))
 (.seq (.seq (.reg [
   ⟨(some 69), .mv (.tmp 7), none, 0, false, false, none⟩,
   ⟨(some 70), .nilc (.tmp 69), none, 0, false, false, none⟩,
   ⟨(some 71), .faddr 7 (.tmp 70), none, 0, false, false, none⟩,
   ⟨(some 72), .load1 (.tmp 71), none, 0, false, false, none⟩,
   ⟨(some 73), .lenL (.tmp 72), none, 0, false, false, none⟩,
   ⟨(some 74), .ints .gtr (.tmp 73) (.const (.int .i64 4096)), none, 0, false, false, none⟩])
 (.cond (.tmp 74)
  (.seq (.reg [
     ⟨(some 4), .mv (.const .nils), none, 0, false, false, none⟩,
     ⟨(some 5), .mv (.const (.int .i64 3)), none, 0, false, false, none⟩])
   .ret)
  .skip))
 (.seq (.reg [
   ⟨(some 75), .mv (.tmp 7), none, 0, false, false, none⟩,
   ⟨(some 76), .nilc (.tmp 75), none, 0, false, false, none⟩,
   ⟨(some 77), .faddr 7 (.tmp 76), none, 0, false, false, none⟩,
   ⟨(some 78), .load1 (.tmp 77), none, 0, false, false, none⟩,
   ⟨(some 4), .mv (.tmp 78), none, 0, false, false, none⟩,
   ⟨(some 5), .mv (.const (.int .i64 0)), none, 0, false, false, none⟩])
 .ret))))))))
theorem x_PPath : tblX Tryz.prog X0 5 = some (.fn ⟨79, [(4, none), (5, none)], s_PPath.den⟩) := by kernel_rfl
def s_law : SC := (.seq (.reg [
   ⟨(some 2), .box (.tmp 0), none, 0, false, false, none⟩,
   ⟨(some 3), .box (.tmp 1), none, 0, false, false, none⟩,
   ⟨(some 4), .mv (.const (.bool false)), none, 0, false, false, none⟩])
 (.seq (.seq (.reg [
   ⟨(some 9), .faddr 0 (.tmp 2), none, 0, false, false, none⟩,
   ⟨(some 10), .load1 (.tmp 9), none, 0, false, false, none⟩,
   ⟨(some 11), .lenL (.tmp 10), none, 0, false, false, none⟩,
   ⟨(some 12), .ints .gtr (.tmp 11) (.const (.int .i64 100)), none, 0, false, false, none⟩,
   ⟨(some 13), .mv (.tmp 12), none, 0, false, false, none⟩,
   ⟨(some 14), .faddr 1 (.tmp 2), (some (13, false)), 0, false, false, none⟩,
   ⟨(some 15), .load1 (.tmp 14), (some (13, false)), 0, false, false, none⟩,
   ⟨(some 16), .lenL (.tmp 15), (some (13, false)), 0, false, false, none⟩,
   ⟨(some 17), .ints .gtr (.tmp 16) (.const (.int .i64 100)), (some (13, false)), 0, false, false, none⟩,
   ⟨(some 18), .pick (.tmp 13) (.const (.bool true)) (.tmp 17), none, 0, false, false, none⟩,
   ⟨(some 19), .mv (.tmp 18), none, 0, false, false, none⟩,
   ⟨(some 20), .faddr 1 (.tmp 3), (some (19, false)), 0, false, false, none⟩,
   ⟨(some 21), .load1 (.tmp 20), (some (19, false)), 0, false, false, none⟩,
   ⟨(some 22), .lenL (.tmp 21), (some (19, false)), 0, false, false, none⟩,
   ⟨(some 23), .ints .gtr (.tmp 22) (.const (.int .i64 100)), (some (19, false)), 0, false, false, none⟩,
   ⟨(some 24), .pick (.tmp 19) (.const (.bool true)) (.tmp 23), none, 0, false, false, none⟩])
 (.cond (.tmp 24)
  (.seq (.reg [
     ⟨(some 25), .call (.const (.fn 4 [])) [], none, 0, true, false, none⟩,
     ⟨(some 4), .mv (.tmp 25), none, 0, false, false, none⟩])
   .ret)
  .skip))
 (.seq (.reg [
   ⟨(some 27), .loadN 3 (.tmp 2), none, 0, false, false, none⟩,
   ⟨(some 28), .loadN 2 (.tmp 3), none, 0, false, false, none⟩,
   ⟨(some 29), .call (.const (.fn 5 [])) [(.tmp 27), (.tmp 28)], none, 0, true, false, none⟩,
   ⟨(some 26), .mv (.tmp 29), none, 0, false, false, none⟩,
   ⟨(some 30), .extr (.tmp 26) 0, none, 0, false, false, none⟩,
   ⟨(some 31), .extr (.tmp 26) 1, none, 0, false, false, none⟩,
   ⟨(some 5), .mv (.tmp 30), none, 0, false, false, none⟩,
   ⟨(some 6), .mv (.tmp 31), none, 0, false, false, none⟩])
 (.seq (.reg [
   ⟨(some 33), .loadN 3 (.tmp 2), none, 0, false, false, none⟩,
   ⟨(some 34), .loadN 2 (.tmp 3), none, 0, false, false, none⟩,
   ⟨(some 35), .call (.const (.fn 6 [])) [(.tmp 33), (.tmp 34)], none, 0, true, false, none⟩,
   ⟨(some 32), .mv (.tmp 35), none, 0, false, false, none⟩,
   ⟨(some 36), .extr (.tmp 32) 0, none, 0, false, false, none⟩,
   ⟨(some 37), .extr (.tmp 32) 1, none, 0, false, false, none⟩,
   ⟨(some 7), .mv (.tmp 36), none, 0, false, false, none⟩,
   ⟨(some 8), .mv (.tmp 37), none, 0, false, false, none⟩])
 (.seq (.reg [
   ⟨(some 38), .mv (.tmp 6), none, 0, false, false, none⟩,
   ⟨(some 39), .mv (.tmp 8), none, 0, false, false, none⟩,
   ⟨(some 40), .eql (.b .int) false (.tmp 38) (.tmp 39), none, 0, false, false, none⟩,
   ⟨(some 41), .mv (.tmp 40), none, 0, false, false, none⟩,
   ⟨(some 42), .mv (.tmp 5), (some (41, true)), 0, false, false, none⟩,
   ⟨(some 43), .mv (.tmp 7), (some (41, true)), 0, false, false, none⟩,
   ⟨(some 44), .call (.const (.fn 7 [])) [(.tmp 42), (.tmp 43)], (some (41, true)), 0, true, false, none⟩,
   ⟨(some 45), .pick (.tmp 41) (.tmp 44) (.const (.bool false)), none, 0, false, false, none⟩,
   ⟨(some 46), .mv (.tmp 45), none, 0, false, false, none⟩,
   ⟨(some 47), .call (.const (.fn 4 [])) [], (some (46, true)), 0, true, false, none⟩,
   ⟨(some 48), .pick (.tmp 46) (.tmp 47) (.const (.bool false)), none, 0, false, false, none⟩,
   ⟨(some 4), .mv (.tmp 48), none, 0, false, false, none⟩])
 .ret)))))
theorem x_law : tblX Tryz.prog X0 3 = some (.fn ⟨49, [(4, none)], s_law.den⟩) := by kernel_rfl
end Go.Proofs.YtlocnfaeiacphaaGreatDoor.Ev
