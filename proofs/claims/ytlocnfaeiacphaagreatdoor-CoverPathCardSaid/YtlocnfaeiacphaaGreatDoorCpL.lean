/- Contracts of cmp and of the program's orders. -/
import Derived.Test.YtlocnfaeiacphaaGreatDoorSyH
import Derived.KernelRfl
set_option linter.unusedVariables false
set_option linter.unusedSimpArgs false
set_option maxHeartbeats 4000000
namespace Go.Proofs.YtlocnfaeiacphaaGreatDoor.Ev
open Go
def s_cmpN : SC := (.seq (.reg [
   ⟨(some 2), .mv (.const (.bool false)), none, 0, false, false, none⟩])
 (.seq (.reg [
   ⟨(some 3), .mv (.tmp 0), none, 0, false, false, none⟩,
   ⟨(some 4), .mv (.tmp 0), none, 0, false, false, none⟩,
   ⟨(some 5), .eql (.b .int) true (.tmp 3) (.tmp 4), none, 0, false, false, none⟩,
   ⟨(some 2), .mv (.tmp 5), none, 0, false, false, none⟩])
 .ret))
theorem x_cmpN : tblX Tryz.prog X0 81 = some (.fn ⟨6, [(2, none)], s_cmpN.den⟩) := by kernel_rfl
def s_cmpC : SC := (.seq (.reg [
   ⟨(some 4), .mv (.const (.int .i64 0)), none, 0, false, false, none⟩])
 (.seq (.reg [
   ⟨(some 7), .mv (.tmp 0), none, 0, false, false, none⟩,
   ⟨(some 8), .call (.const (.fn 81 [])) [(.tmp 7)], none, 0, true, false, none⟩,
   ⟨(some 5), .mv (.tmp 8), none, 0, false, false, none⟩])
 (.seq (.reg [
   ⟨(some 9), .mv (.tmp 1), none, 0, false, false, none⟩,
   ⟨(some 10), .call (.const (.fn 81 [])) [(.tmp 9)], none, 0, true, false, none⟩,
   ⟨(some 6), .mv (.tmp 10), none, 0, false, false, none⟩])
 (.seq (.seq (.reg [
   ⟨(some 11), .mv (.tmp 5), none, 0, false, false, none⟩])
 (.cond (.tmp 11)
  (.seq (.seq (.reg [
     ⟨(some 12), .mv (.tmp 6), none, 0, false, false, none⟩])
   (.cond (.tmp 12)
    (.seq (.reg [
       ⟨(some 4), .mv (.const (.int .i64 0)), none, 0, false, false, none⟩])
     .ret)
    .skip))
   (.seq (.reg [
     ⟨(some 4), .mv (.const (.int .i64 (-1))), none, 0, false, false, none⟩])
   .ret))
  .skip))
 (.seq (.seq (.reg [
   ⟨(some 13), .mv (.tmp 6), none, 0, false, false, none⟩])
 (.cond (.tmp 13)
  (.seq (.reg [
     ⟨(some 4), .mv (.const (.int .i64 1)), none, 0, false, false, none⟩])
   .ret)
  .skip))
 (.seq (.seq (.reg [
   ⟨(some 14), .mv (.tmp 0), none, 0, false, false, none⟩,
   ⟨(some 15), .mv (.tmp 1), none, 0, false, false, none⟩,
   ⟨(some 16), .ints .lss (.tmp 14) (.tmp 15), none, 0, false, false, none⟩])
 (.cond (.tmp 16)
  (.seq (.reg [
     ⟨(some 4), .mv (.const (.int .i64 (-1))), none, 0, false, false, none⟩])
   .ret)
  .skip))
 (.seq (.seq (.reg [
   ⟨(some 17), .mv (.tmp 0), none, 0, false, false, none⟩,
   ⟨(some 18), .mv (.tmp 1), none, 0, false, false, none⟩,
   ⟨(some 19), .ints .gtr (.tmp 17) (.tmp 18), none, 0, false, false, none⟩])
 (.cond (.tmp 19)
  (.seq (.reg [
     ⟨(some 4), .mv (.const (.int .i64 1)), none, 0, false, false, none⟩])
   .ret)
  .skip))
 (.seq (.reg [
   ⟨(some 4), .mv (.const (.int .i64 0)), none, 0, false, false, none⟩])
 .ret))))))))
theorem x_cmpC : tblX Tryz.prog X0 55 = some (.fn ⟨20, [(4, none)], s_cmpC.den⟩) := by kernel_rfl
def s_cmpO : SC := (.seq (.reg [
   ⟨(some 2), .mv (.const (.int .i64 0)), none, 0, false, false, none⟩])
 (.seq (.reg [
   ⟨(some 3), .mv (.const (.int .i64 0)), none, 0, false, false, none⟩])
 (.seq (.seq (.reg [
   ⟨(some 6), .mv (.tmp 0), none, 0, false, false, none⟩,
   ⟨(some 7), .lenL (.tmp 6), none, 0, false, false, none⟩,
   ⟨(some 8), .mv (.const (.int .i64 0)), none, 0, false, false, none⟩])
 (.block 0
  (.loop
   (.seq (.reg [
     ⟨(some 9), .ints .lss (.tmp 8) (.tmp 7), none, 0, false, false, none⟩])
   (.seq (.cond (.tmp 9)
    .skip
    (.exit 0))
   (.seq (.block 1
    (.seq (.reg [
      ⟨(some 10), .iaddr 1 (.tmp 6) (.tmp 8), none, 0, false, false, none⟩,
      ⟨(some 11), .load1 (.tmp 10), none, 0, false, false, none⟩,
      ⟨(some 5), .mv (.tmp 11), none, 0, false, false, none⟩])
    (.seq (.reg [
      ⟨(some 12), .mv (.tmp 5), none, 0, false, false, none⟩,
      ⟨(some 13), .mv (.tmp 3), none, 0, false, false, none⟩,
      ⟨(some 14), .eql (.b .int) true (.tmp 12) (.tmp 13), none, 0, false, false, none⟩])
    (.cond (.tmp 14)
     (.seq (.reg [
        ⟨(some 15), .mv (.tmp 5), none, 0, false, false, none⟩,
        ⟨(some 2), .mv (.tmp 15), none, 0, false, false, none⟩])
      .ret)
     .skip))))
   (.reg [
     ⟨(some 16), .ints .add (.tmp 8) (.const (.int .i64 1)), none, 0, false, false, none⟩,
     ⟨(some 8), .mv (.tmp 16), none, 0, false, false, none⟩])))))))
 (.seq (.reg [
   ⟨(some 17), .mv (.tmp 3), none, 0, false, false, none⟩,
   ⟨(some 2), .mv (.tmp 17), none, 0, false, false, none⟩])
 .ret))))
theorem x_cmpO : tblX Tryz.prog X0 54 = some (.fn ⟨18, [(2, none)], s_cmpO.den⟩) := by kernel_rfl

variable {c : C} {h : H} {nsv esv : AV} {ns : List Nd} {es : List Ed} {idN idE : Nat} {mn : Int} {K : AV → H → Prop}

theorem cmpN_ev {x : Int} (hK : K (.bool false) h) : Gv Tryz.prog X0 Mx c 81 [.int .i64 x] h K := by
  have hnt : (6 : Nat) ≤ 1000000 := by decide
  refine gv_fn x_cmpN (MK_other rfl _ _ _) (by simp) hnt ?_
  unfold s_cmpN
  repeat' (first | refine z0 ?_ | refine z2 ?_ | refine z3 ?_ | refine z6 ?_ | refine z7 ?_ | refine z8 ?_ | refine z9 ?_ | refine za ?_ | refine zh ?_ | refine zj ?_ | refine zk ?_ | (refine zm ?_ ?_ <;> intro hc <;> try (exfalso; omega)) | (refine zo ?_ ?_ <;> intro hc <;> try (exfalso; omega)) | (refine zq ?_ ?_ <;> intro hc <;> try (exfalso; omega)) | refine wg_nil ?_ | refine then_go ?_ | refine wc_seq ?_ | refine wc_reg ?_ | refine wc_dreg ?_ | refine wc_block ?_ | refine zu ?_ | refine zv ?_ | refine wc_skip ?_ | refine wc_exit ?_ | refine wc_ret ?_ | refine then_ret ?_ | refine then_exit ?_ | refine out_go ?_ | refine out_ret ?_ | refine zA ?_ | refine zB ?_ | refine zw ?_ | refine zx ?_ | refine zy ?_ | refine wd_nil ?_)
  all_goals first
    | exact ⟨Or.inr rfl, _, rfl, hK⟩
    | exact absurd rfl hc
theorem cmpC_ev {a b : Int} (hK : K (.int .i64 (cmpV a b)) h) : Gv Tryz.prog X0 Mx c 55 [.int .i64 a, .int .i64 b] h K := by
  have hnt : (20 : Nat) ≤ 1000000 := by decide
  refine gv_fn x_cmpC (MK_other rfl _ _ _) (by simp) hnt ?_
  unfold s_cmpC
  repeat' (first | refine z0 ?_ | refine z2 ?_ | refine z3 ?_ | refine z6 ?_ | refine z7 ?_ | refine z8 ?_ | refine z9 ?_ | refine za ?_ | refine zh ?_ | refine zj ?_ | refine zk ?_ | (refine zm ?_ ?_ <;> intro hc <;> try (exfalso; omega)) | (refine zo ?_ ?_ <;> intro hc <;> try (exfalso; omega)) | (refine zq ?_ ?_ <;> intro hc <;> try (exfalso; omega)) | refine wg_nil ?_ | refine then_go ?_ | refine wc_seq ?_ | refine wc_reg ?_ | refine wc_dreg ?_ | refine wc_block ?_ | refine zu ?_ | refine zv ?_ | refine wc_skip ?_ | refine wc_exit ?_ | refine wc_ret ?_ | refine then_ret ?_ | refine then_exit ?_ | refine out_go ?_ | refine out_ret ?_ | refine zA ?_ | refine zB ?_ | refine zw ?_ | refine zx ?_ | refine zy ?_ | refine wd_nil ?_)
  refine wo_call rfl rfl (cmpN_ev ?_)
  repeat' (first | refine z0 ?_ | refine z2 ?_ | refine z3 ?_ | refine z6 ?_ | refine z7 ?_ | refine z8 ?_ | refine z9 ?_ | refine za ?_ | refine zh ?_ | refine zj ?_ | refine zk ?_ | (refine zm ?_ ?_ <;> intro hc <;> try (exfalso; omega)) | (refine zo ?_ ?_ <;> intro hc <;> try (exfalso; omega)) | (refine zq ?_ ?_ <;> intro hc <;> try (exfalso; omega)) | refine wg_nil ?_ | refine then_go ?_ | refine wc_seq ?_ | refine wc_reg ?_ | refine wc_dreg ?_ | refine wc_block ?_ | refine zu ?_ | refine zv ?_ | refine wc_skip ?_ | refine wc_exit ?_ | refine wc_ret ?_ | refine then_ret ?_ | refine then_exit ?_ | refine out_go ?_ | refine out_ret ?_ | refine zA ?_ | refine zB ?_ | refine zw ?_ | refine zx ?_ | refine zy ?_ | refine wd_nil ?_)
  refine wo_call rfl rfl (cmpN_ev ?_)
  repeat' (first | refine z0 ?_ | refine z2 ?_ | refine z3 ?_ | refine z6 ?_ | refine z7 ?_ | refine z8 ?_ | refine z9 ?_ | refine za ?_ | refine zh ?_ | refine zj ?_ | refine zk ?_ | (refine zm ?_ ?_ <;> intro hc <;> try (exfalso; omega)) | (refine zo ?_ ?_ <;> intro hc <;> try (exfalso; omega)) | (refine zq ?_ ?_ <;> intro hc <;> try (exfalso; omega)) | refine wg_nil ?_ | refine then_go ?_ | refine wc_seq ?_ | refine wc_reg ?_ | refine wc_dreg ?_ | refine wc_block ?_ | refine zu ?_ | refine zv ?_ | refine wc_skip ?_ | refine wc_exit ?_ | refine wc_ret ?_ | refine then_ret ?_ | refine then_exit ?_ | refine out_go ?_ | refine out_ret ?_ | refine zA ?_ | refine zB ?_ | refine zw ?_ | refine zx ?_ | refine zy ?_ | refine wd_nil ?_)
  all_goals first
    | (rw [cmpV_lt (by omega)] at hK; exact ⟨Or.inr rfl, _, rfl, hK⟩)
    | (rw [cmpV_gt (by omega)] at hK; exact ⟨Or.inr rfl, _, rfl, hK⟩)
    | (rw [cmpV_eq (by omega)] at hK; exact ⟨Or.inr rfl, _, rfl, hK⟩)
theorem cmpO_ev {l : List Int} {sv : AV} {id : Nat} (hA : Arr h sv 1 (l.map rI) id) (hs : seen c.vis id = true) (hl : l.length ≤ 100) (hK : K (.int .i64 (orV l)) h) : Gv Tryz.prog X0 Mx c 54 [sv] h K := by
  have hnt : (18 : Nat) ≤ 1000000 := by decide
  have hlA : (l.map rI).length = l.length := List.length_map ..
  refine gv_fn x_cmpO (MK_other rfl _ _ _) (by simp) hnt ?_
  unfold s_cmpO
  repeat' (first | refine z0 ?_ | refine z2 ?_ | refine z3 ?_ | refine z6 ?_ | refine z7 ?_ | refine z8 ?_ | refine z9 ?_ | refine za ?_ | refine zh ?_ | refine zj ?_ | refine zk ?_ | (refine zm ?_ ?_ <;> intro hc <;> try (exfalso; omega)) | (refine zo ?_ ?_ <;> intro hc <;> try (exfalso; omega)) | (refine zq ?_ ?_ <;> intro hc <;> try (exfalso; omega)) | refine wg_nil ?_ | refine then_go ?_ | refine wc_seq ?_ | refine wc_reg ?_ | refine wc_dreg ?_ | refine wc_block ?_ | refine zu ?_ | refine zv ?_ | refine wc_skip ?_ | refine wc_exit ?_ | refine wc_ret ?_ | refine then_ret ?_ | refine then_exit ?_ | refine out_go ?_ | refine out_ret ?_ | refine zA ?_ | refine zB ?_ | refine zw ?_ | refine zx ?_ | refine zy ?_ | refine wd_nil ?_)
  refine wc_loopE (ι := Nat) (fun j => [(3, .int .i64 0), (6, sv), (7, .int .i64 ((l.map rI).length : Int)), (8, .int .i64 (j : Int))]) (fun j h' => h' = h ∧ j ≤ l.length ∧ orV l = orV (l.drop j)) (fun j => l.length - j) ?_ 0 ⟨rfl, Nat.zero_le _, by simp⟩ (Sub'.cons rfl (Sub'.cons rfl (Sub'.cons rfl (Sub'.cons rfl (Sub'.nil _)))))
  rintro j h' ⟨rfl, hj, hz⟩
  try simp only at hj hz ⊢
  by_cases hlt : j < l.length
  · rw [or_drop hlt] at hz
    repeat' (first | refine z0 ?_ | refine z2 ?_ | refine z3 ?_ | refine z6 ?_ | refine z7 ?_ | refine z8 ?_ | refine z9 ?_ | refine za ?_ | refine zh ?_ | refine zj ?_ | refine zk ?_ | (refine zm ?_ ?_ <;> intro hc <;> try (exfalso; omega)) | (refine zo ?_ ?_ <;> intro hc <;> try (exfalso; omega)) | (refine zq ?_ ?_ <;> intro hc <;> try (exfalso; omega)) | refine wg_nil ?_ | refine then_go ?_ | refine wc_seq ?_ | refine wc_reg ?_ | refine wc_dreg ?_ | refine wc_block ?_ | refine zu ?_ | refine zv ?_ | refine wc_skip ?_ | refine wc_exit ?_ | refine wc_ret ?_ | refine then_ret ?_ | refine then_exit ?_ | refine out_go ?_ | refine out_ret ?_ | refine zA ?_ | refine zB ?_ | refine zw ?_ | refine zx ?_ | refine zy ?_ | refine wd_nil ?_)
    all_goals first
      | (rw [if_pos (by omega)] at hz; rw [hz] at hK; exact ⟨Or.inr rfl, _, rfl, hK⟩)
      | (rw [if_neg (by omega)] at hz; exact ⟨j + 1, by simp; omega, (Sub'.cons rfl (Sub'.cons rfl (Sub'.cons rfl (Sub'.cons rfl (Sub'.nil _))))), rfl, hlt, hz⟩)
  · rw [List.drop_eq_nil_of_le (by omega)] at hz
    repeat' (first | refine z0 ?_ | refine z2 ?_ | refine z3 ?_ | refine z6 ?_ | refine z7 ?_ | refine z8 ?_ | refine z9 ?_ | refine za ?_ | refine zh ?_ | refine zj ?_ | refine zk ?_ | (refine zm ?_ ?_ <;> intro hc <;> try (exfalso; omega)) | (refine zo ?_ ?_ <;> intro hc <;> try (exfalso; omega)) | (refine zq ?_ ?_ <;> intro hc <;> try (exfalso; omega)) | refine wg_nil ?_ | refine then_go ?_ | refine wc_seq ?_ | refine wc_reg ?_ | refine wc_dreg ?_ | refine wc_block ?_ | refine zu ?_ | refine zv ?_ | refine wc_skip ?_ | refine wc_exit ?_ | refine wc_ret ?_ | refine then_ret ?_ | refine then_exit ?_ | refine out_go ?_ | refine out_ret ?_ | refine zA ?_ | refine zB ?_ | refine zw ?_ | refine zx ?_ | refine zy ?_ | refine wd_nil ?_)
    rw [hz] at hK; exact ⟨Or.inr rfl, _, rfl, hK⟩
theorem orderNode_ev {a b : Nd} (hcx : Cx c h) (hn : h.n < 9000000) (hK : ∀ h', Grew h h' → h'.n ≤ h.n + 3 → K (.int .i64 (ordN a b)) h') :
    Gv Tryz.prog X0 Mx c 28 [.agg [.int .i64 a.f, .int .i64 a.k, .int .i64 a.i], .agg [.int .i64 b.f, .int .i64 b.k, .int .i64 b.i]] h K := by
  have hnt : (22 : Nat) ≤ 1000000 := by decide
  refine gv_fn x_orderNode (MK_other rfl _ _ _) (by simp) hnt ?_
  unfold s_orderNode
  refine wc_seq (wc_reg (rg_go hnt rfl rfl (wo_boxA rfl rfl (by omega) fun h1 hn1 hb1 hgr => ?_)))
  refine rg_go hnt rfl rfl (wo_boxA rfl rfl (by omega) fun h2 hn2 hb2 hgr2 => ?_)
  have hb1' := (hgr2.get h.n (by omega)).trans hb1
  have hsb : seen c.vis h.n = true := hcx.new (Nat.le_refl _) (by omega)
  have hsb2 : seen c.vis h1.n = true := hcx.new (by omega) (by omega)
  have hlow := hcx.low
  repeat' (first | refine z0 ?_ | refine z2 ?_ | refine z3 ?_ | refine z6 ?_ | refine z7 ?_ | refine z8 ?_ | refine z9 ?_ | refine za ?_ | refine zh ?_ | refine zj ?_ | refine zk ?_ | (refine zm ?_ ?_ <;> intro hc <;> try (exfalso; omega)) | (refine zo ?_ ?_ <;> intro hc <;> try (exfalso; omega)) | (refine zq ?_ ?_ <;> intro hc <;> try (exfalso; omega)) | refine wg_nil ?_ | refine then_go ?_ | refine wc_seq ?_ | refine wc_reg ?_ | refine wc_dreg ?_ | refine wc_block ?_ | refine zu ?_ | refine zv ?_ | refine wc_skip ?_ | refine wc_exit ?_ | refine wc_ret ?_ | refine then_ret ?_ | refine then_exit ?_ | refine out_go ?_ | refine out_ret ?_ | refine zA ?_ | refine zB ?_ | refine zw ?_ | refine zx ?_ | refine zy ?_ | refine wd_nil ?_)
  refine rd_bar hnt rfl rfl (wo_call rfl rfl (cmpC_ev ⟨(by repeat (first | exact unchF_nil | refine unchF_cons (by decide) ?_)), ?_⟩))
  repeat' (first | refine z0 ?_ | refine z2 ?_ | refine z3 ?_ | refine z6 ?_ | refine z7 ?_ | refine z8 ?_ | refine z9 ?_ | refine za ?_ | refine zh ?_ | refine zj ?_ | refine zk ?_ | (refine zm ?_ ?_ <;> intro hc <;> try (exfalso; omega)) | (refine zo ?_ ?_ <;> intro hc <;> try (exfalso; omega)) | (refine zq ?_ ?_ <;> intro hc <;> try (exfalso; omega)) | refine wg_nil ?_ | refine then_go ?_ | refine wc_seq ?_ | refine wc_reg ?_ | refine wc_dreg ?_ | refine wc_block ?_ | refine zu ?_ | refine zv ?_ | refine wc_skip ?_ | refine wc_exit ?_ | refine wc_ret ?_ | refine then_ret ?_ | refine then_exit ?_ | refine out_go ?_ | refine out_ret ?_ | refine zA ?_ | refine zB ?_ | refine zw ?_ | refine zx ?_ | refine zy ?_ | refine wd_nil ?_)
  refine rd_bar hnt rfl rfl (wo_call rfl rfl (cmpC_ev ⟨(by repeat (first | exact unchF_nil | refine unchF_cons (by decide) ?_)), ?_⟩))
  repeat' (first | refine z0 ?_ | refine z2 ?_ | refine z3 ?_ | refine z6 ?_ | refine z7 ?_ | refine z8 ?_ | refine z9 ?_ | refine za ?_ | refine zh ?_ | refine zj ?_ | refine zk ?_ | (refine zm ?_ ?_ <;> intro hc <;> try (exfalso; omega)) | (refine zo ?_ ?_ <;> intro hc <;> try (exfalso; omega)) | (refine zq ?_ ?_ <;> intro hc <;> try (exfalso; omega)) | refine wg_nil ?_ | refine then_go ?_ | refine wc_seq ?_ | refine wc_reg ?_ | refine wc_dreg ?_ | refine wc_block ?_ | refine zu ?_ | refine zv ?_ | refine wc_skip ?_ | refine wc_exit ?_ | refine wc_ret ?_ | refine then_ret ?_ | refine then_exit ?_ | refine out_go ?_ | refine out_ret ?_ | refine zA ?_ | refine zB ?_ | refine zw ?_ | refine zx ?_ | refine zy ?_ | refine wd_nil ?_)
  refine rd_bar hnt rfl rfl (wo_call rfl rfl (cmpC_ev ⟨(by repeat (first | exact unchF_nil | refine unchF_cons (by decide) ?_)), ?_⟩))
  repeat' (first | refine z0 ?_ | refine z2 ?_ | refine z3 ?_ | refine z6 ?_ | refine z7 ?_ | refine z8 ?_ | refine z9 ?_ | refine za ?_ | refine zh ?_ | refine zj ?_ | refine zk ?_ | (refine zm ?_ ?_ <;> intro hc <;> try (exfalso; omega)) | (refine zo ?_ ?_ <;> intro hc <;> try (exfalso; omega)) | (refine zq ?_ ?_ <;> intro hc <;> try (exfalso; omega)) | refine wg_nil ?_ | refine then_go ?_ | refine wc_seq ?_ | refine wc_reg ?_ | refine wc_dreg ?_ | refine wc_block ?_ | refine zu ?_ | refine zv ?_ | refine wc_skip ?_ | refine wc_exit ?_ | refine wc_ret ?_ | refine then_ret ?_ | refine then_exit ?_ | refine out_go ?_ | refine out_ret ?_ | refine zA ?_ | refine zB ?_ | refine zw ?_ | refine zx ?_ | refine zy ?_ | refine wd_nil ?_)
  refine wo_bsliceA rfl (by omega) fun h3 hn3 hb3 hgr3 => ?_
  have hA : Arr h3 (.sl h2.n 0 3 1 (some 3)) 1 ([cmpV a.f b.f, cmpV a.k b.k, cmpV a.i b.i].map rI) h2.n := Arr.mkN rfl (by omega) (by omega) hb3 rfl (by simp [rI])
  refine rd_bar hnt rfl rfl (wo_call rfl rfl (cmpO_ev hA (by repeat (first | exact seen_hit (by decide) (by omega) (by omega) (by omega) | refine seen_skip (by omega) ?_ (by omega))) (by simp) ⟨(by repeat (first | exact unchF_nil | refine unchF_cons (by decide) ?_)), ?_⟩))
  repeat' (first | refine z0 ?_ | refine z2 ?_ | refine z3 ?_ | refine z6 ?_ | refine z7 ?_ | refine z8 ?_ | refine z9 ?_ | refine za ?_ | refine zh ?_ | refine zj ?_ | refine zk ?_ | (refine zm ?_ ?_ <;> intro hc <;> try (exfalso; omega)) | (refine zo ?_ ?_ <;> intro hc <;> try (exfalso; omega)) | (refine zq ?_ ?_ <;> intro hc <;> try (exfalso; omega)) | refine wg_nil ?_ | refine then_go ?_ | refine wc_seq ?_ | refine wc_reg ?_ | refine wc_dreg ?_ | refine wc_block ?_ | refine zu ?_ | refine zv ?_ | refine wc_skip ?_ | refine wc_exit ?_ | refine wc_ret ?_ | refine then_ret ?_ | refine then_exit ?_ | refine out_go ?_ | refine out_ret ?_ | refine zA ?_ | refine zB ?_ | refine zw ?_ | refine zx ?_ | refine zy ?_ | refine wd_nil ?_)
  exact ⟨Or.inr rfl, _, rfl, hK _ ((hgr.trans hgr2).trans hgr3) (by omega)⟩
theorem orderEdge_ev {a b : Ed} (hcx : Cx c h) (hn : h.n < 9000000) (hK : ∀ h', Grew h h' → h'.n ≤ h.n + 3 → K (.int .i64 (ordE a b)) h') :
    Gv Tryz.prog X0 Mx c 31 [.agg [.int .i64 a.a, .int .i64 a.b, .int .i64 a.k, .int .i64 a.c], .agg [.int .i64 b.a, .int .i64 b.b, .int .i64 b.k, .int .i64 b.c]] h K := by
  have hnt : (27 : Nat) ≤ 1000000 := by decide
  refine gv_fn x_orderEdge (MK_other rfl _ _ _) (by simp) hnt ?_
  unfold s_orderEdge
  refine wc_seq (wc_reg (rg_go hnt rfl rfl (wo_boxA rfl rfl (by omega) fun h1 hn1 hb1 hgr => ?_)))
  refine rg_go hnt rfl rfl (wo_boxA rfl rfl (by omega) fun h2 hn2 hb2 hgr2 => ?_)
  have hb1' := (hgr2.get h.n (by omega)).trans hb1
  have hsb : seen c.vis h.n = true := hcx.new (Nat.le_refl _) (by omega)
  have hsb2 : seen c.vis h1.n = true := hcx.new (by omega) (by omega)
  have hlow := hcx.low
  repeat' (first | refine z0 ?_ | refine z2 ?_ | refine z3 ?_ | refine z6 ?_ | refine z7 ?_ | refine z8 ?_ | refine z9 ?_ | refine za ?_ | refine zh ?_ | refine zj ?_ | refine zk ?_ | (refine zm ?_ ?_ <;> intro hc <;> try (exfalso; omega)) | (refine zo ?_ ?_ <;> intro hc <;> try (exfalso; omega)) | (refine zq ?_ ?_ <;> intro hc <;> try (exfalso; omega)) | refine wg_nil ?_ | refine then_go ?_ | refine wc_seq ?_ | refine wc_reg ?_ | refine wc_dreg ?_ | refine wc_block ?_ | refine zu ?_ | refine zv ?_ | refine wc_skip ?_ | refine wc_exit ?_ | refine wc_ret ?_ | refine then_ret ?_ | refine then_exit ?_ | refine out_go ?_ | refine out_ret ?_ | refine zA ?_ | refine zB ?_ | refine zw ?_ | refine zx ?_ | refine zy ?_ | refine wd_nil ?_)
  refine rd_bar hnt rfl rfl (wo_call rfl rfl (cmpC_ev ⟨(by repeat (first | exact unchF_nil | refine unchF_cons (by decide) ?_)), ?_⟩))
  repeat' (first | refine z0 ?_ | refine z2 ?_ | refine z3 ?_ | refine z6 ?_ | refine z7 ?_ | refine z8 ?_ | refine z9 ?_ | refine za ?_ | refine zh ?_ | refine zj ?_ | refine zk ?_ | (refine zm ?_ ?_ <;> intro hc <;> try (exfalso; omega)) | (refine zo ?_ ?_ <;> intro hc <;> try (exfalso; omega)) | (refine zq ?_ ?_ <;> intro hc <;> try (exfalso; omega)) | refine wg_nil ?_ | refine then_go ?_ | refine wc_seq ?_ | refine wc_reg ?_ | refine wc_dreg ?_ | refine wc_block ?_ | refine zu ?_ | refine zv ?_ | refine wc_skip ?_ | refine wc_exit ?_ | refine wc_ret ?_ | refine then_ret ?_ | refine then_exit ?_ | refine out_go ?_ | refine out_ret ?_ | refine zA ?_ | refine zB ?_ | refine zw ?_ | refine zx ?_ | refine zy ?_ | refine wd_nil ?_)
  refine rd_bar hnt rfl rfl (wo_call rfl rfl (cmpC_ev ⟨(by repeat (first | exact unchF_nil | refine unchF_cons (by decide) ?_)), ?_⟩))
  repeat' (first | refine z0 ?_ | refine z2 ?_ | refine z3 ?_ | refine z6 ?_ | refine z7 ?_ | refine z8 ?_ | refine z9 ?_ | refine za ?_ | refine zh ?_ | refine zj ?_ | refine zk ?_ | (refine zm ?_ ?_ <;> intro hc <;> try (exfalso; omega)) | (refine zo ?_ ?_ <;> intro hc <;> try (exfalso; omega)) | (refine zq ?_ ?_ <;> intro hc <;> try (exfalso; omega)) | refine wg_nil ?_ | refine then_go ?_ | refine wc_seq ?_ | refine wc_reg ?_ | refine wc_dreg ?_ | refine wc_block ?_ | refine zu ?_ | refine zv ?_ | refine wc_skip ?_ | refine wc_exit ?_ | refine wc_ret ?_ | refine then_ret ?_ | refine then_exit ?_ | refine out_go ?_ | refine out_ret ?_ | refine zA ?_ | refine zB ?_ | refine zw ?_ | refine zx ?_ | refine zy ?_ | refine wd_nil ?_)
  refine rd_bar hnt rfl rfl (wo_call rfl rfl (cmpC_ev ⟨(by repeat (first | exact unchF_nil | refine unchF_cons (by decide) ?_)), ?_⟩))
  repeat' (first | refine z0 ?_ | refine z2 ?_ | refine z3 ?_ | refine z6 ?_ | refine z7 ?_ | refine z8 ?_ | refine z9 ?_ | refine za ?_ | refine zh ?_ | refine zj ?_ | refine zk ?_ | (refine zm ?_ ?_ <;> intro hc <;> try (exfalso; omega)) | (refine zo ?_ ?_ <;> intro hc <;> try (exfalso; omega)) | (refine zq ?_ ?_ <;> intro hc <;> try (exfalso; omega)) | refine wg_nil ?_ | refine then_go ?_ | refine wc_seq ?_ | refine wc_reg ?_ | refine wc_dreg ?_ | refine wc_block ?_ | refine zu ?_ | refine zv ?_ | refine wc_skip ?_ | refine wc_exit ?_ | refine wc_ret ?_ | refine then_ret ?_ | refine then_exit ?_ | refine out_go ?_ | refine out_ret ?_ | refine zA ?_ | refine zB ?_ | refine zw ?_ | refine zx ?_ | refine zy ?_ | refine wd_nil ?_)
  refine rd_bar hnt rfl rfl (wo_call rfl rfl (cmpC_ev ⟨(by repeat (first | exact unchF_nil | refine unchF_cons (by decide) ?_)), ?_⟩))
  repeat' (first | refine z0 ?_ | refine z2 ?_ | refine z3 ?_ | refine z6 ?_ | refine z7 ?_ | refine z8 ?_ | refine z9 ?_ | refine za ?_ | refine zh ?_ | refine zj ?_ | refine zk ?_ | (refine zm ?_ ?_ <;> intro hc <;> try (exfalso; omega)) | (refine zo ?_ ?_ <;> intro hc <;> try (exfalso; omega)) | (refine zq ?_ ?_ <;> intro hc <;> try (exfalso; omega)) | refine wg_nil ?_ | refine then_go ?_ | refine wc_seq ?_ | refine wc_reg ?_ | refine wc_dreg ?_ | refine wc_block ?_ | refine zu ?_ | refine zv ?_ | refine wc_skip ?_ | refine wc_exit ?_ | refine wc_ret ?_ | refine then_ret ?_ | refine then_exit ?_ | refine out_go ?_ | refine out_ret ?_ | refine zA ?_ | refine zB ?_ | refine zw ?_ | refine zx ?_ | refine zy ?_ | refine wd_nil ?_)
  refine wo_bsliceA rfl (by omega) fun h3 hn3 hb3 hgr3 => ?_
  have hA : Arr h3 (.sl h2.n 0 4 1 (some 4)) 1 ([cmpV a.a b.a, cmpV a.b b.b, cmpV a.k b.k, cmpV a.c b.c].map rI) h2.n := Arr.mkN rfl (by omega) (by omega) hb3 rfl (by simp [rI])
  refine rd_bar hnt rfl rfl (wo_call rfl rfl (cmpO_ev hA (by repeat (first | exact seen_hit (by decide) (by omega) (by omega) (by omega) | refine seen_skip (by omega) ?_ (by omega))) (by simp) ⟨(by repeat (first | exact unchF_nil | refine unchF_cons (by decide) ?_)), ?_⟩))
  repeat' (first | refine z0 ?_ | refine z2 ?_ | refine z3 ?_ | refine z6 ?_ | refine z7 ?_ | refine z8 ?_ | refine z9 ?_ | refine za ?_ | refine zh ?_ | refine zj ?_ | refine zk ?_ | (refine zm ?_ ?_ <;> intro hc <;> try (exfalso; omega)) | (refine zo ?_ ?_ <;> intro hc <;> try (exfalso; omega)) | (refine zq ?_ ?_ <;> intro hc <;> try (exfalso; omega)) | refine wg_nil ?_ | refine then_go ?_ | refine wc_seq ?_ | refine wc_reg ?_ | refine wc_dreg ?_ | refine wc_block ?_ | refine zu ?_ | refine zv ?_ | refine wc_skip ?_ | refine wc_exit ?_ | refine wc_ret ?_ | refine then_ret ?_ | refine then_exit ?_ | refine out_go ?_ | refine out_ret ?_ | refine zA ?_ | refine zB ?_ | refine zw ?_ | refine zx ?_ | refine zy ?_ | refine wd_nil ?_)
  exact ⟨Or.inr rfl, _, rfl, hK _ ((hgr.trans hgr2).trans hgr3) (by omega)⟩
end Go.Proofs.YtlocnfaeiacphaaGreatDoor.Ev
