/- Contracts of the reference: nodes. -/
import Derived.Test.YtlocnfaeiacphaaGreatDoorSyH
import Derived.KernelRfl
set_option linter.unusedVariables false
set_option linter.unusedSimpArgs false
set_option maxHeartbeats 4000000
namespace Go.Proofs.YtlocnfaeiacphaaGreatDoor.Ev
open Go

variable {c : C} {h : H} {nsv esv : AV} {ns : List Nd} {es : List Ed} {idN idE : Nat} {mn : Int} {K : AV → H → Prop}

theorem nodes_ev (hcx : Cx c h) (hN : Arr h nsv 3 (ns.map Nd.row) idN) (hidN : idN < h.n) (hsN : seen c.vis idN = true) (hl : ns.length ≤ 100) (hn : h.n < 7000000) (hK : ∀ h', Grew h h' → h'.n ≤ h.n + 801 → K (.int .i64 (errNs ns mn)) h') :
    Gv Tryz.prog X0 Mx c 37 [.agg [nsv, esv, .int .i64 mn]] h K := by
  have hnt : (120 : Nat) ≤ 1000000 := by decide
  have hlN : (ns.map Nd.row).length = ns.length := List.length_map ..
  have hKv : ∀ {v : Int}, errNs ns mn = v → ∀ h', Grew h h' → h'.n ≤ h.n + 801 → K (.int .i64 v) h' := fun q h' g l => by have := hK h' g l; rwa [q] at this
  refine gv_fn x_nodes (MK_other rfl _ _ _) (by simp) hnt ?_
  unfold s_nodes
  refine wc_seq (wc_reg (rg_go hnt rfl rfl (wo_boxA rfl rfl (by omega) fun h1 hn1 hb1 hgr => ?_)))
  have hsb : seen c.vis h.n = true := hcx.new (Nat.le_refl _) (by omega)
  have hlow := hcx.low
  repeat' (first | refine z0 ?_ | refine z1 ?_ | refine z2 ?_ | refine z3 ?_ | refine z6 ?_ | refine z7 ?_ | refine z8 ?_ | refine z9 ?_ | refine za ?_ | refine zb ?_ | refine zc ?_ | refine zd ?_ | refine ze ?_ | refine zf ?_ | refine zh ?_ | refine zi ?_ | refine zj ?_ | refine zl ?_ | (refine zm ?_ ?_ <;> intro hc <;> try (exfalso; omega)) | (refine zo ?_ ?_ <;> intro hc <;> try (exfalso; omega)) | (refine zp ?_ ?_ <;> intro hc <;> try (exfalso; omega)) | (refine zq ?_ ?_ <;> intro hc <;> try (exfalso; omega)) | refine wg_nil ?_ | refine then_go ?_ | refine wc_seq ?_ | refine wc_reg ?_ | refine wc_dreg ?_ | refine wc_block ?_ | refine zu ?_ | refine zv ?_ | refine wc_skip ?_ | refine wc_exit ?_ | refine wc_ret ?_ | refine then_ret ?_ | refine then_exit ?_ | refine out_go ?_ | refine out_ret ?_ | refine zA ?_ | refine zB ?_ | refine zw ?_ | refine zx ?_ | refine zy ?_ | refine wd_nil ?_)
  refine wc_loopE (ι := Nat) (fun j => [(1, .ptr h.n 0), (3, .int .i64 (j : Int))]) (fun j h' => Grew h1 h' ∧ h'.n ≤ h1.n + 3 * j ∧ j ≤ ns.length ∧ errN ns 0 = errN ns j) (fun j => ns.length - j) ?_ 0 ⟨Grew.refl _, by omega, Nat.zero_le _, rfl⟩ (Sub'.cons rfl (Sub'.cons rfl (Sub'.nil _)))
  rintro j h' ⟨hg', hle', hj, hz⟩
  try simp only at hj hz ⊢
  have hg'l := hg'.le
  have hb' := (hg'.get h.n (by omega)).trans hb1
  have hgA := hgr.trans hg'
  have hN' := hN.grew hgA
  by_cases hlt : j < ns.length
  · repeat' (first | refine z0 ?_ | refine z1 ?_ | refine z2 ?_ | refine z3 ?_ | refine z6 ?_ | refine z7 ?_ | refine z8 ?_ | refine z9 ?_ | refine za ?_ | refine zb ?_ | refine zc ?_ | refine zd ?_ | refine ze ?_ | refine zf ?_ | refine zh ?_ | refine zi ?_ | refine zj ?_ | refine zl ?_ | (refine zm ?_ ?_ <;> intro hc <;> try (exfalso; omega)) | (refine zo ?_ ?_ <;> intro hc <;> try (exfalso; omega)) | (refine zp ?_ ?_ <;> intro hc <;> try (exfalso; omega)) | (refine zq ?_ ?_ <;> intro hc <;> try (exfalso; omega)) | refine wg_nil ?_ | refine then_go ?_ | refine wc_seq ?_ | refine wc_reg ?_ | refine wc_dreg ?_ | refine wc_block ?_ | refine zu ?_ | refine zv ?_ | refine wc_skip ?_ | refine wc_exit ?_ | refine wc_ret ?_ | refine then_ret ?_ | refine then_exit ?_ | refine out_go ?_ | refine out_ret ?_ | refine zA ?_ | refine zB ?_ | refine zw ?_ | refine zx ?_ | refine zy ?_ | refine wd_nil ?_)
    refine rg_bs hnt (hcx.mono hgA.le) (by omega) rfl rfl (by rfl) (by rfl) (by rfl) (by rfl) fun h2 hn2 hb2 hg2 => ?_
    have hb'' := (hg2.get h.n (by omega)).trans hb'
    have hgB := hgA.trans hg2
    have hg'2 := hg'.trans hg2
    have hN2 := hN.grew hgB
    have hsb2 : seen c.vis h'.n = true := hcx.new (by omega) (by omega)
    by_cases h0 : 0 < j
    · repeat' (first | refine z0 ?_ | refine z1 ?_ | refine z2 ?_ | refine z3 ?_ | refine z6 ?_ | refine z7 ?_ | refine z8 ?_ | refine z9 ?_ | refine za ?_ | refine zb ?_ | refine zc ?_ | refine zd ?_ | refine ze ?_ | refine zf ?_ | refine zh ?_ | refine zi ?_ | refine zj ?_ | refine zl ?_ | (refine zm ?_ ?_ <;> intro hc <;> try (exfalso; omega)) | (refine zo ?_ ?_ <;> intro hc <;> try (exfalso; omega)) | (refine zp ?_ ?_ <;> intro hc <;> try (exfalso; omega)) | (refine zq ?_ ?_ <;> intro hc <;> try (exfalso; omega)) | refine wg_nil ?_ | refine then_go ?_ | refine wc_seq ?_ | refine wc_reg ?_ | refine wc_dreg ?_ | refine wc_block ?_ | refine zu ?_ | refine zv ?_ | refine wc_skip ?_ | refine wc_exit ?_ | refine wc_ret ?_ | refine then_ret ?_ | refine then_exit ?_ | refine out_go ?_ | refine out_ret ?_ | refine zA ?_ | refine zB ?_ | refine zw ?_ | refine zx ?_ | refine zy ?_ | refine wd_nil ?_)
      all_goals first
        | exact ⟨Or.inr rfl, _, rfl, hKv (errNs_bad (hz.trans (errN_bad hlt (by omega) (badN_of (by omega)))) (by omega)) _ hgB (by omega)⟩
        | skip
      all_goals
        have hbn : badN (nd ns (j : Int)) = 0 := badN_of (by omega)
        refine rd_bar hnt rfl rfl (wo_call rfl rfl (less_ev (Cx.mem (by omega)) (by omega) fun h3 hg3 hn3 => ⟨(by repeat (first | exact unchF_nil | refine unchF_cons (by decide) ?_)), ?_⟩))
        have hgC := hgB.trans hg3
        have hg'3 := hg'2.trans hg3
        cases hle : lessN (nd ns ((j : Int) - 1)) (nd ns (j : Int))
        all_goals
          repeat' (first | refine z0 ?_ | refine z1 ?_ | refine z2 ?_ | refine z3 ?_ | refine z6 ?_ | refine z7 ?_ | refine z8 ?_ | refine z9 ?_ | refine za ?_ | refine zb ?_ | refine zc ?_ | refine zd ?_ | refine ze ?_ | refine zf ?_ | refine zh ?_ | refine zi ?_ | refine zj ?_ | refine zl ?_ | (refine zm ?_ ?_ <;> intro hc <;> try (exfalso; omega)) | (refine zo ?_ ?_ <;> intro hc <;> try (exfalso; omega)) | (refine zp ?_ ?_ <;> intro hc <;> try (exfalso; omega)) | (refine zq ?_ ?_ <;> intro hc <;> try (exfalso; omega)) | refine wg_nil ?_ | refine then_go ?_ | refine wc_seq ?_ | refine wc_reg ?_ | refine wc_dreg ?_ | refine wc_block ?_ | refine zu ?_ | refine zv ?_ | refine wc_skip ?_ | refine wc_exit ?_ | refine wc_ret ?_ | refine then_ret ?_ | refine then_exit ?_ | refine out_go ?_ | refine out_ret ?_ | refine zA ?_ | refine zB ?_ | refine zw ?_ | refine zx ?_ | refine zy ?_ | refine wd_nil ?_)
        all_goals first
          | exact ⟨Or.inr rfl, _, rfl, hKv (errNs_bad (hz.trans (errN_13 hlt hbn h0 hle)) (by omega)) _ hgC (by omega)⟩
          | exact ⟨j + 1, by simp; omega, Sub'.cons rfl (Sub'.cons rfl (Sub'.nil _)), hg'3, by omega, hlt, hz.trans (errN_go hlt hbn (fun _ => hle))⟩
    · repeat' (first | refine z0 ?_ | refine z1 ?_ | refine z2 ?_ | refine z3 ?_ | refine z6 ?_ | refine z7 ?_ | refine z8 ?_ | refine z9 ?_ | refine za ?_ | refine zb ?_ | refine zc ?_ | refine zd ?_ | refine ze ?_ | refine zf ?_ | refine zh ?_ | refine zi ?_ | refine zj ?_ | refine zl ?_ | (refine zm ?_ ?_ <;> intro hc <;> try (exfalso; omega)) | (refine zo ?_ ?_ <;> intro hc <;> try (exfalso; omega)) | (refine zp ?_ ?_ <;> intro hc <;> try (exfalso; omega)) | (refine zq ?_ ?_ <;> intro hc <;> try (exfalso; omega)) | refine wg_nil ?_ | refine then_go ?_ | refine wc_seq ?_ | refine wc_reg ?_ | refine wc_dreg ?_ | refine wc_block ?_ | refine zu ?_ | refine zv ?_ | refine wc_skip ?_ | refine wc_exit ?_ | refine wc_ret ?_ | refine then_ret ?_ | refine then_exit ?_ | refine out_go ?_ | refine out_ret ?_ | refine zA ?_ | refine zB ?_ | refine zw ?_ | refine zx ?_ | refine zy ?_ | refine wd_nil ?_)
      all_goals first
        | exact ⟨Or.inr rfl, _, rfl, hKv (errNs_bad (hz.trans (errN_bad hlt (by omega) (badN_of (by omega)))) (by omega)) _ hgB (by omega)⟩
        | exact ⟨j + 1, by simp; omega, Sub'.cons rfl (Sub'.cons rfl (Sub'.nil _)), hg'2, by omega, hlt, hz.trans (errN_go hlt (badN_of (by omega)) (fun q => absurd q h0))⟩
  · have hz0 : errN ns 0 = 0 := hz.trans (errN_done hlt)
    repeat' (first | refine z0 ?_ | refine z1 ?_ | refine z2 ?_ | refine z3 ?_ | refine z6 ?_ | refine z7 ?_ | refine z8 ?_ | refine z9 ?_ | refine za ?_ | refine zb ?_ | refine zc ?_ | refine zd ?_ | refine ze ?_ | refine zf ?_ | refine zh ?_ | refine zi ?_ | refine zj ?_ | refine zl ?_ | (refine zm ?_ ?_ <;> intro hc <;> try (exfalso; omega)) | (refine zo ?_ ?_ <;> intro hc <;> try (exfalso; omega)) | (refine zp ?_ ?_ <;> intro hc <;> try (exfalso; omega)) | (refine zq ?_ ?_ <;> intro hc <;> try (exfalso; omega)) | refine wg_nil ?_ | refine then_go ?_ | refine wc_seq ?_ | refine wc_reg ?_ | refine wc_dreg ?_ | refine wc_block ?_ | refine zu ?_ | refine zv ?_ | refine wc_skip ?_ | refine wc_exit ?_ | refine wc_ret ?_ | refine then_ret ?_ | refine then_exit ?_ | refine out_go ?_ | refine out_ret ?_ | refine zA ?_ | refine zB ?_ | refine zw ?_ | refine zx ?_ | refine zy ?_ | refine wd_nil ?_)
    refine wc_loopE (ι := Nat) (fun k => [(1, .ptr h.n 0), (5, .int .i64 (k : Int))]) (fun k h2 => Grew h' h2 ∧ h2.n ≤ h'.n + 5 * k ∧ k ≤ ns.length ∧ threeR ns = (ns.drop k).all fun n => decide (0 ≤ kdIx ns n.f 1) && decide (0 ≤ kdIx ns n.f 3) && decide (0 ≤ kdIx ns n.f 4)) (fun k => ns.length - k) ?_ 0 ⟨Grew.refl _, by omega, Nat.zero_le _, by simp [threeR]⟩ (Sub'.cons rfl (Sub'.cons rfl (Sub'.nil _)))
    rintro k h2 ⟨hg2, hle2, hk, hz2⟩
    try simp only at hk hz2 ⊢
    have hg2l := hg2.le
    have hb2 := (hg2.get h.n (by omega)).trans hb'
    have hgB := hgA.trans hg2
    have hN2 := hN.grew hgB
    by_cases hlk : k < ns.length
    · rw [all_drop hlk, ← nd_nat hlk] at hz2
      repeat' (first | refine z0 ?_ | refine z1 ?_ | refine z2 ?_ | refine z3 ?_ | refine z6 ?_ | refine z7 ?_ | refine z8 ?_ | refine z9 ?_ | refine za ?_ | refine zb ?_ | refine zc ?_ | refine zd ?_ | refine ze ?_ | refine zf ?_ | refine zh ?_ | refine zi ?_ | refine zj ?_ | refine zl ?_ | (refine zm ?_ ?_ <;> intro hc <;> try (exfalso; omega)) | (refine zo ?_ ?_ <;> intro hc <;> try (exfalso; omega)) | (refine zp ?_ ?_ <;> intro hc <;> try (exfalso; omega)) | (refine zq ?_ ?_ <;> intro hc <;> try (exfalso; omega)) | refine wg_nil ?_ | refine then_go ?_ | refine wc_seq ?_ | refine wc_reg ?_ | refine wc_dreg ?_ | refine wc_block ?_ | refine zu ?_ | refine zv ?_ | refine wc_skip ?_ | refine wc_exit ?_ | refine wc_ret ?_ | refine then_ret ?_ | refine then_exit ?_ | refine out_go ?_ | refine out_ret ?_ | refine zA ?_ | refine zB ?_ | refine zw ?_ | refine zx ?_ | refine zy ?_ | refine wd_nil ?_)
      refine wo_call rfl rfl (Exit_ev (hcx.mono hgB.le) hN2 (by omega) hsN hl (by omega) fun h3 hg3 hn3 => ?_)
      have hg3l := hg3.le
      have hb3 := (hg3.get h.n (by omega)).trans hb2
      have hgC := hgB.trans hg3
      have hN3 := hN.grew hgC
      repeat' (first | refine z0 ?_ | refine z1 ?_ | refine z2 ?_ | refine z3 ?_ | refine z6 ?_ | refine z7 ?_ | refine z8 ?_ | refine z9 ?_ | refine za ?_ | refine zb ?_ | refine zc ?_ | refine zd ?_ | refine ze ?_ | refine zf ?_ | refine zh ?_ | refine zi ?_ | refine zj ?_ | refine zl ?_ | (refine zm ?_ ?_ <;> intro hc <;> try (exfalso; omega)) | (refine zo ?_ ?_ <;> intro hc <;> try (exfalso; omega)) | (refine zp ?_ ?_ <;> intro hc <;> try (exfalso; omega)) | (refine zq ?_ ?_ <;> intro hc <;> try (exfalso; omega)) | refine wg_nil ?_ | refine then_go ?_ | refine wc_seq ?_ | refine wc_reg ?_ | refine wc_dreg ?_ | refine wc_block ?_ | refine zu ?_ | refine zv ?_ | refine wc_skip ?_ | refine wc_exit ?_ | refine wc_ret ?_ | refine then_ret ?_ | refine then_exit ?_ | refine out_go ?_ | refine out_ret ?_ | refine zA ?_ | refine zB ?_ | refine zw ?_ | refine zx ?_ | refine zy ?_ | refine wd_nil ?_)
      refine wo_call rfl rfl (Start_ev (hcx.mono hgC.le) hN3 hsN hl (by omega) fun h4 hg4 hn4 => ?_)
      have hg4l := hg4.le
      have hb4 := (hg4.get h.n (by omega)).trans hb3
      have hgD := hgC.trans hg4
      have hg'4 := (hg2.trans hg3).trans hg4
      repeat' (first | refine z0 ?_ | refine z1 ?_ | refine z2 ?_ | refine z3 ?_ | refine z6 ?_ | refine z7 ?_ | refine z8 ?_ | refine z9 ?_ | refine za ?_ | refine zb ?_ | refine zc ?_ | refine zd ?_ | refine ze ?_ | refine zf ?_ | refine zh ?_ | refine zi ?_ | refine zj ?_ | refine zl ?_ | (refine zm ?_ ?_ <;> intro hc <;> try (exfalso; omega)) | (refine zo ?_ ?_ <;> intro hc <;> try (exfalso; omega)) | (refine zp ?_ ?_ <;> intro hc <;> try (exfalso; omega)) | (refine zq ?_ ?_ <;> intro hc <;> try (exfalso; omega)) | refine wg_nil ?_ | refine then_go ?_ | refine wc_seq ?_ | refine wc_reg ?_ | refine wc_dreg ?_ | refine wc_block ?_ | refine zu ?_ | refine zv ?_ | refine wc_skip ?_ | refine wc_exit ?_ | refine wc_ret ?_ | refine then_ret ?_ | refine then_exit ?_ | refine out_go ?_ | refine out_ret ?_ | refine zA ?_ | refine zB ?_ | refine zw ?_ | refine zx ?_ | refine zy ?_ | refine wd_nil ?_)
      all_goals first
        | (have h3 : (decide (0 ≤ kdIx ns (nd ns (k : Int)).f 1) && decide (0 ≤ kdIx ns (nd ns (k : Int)).f 3) && decide (0 ≤ kdIx ns (nd ns (k : Int)).f 4)) = false := by (simp only [Bool.and_eq_false_iff, decide_eq_false_iff_not]; omega)
           rw [h3, Bool.false_and] at hz2
           exact ⟨Or.inr rfl, _, rfl, hKv (errNs_1 hz0 hz2) _ hgD (by omega)⟩)
        | (have h3 : (decide (0 ≤ kdIx ns (nd ns (k : Int)).f 1) && decide (0 ≤ kdIx ns (nd ns (k : Int)).f 3) && decide (0 ≤ kdIx ns (nd ns (k : Int)).f 4)) = true := by (simp only [Bool.and_eq_true, decide_eq_true_eq]; omega)
           rw [h3, Bool.true_and] at hz2
           exact ⟨k + 1, by simp; omega, Sub'.cons rfl (Sub'.cons rfl (Sub'.nil _)), hg'4, by omega, hlk, hz2⟩)
    · rw [List.drop_eq_nil_of_le (by omega), List.all_nil] at hz2
      repeat' (first | refine z0 ?_ | refine z1 ?_ | refine z2 ?_ | refine z3 ?_ | refine z6 ?_ | refine z7 ?_ | refine z8 ?_ | refine z9 ?_ | refine za ?_ | refine zb ?_ | refine zc ?_ | refine zd ?_ | refine ze ?_ | refine zf ?_ | refine zh ?_ | refine zi ?_ | refine zj ?_ | refine zl ?_ | (refine zm ?_ ?_ <;> intro hc <;> try (exfalso; omega)) | (refine zo ?_ ?_ <;> intro hc <;> try (exfalso; omega)) | (refine zp ?_ ?_ <;> intro hc <;> try (exfalso; omega)) | (refine zq ?_ ?_ <;> intro hc <;> try (exfalso; omega)) | refine wg_nil ?_ | refine then_go ?_ | refine wc_seq ?_ | refine wc_reg ?_ | refine wc_dreg ?_ | refine wc_block ?_ | refine zu ?_ | refine zv ?_ | refine wc_skip ?_ | refine wc_exit ?_ | refine wc_ret ?_ | refine then_ret ?_ | refine then_exit ?_ | refine out_go ?_ | refine out_ret ?_ | refine zA ?_ | refine zB ?_ | refine zw ?_ | refine zx ?_ | refine zy ?_ | refine wd_nil ?_)
      all_goals first
        | exact ⟨Or.inr rfl, _, rfl, hKv (errNs_14 hz0 hz2 (by omega)) _ hgB (by omega)⟩
        | exact ⟨Or.inr rfl, _, rfl, hKv (errNs_0 hz0 hz2 (by omega)) _ hgB (by omega)⟩
end Go.Proofs.YtlocnfaeiacphaaGreatDoor.Ev
