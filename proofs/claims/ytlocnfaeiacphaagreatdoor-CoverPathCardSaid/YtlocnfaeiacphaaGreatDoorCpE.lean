/- Contracts of the reference: fits. -/
import Derived.Test.YtlocnfaeiacphaaGreatDoorSyH
import Derived.Test.YtlocnfaeiacphaaGreatDoorCpD
import Derived.KernelRfl
set_option linter.unusedVariables false
set_option linter.unusedSimpArgs false
set_option maxHeartbeats 4000000
namespace Go.Proofs.YtlocnfaeiacphaaGreatDoor.Ev
open Go

variable {c : C} {h : H} {nsv esv : AV} {ns : List Nd} {es : List Ed} {idN idE : Nat} {mn : Int} {K : AV → H → Prop}
theorem fits_ev {e : Ed} (hbe : badE ns.length e = 0) (hcx : Cx c h) (hN : Arr h nsv 3 (ns.map Nd.row) idN) (hE : Arr h esv 4 (es.map Ed.row) idE) (hidN : idN < h.n) (hsN : seen c.vis idN = true) (hsE : seen c.vis idE = true) (hl : ns.length ≤ 100) (hle : es.length ≤ 100) (hn : h.n < 8000000) (hK : ∀ h', Grew h h' → h'.n ≤ h.n + 110 → K (.bool (fitsR ns (callsR ns es e.c (nd ns e.a).f) e)) h') :
    Gv Tryz.prog X0 Mx c 39 [.agg [nsv, esv, .int .i64 mn], .agg [.int .i64 e.a, .int .i64 e.b, .int .i64 e.k, .int .i64 e.c]] h K := by
  have hnt : (119 : Nat) ≤ 1000000 := by decide
  have hlN : (ns.map Nd.row).length = ns.length := List.length_map ..
  have hlE : (es.map Ed.row).length = es.length := List.length_map ..
  obtain ⟨hi1, hi2, hi3, hi4, hi5, hi6, hi7⟩ := badE_in hbe
  have kt : fitsR ns (callsR ns es e.c (nd ns e.a).f) e = true → ∀ h', Grew h h' → h'.n ≤ h.n + 110 → K (.bool true) h' := fun q h' g l => by have := hK h' g l; rwa [q] at this
  have kf : ¬ (fitsR ns (callsR ns es e.c (nd ns e.a).f) e = true) → ∀ h', Grew h h' → h'.n ≤ h.n + 110 → K (.bool false) h' := fun q h' g l => by have := hK h' g l; rw [Bool.not_eq_true] at q; rwa [q] at this
  refine gv_fn x_fits (MK_other rfl _ _ _) (by simp) hnt ?_
  unfold s_fits
  refine wc_seq (wc_reg (rg_go hnt rfl rfl (wo_boxA rfl rfl (by omega) fun h1 hn1 hb1 hgr => ?_)))
  refine rg_go hnt rfl rfl (wo_boxA rfl rfl (by omega) fun h2 hn2 hb2 hgr2 => ?_)
  have hb1' := (hgr2.get h.n (by omega)).trans hb1
  have hsb : seen c.vis h.n = true := hcx.new (Nat.le_refl _) (by omega)
  have hsb2 : seen c.vis h1.n = true := hcx.new (by omega) (by omega)
  have hgA := hgr.trans hgr2
  have hN2 := hN.grew hgA
  have hlow := hcx.low
  repeat' (first | refine z0 ?_ | refine z1 ?_ | refine z2 ?_ | refine z3 ?_ | refine z8 ?_ | refine z9 ?_ | refine zc ?_ | refine zd ?_ | refine zh ?_ | refine zi ?_ | refine zj ?_ | refine zl ?_ | (refine zq ?_ ?_ <;> intro hc <;> try (exfalso; omega)) | refine wg_nil ?_ | refine then_go ?_ | refine wc_seq ?_ | refine wc_reg ?_ | refine wc_dreg ?_ | refine wc_block ?_ | refine zu ?_ | refine zv ?_ | refine wc_skip ?_ | refine wc_ret ?_ | refine then_ret ?_ | refine out_go ?_ | refine out_ret ?_ | refine zA ?_ | refine zB ?_ | refine zw ?_ | refine zx ?_ | refine zy ?_ | refine wd_nil ?_)
  obtain ⟨_, _, ⟨vsN, hgN, _⟩, _⟩ := hN2.full (by omega)
  refine rd_bs2 hnt rfl (by omega) (by omega) rfl rfl rfl rfl (by rfl) (by rfl) (by rfl) (by rfl) (by rfl) (by rfl) (by rfl) (by rfl) (by decide) (by decide) (fun p g1 g2 k1 k2 => by repeat (first | exact unchF_nil | refine unchF_same ((k1 _ (by omega)).trans (by assumption)) ((k2 _ (by omega)).trans (by assumption)) ?_)) fun h4 hn4 hb4 hb5 hg4 => ?_
  clear hgN
  have hgB := hgA.trans hg4
  have hN4 := hN.grew hgB
  have hE4 := hE.grew hgB
  have hb14 := (hg4.get h.n (by omega)).trans hb1'
  have hb24 := (hg4.get h1.n (by omega)).trans hb2
  have hsb4 : seen c.vis h2.n = true := hcx.new (by omega) (by omega)
  have hsb5 : seen c.vis (h2.n + 1) = true := hcx.new (by omega) (by omega)
  have FITT : ∀ q : (fitsR ns true e = true ∧ fitsR ns false e = true), fitsR ns (callsR ns es e.c (nd ns e.a).f) e = true := fun q => by cases callsR ns es e.c (nd ns e.a).f with | false => exact q.2 | true => exact q.1
  have FITF : ∀ q : (¬ fitsR ns true e = true ∧ ¬ fitsR ns false e = true), ¬ fitsR ns (callsR ns es e.c (nd ns e.a).f) e = true := fun q => by cases callsR ns es e.c (nd ns e.a).f with | false => exact q.2 | true => exact q.1
  repeat' (first | refine z0 ?_ | refine z1 ?_ | refine z2 ?_ | refine z3 ?_ | refine z8 ?_ | refine z9 ?_ | refine zc ?_ | refine zd ?_ | refine zh ?_ | refine zi ?_ | refine zj ?_ | refine zl ?_ | (refine zq ?_ ?_ <;> intro hc <;> try (exfalso; omega)) | refine wg_nil ?_ | refine then_go ?_ | refine wc_seq ?_ | refine wc_reg ?_ | refine wc_dreg ?_ | refine wc_block ?_ | refine zu ?_ | refine zv ?_ | refine wc_skip ?_ | refine wc_ret ?_ | refine then_ret ?_ | refine out_go ?_ | refine out_ret ?_ | refine zA ?_ | refine zB ?_ | refine zw ?_ | refine zx ?_ | refine zy ?_ | refine wd_nil ?_)
  all_goals first
    | exact ⟨Or.inr rfl, _, rfl, kt (FITT (by simp only [fitsR_t, fitsR_f]; omega)) _ hgB (by omega)⟩
    | exact ⟨Or.inr rfl, _, rfl, kf (FITF (by simp only [fitsR_t, fitsR_f]; omega)) _ hgB (by omega)⟩
    | skip
  all_goals
    refine rg_bs hnt (hcx.mono hgB.le) (by omega) rfl rfl (by rfl) (by rfl) (by rfl) (by rfl) fun h5 hn5 hb6 hg5 => ?_
    have hgC := hgB.trans hg5
    have hN5 := hN.grew hgC
    have hE5 := hE.grew hgC
    have hb15 := (hg5.get h.n (by omega)).trans hb14
    have hb25 := (hg5.get h1.n (by omega)).trans hb24
    have hb35 := (hg5.get h2.n (by omega)).trans hb4
    have hb45 := (hg5.get (h2.n + 1) (by omega)).trans hb5
    have hsb6 : seen c.vis h4.n = true := hcx.new (by omega) (by omega)
    repeat' (first | refine z0 ?_ | refine z1 ?_ | refine z2 ?_ | refine z3 ?_ | refine z8 ?_ | refine z9 ?_ | refine zc ?_ | refine zd ?_ | refine zh ?_ | refine zi ?_ | refine zj ?_ | refine zl ?_ | (refine zq ?_ ?_ <;> intro hc <;> try (exfalso; omega)) | refine wg_nil ?_ | refine then_go ?_ | refine wc_seq ?_ | refine wc_reg ?_ | refine wc_dreg ?_ | refine wc_block ?_ | refine zu ?_ | refine zv ?_ | refine wc_skip ?_ | refine wc_ret ?_ | refine then_ret ?_ | refine out_go ?_ | refine out_ret ?_ | refine zA ?_ | refine zB ?_ | refine zw ?_ | refine zx ?_ | refine zy ?_ | refine wd_nil ?_)
  all_goals first
    | exact ⟨Or.inr rfl, _, rfl, kf (FITF (by simp only [fitsR_t, fitsR_f]; omega)) _ hgC (by omega)⟩
    | skip
  all_goals
    refine wo_call rfl rfl (calls_ev (hcx.mono hgC.le) hN5 hE5 hsN hsE hl hle (by omega) fun h6 hg6 hn6 => ?_)
    have hgD := hgC.trans hg6
    have hg6l := hg6.le
    have hb16 := (hg6.get h.n (by omega)).trans hb15
    have hb26 := (hg6.get h1.n (by omega)).trans hb25
    have hb36 := (hg6.get h2.n (by omega)).trans hb35
    have hb46 := (hg6.get (h2.n + 1) (by omega)).trans hb45
    have hb56 := (hg6.get h4.n (by omega)).trans hb6
    cases hcl : callsR ns es e.c (nd ns e.a).f
    all_goals
      rw [hcl] at kt kf
      repeat' (first | refine z0 ?_ | refine z1 ?_ | refine z2 ?_ | refine z3 ?_ | refine z8 ?_ | refine z9 ?_ | refine zc ?_ | refine zd ?_ | refine zh ?_ | refine zi ?_ | refine zj ?_ | refine zl ?_ | (refine zq ?_ ?_ <;> intro hc <;> try (exfalso; omega)) | refine wg_nil ?_ | refine then_go ?_ | refine wc_seq ?_ | refine wc_reg ?_ | refine wc_dreg ?_ | refine wc_block ?_ | refine zu ?_ | refine zv ?_ | refine wc_skip ?_ | refine wc_ret ?_ | refine then_ret ?_ | refine out_go ?_ | refine out_ret ?_ | refine zA ?_ | refine zB ?_ | refine zw ?_ | refine zx ?_ | refine zy ?_ | refine wd_nil ?_)
    all_goals first
      | exact ⟨Or.inr rfl, _, rfl, kt (by simp only [fitsR_t, fitsR_f]; omega) _ hgD (by omega)⟩
      | exact ⟨Or.inr rfl, _, rfl, kf (by simp only [fitsR_t, fitsR_f]; omega) _ hgD (by omega)⟩
end Go.Proofs.YtlocnfaeiacphaaGreatDoor.Ev
