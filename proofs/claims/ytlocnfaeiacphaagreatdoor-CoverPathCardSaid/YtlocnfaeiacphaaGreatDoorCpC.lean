/- Contracts of the reference: the orders of nodes and edges. -/
import Derived.Test.YtlocnfaeiacphaaGreatDoorCpB
import Derived.KernelRfl
set_option linter.unusedVariables false
set_option linter.unusedSimpArgs false
set_option maxHeartbeats 4000000
namespace Go.Proofs.YtlocnfaeiacphaaGreatDoor.Ev
open Go

variable {c : C} {h : H} {K : AV → H → Prop}
theorem less_ev {a b : Nd} (hcx : Cx c h) (hn : h.n < 9000000) (hK : ∀ h', Grew h h' → h'.n ≤ h.n + 2 → K (.bool (lessN a b)) h') :
    Gv Tryz.prog X0 Mx c 58 [.agg [.int .i64 a.f, .int .i64 a.k, .int .i64 a.i], .agg [.int .i64 b.f, .int .i64 b.k, .int .i64 b.i]] h K := by
  have hnt : (30 : Nat) ≤ 1000000 := by decide
  have kt : lessN a b = true → ∀ h', Grew h h' → h'.n ≤ h.n + 2 → K (.bool true) h' := fun e h' g l => by have := hK h' g l; rwa [e] at this
  have kf : lessN a b = false → ∀ h', Grew h h' → h'.n ≤ h.n + 2 → K (.bool false) h' := fun e h' g l => by have := hK h' g l; rwa [e] at this
  have hno : ∀ q : ¬ (lessN a b = true), lessN a b = false := fun q => by simpa using q
  refine gv_fn x_less (MK_other rfl _ _ _) (by simp) hnt ?_
  unfold s_less
  refine wc_seq (wc_reg (rg_go hnt rfl rfl (wo_boxA rfl rfl (by omega) fun h1 hn1 hb1 hgr => ?_)))
  refine rg_go hnt rfl rfl (wo_boxA rfl rfl (by omega) fun h2 hn2 hb2 hgr2 => ?_)
  have hb1' := (hgr2.get h.n (by omega)).trans hb1
  have hsb : seen c.vis h.n = true := hcx.new (Nat.le_refl _) (by omega)
  have hsb2 : seen c.vis h1.n = true := hcx.new (by omega) (by omega)
  repeat' (first | refine rg_go hnt rfl rfl ?_ | refine wo_mv rfl ?_ | refine wo_faddr rfl ?_ | refine wo_load1 rfl (by first | assumption | exact seen_two (by omega)) (by assumption) (by first | rfl | assumption) ?_ | refine wo_loadArr1 (by assumption) rfl (by first | assumption | exact seen_two (by omega)) (by assumption) rfl ?_ | (refine wo_lss rfl rfl ?_ ?_ <;> (intro hc; first | (exfalso; omega; done) | skip)) | (refine wo_eqi rfl rfl ?_ ?_ <;> (intro hc; first | (exfalso; omega; done) | skip)) | refine wg_nil ?_ | refine then_go ?_ | refine wc_seq ?_ | refine wc_reg ?_ | refine wc_t rfl ?_ | refine wc_f rfl ?_ | refine wc_skip ?_ | refine wc_ret ?_ | refine then_ret ?_)
  all_goals first
    | exact ⟨Or.inr rfl, _, rfl, kt (lessN_iff.2 (by omega)) _ (hgr.trans hgr2) (by omega)⟩
    | exact ⟨Or.inr rfl, _, rfl, kf (hno fun q => by have := lessN_iff.1 q; omega) _ (hgr.trans hgr2) (by omega)⟩
theorem lessEdge_ev {a b : Ed} (hcx : Cx c h) (hn : h.n < 9000000) (hK : ∀ h', Grew h h' → h'.n ≤ h.n + 2 → K (.bool (lessE a b)) h') :
    Gv Tryz.prog X0 Mx c 38 [.agg [.int .i64 a.a, .int .i64 a.b, .int .i64 a.k, .int .i64 a.c], .agg [.int .i64 b.a, .int .i64 b.b, .int .i64 b.k, .int .i64 b.c]] h K := by
  have hnt : (40 : Nat) ≤ 1000000 := by decide
  have kt : lessE a b = true → ∀ h', Grew h h' → h'.n ≤ h.n + 2 → K (.bool true) h' := fun e h' g l => by have := hK h' g l; rwa [e] at this
  have kf : lessE a b = false → ∀ h', Grew h h' → h'.n ≤ h.n + 2 → K (.bool false) h' := fun e h' g l => by have := hK h' g l; rwa [e] at this
  have hno : ∀ q : ¬ (lessE a b = true), lessE a b = false := fun q => by simpa using q
  refine gv_fn x_lessEdge (MK_other rfl _ _ _) (by simp) hnt ?_
  unfold s_lessEdge
  refine wc_seq (wc_reg (rg_go hnt rfl rfl (wo_boxA rfl rfl (by omega) fun h1 hn1 hb1 hgr => ?_)))
  refine rg_go hnt rfl rfl (wo_boxA rfl rfl (by omega) fun h2 hn2 hb2 hgr2 => ?_)
  have hb1' := (hgr2.get h.n (by omega)).trans hb1
  have hsb : seen c.vis h.n = true := hcx.new (Nat.le_refl _) (by omega)
  have hsb2 : seen c.vis h1.n = true := hcx.new (by omega) (by omega)
  repeat' (first | refine rg_go hnt rfl rfl ?_ | refine wo_mv rfl ?_ | refine wo_faddr rfl ?_ | refine wo_load1 rfl (by first | assumption | exact seen_two (by omega)) (by assumption) (by first | rfl | assumption) ?_ | refine wo_loadArr1 (by assumption) rfl (by first | assumption | exact seen_two (by omega)) (by assumption) rfl ?_ | (refine wo_lss rfl rfl ?_ ?_ <;> (intro hc; first | (exfalso; omega; done) | skip)) | (refine wo_eqi rfl rfl ?_ ?_ <;> (intro hc; first | (exfalso; omega; done) | skip)) | refine wg_nil ?_ | refine then_go ?_ | refine wc_seq ?_ | refine wc_reg ?_ | refine wc_t rfl ?_ | refine wc_f rfl ?_ | refine wc_skip ?_ | refine wc_ret ?_ | refine then_ret ?_)
  all_goals first
    | exact ⟨Or.inr rfl, _, rfl, kt (lessE_iff.2 (by omega)) _ (hgr.trans hgr2) (by omega)⟩
    | exact ⟨Or.inr rfl, _, rfl, kf (hno fun q => by have := lessE_iff.1 q; omega) _ (hgr.trans hgr2) (by omega)⟩
end Go.Proofs.YtlocnfaeiacphaaGreatDoor.Ev
