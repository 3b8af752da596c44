/- The law's walk: both paths, and the example. -/
import Derived.Test.YtlocnfaeiacphaaGreatDoorSyH
import Derived.Test.YtlocnfaeiacphaaGreatDoorCpAA
import Derived.Test.YtlocnfaeiacphaaGreatDoorCpK
import Derived.Test.YtlocnfaeiacphaaGreatDoorCpH
import Derived.KernelRfl
set_option linter.unusedVariables false
set_option linter.unusedSimpArgs false
set_option maxHeartbeats 4000000
namespace Go.Proofs.YtlocnfaeiacphaaGreatDoor.Ev
open Go

variable {c : C} {h : H} {nsv esv obv endv : AV} {ns : List Nd} {es : List Ed} {os : List Ob} {idN idE idO : Nat} {mn : Int}
theorem law_ev (hcx : Cx c h) (hN : Arr h nsv 3 (ns.map Nd.row) idN) (hE : Arr h esv 4 (es.map Ed.row) idE) (hO : Arr h obv 5 (os.map Ob.row) idO) (hidN : idN < h.n) (hidE : idE < h.n) (hidO : idO < h.n) (hsN : seen c.vis idN = true) (hsE : seen c.vis idE = true) (hsO : seen c.vis idO = true) (hov : ∀ x : Int, 0 ≤ x → x < os.length → one (ob os x).v = true) (hon : one nsv = true) (hoe : one esv = true) (hoo : one obv = true) (hn : h.n < 1000000) :
    ∃ v h', Gives Tryz.prog X0 Mx c (.fnB 3) [.agg [nsv, esv, .int .i64 mn], .agg [endv, obv]] h v h' ∧ v = .bool true := by
  have hnt : (49 : Nat) ≤ 1000000 := by decide
  have hlN : (ns.map Nd.row).length = ns.length := List.length_map ..
  have hlE : (es.map Ed.row).length = es.length := List.length_map ..
  have hlO : (os.map Ob.row).length = os.length := List.length_map ..
  have hlow := hcx.low
  refine gvB_fn x_law (by simp) hnt ?_
  unfold s_law
  refine wc_seq (wc_reg (rg_go hnt rfl rfl (wo_boxA rfl rfl (by omega) fun h1 hn1 hb1 hgr => ?_)))
  refine rg_go hnt rfl rfl (wo_boxA rfl rfl (by omega) fun h2 hn2 hb2 hgr2 => ?_)
  have hb12 := (hgr2.get h.n (by omega)).trans hb1
  have hsb : seen c.vis h.n = true := hcx.new (Nat.le_refl _) (by omega)
  have hsb2 : seen c.vis h1.n = true := hcx.new (by omega) (by omega)
  have hgA := hgr.trans hgr2
  have hN2 := hN.grew hgA
  have hE2 := hE.grew hgA
  have hO2 := hO.grew hgA
  by_cases hbig : 100 < ns.length ∨ 100 < es.length ∨ 100 < os.length
  · repeat' (first | refine z0 ?_ | refine z1 ?_ | refine z2 ?_ | refine z3 ?_ | refine z6 ?_ | refine z7 ?_ | refine zc ?_ | refine zd ?_ | refine zf ?_ | refine zh ?_ | refine zi ?_ | refine zj ?_ | refine zl ?_ | (refine zo ?_ ?_ <;> intro hc <;> try (exfalso; omega)) | (refine zq ?_ ?_ <;> intro hc <;> try (exfalso; omega)) | refine wg_nil ?_ | refine then_go ?_ | refine wc_seq ?_ | refine wc_reg ?_ | refine zu ?_ | refine zv ?_ | refine wc_skip ?_ | refine wc_ret ?_ | refine then_ret ?_)
    all_goals first
      | (exfalso; omega; done)
      | skip
    all_goals
      refine wo_call rfl rfl (gv_known (fun p hp => by cases hp) ?_)
      repeat' (first | refine z0 ?_ | refine z1 ?_ | refine z2 ?_ | refine z3 ?_ | refine z6 ?_ | refine z7 ?_ | refine zc ?_ | refine zd ?_ | refine zf ?_ | refine zh ?_ | refine zi ?_ | refine zj ?_ | refine zl ?_ | (refine zo ?_ ?_ <;> intro hc <;> try (exfalso; omega)) | (refine zq ?_ ?_ <;> intro hc <;> try (exfalso; omega)) | refine wg_nil ?_ | refine then_go ?_ | refine wc_seq ?_ | refine wc_reg ?_ | refine zu ?_ | refine zv ?_ | refine wc_skip ?_ | refine wc_ret ?_ | refine then_ret ?_)
      exact ⟨Or.inr rfl, _, rfl, rfl⟩
  · repeat' (first | refine z0 ?_ | refine z1 ?_ | refine z2 ?_ | refine z3 ?_ | refine z6 ?_ | refine z7 ?_ | refine zc ?_ | refine zd ?_ | refine zf ?_ | refine zh ?_ | refine zi ?_ | refine zj ?_ | refine zl ?_ | (refine zo ?_ ?_ <;> intro hc <;> try (exfalso; omega)) | (refine zq ?_ ?_ <;> intro hc <;> try (exfalso; omega)) | refine wg_nil ?_ | refine then_go ?_ | refine wc_seq ?_ | refine wc_reg ?_ | refine zu ?_ | refine zv ?_ | refine wc_skip ?_ | refine wc_ret ?_ | refine then_ret ?_)
    all_goals first
      | (exfalso; omega; done)
      | skip
    refine wo_call rfl rfl (PPath_ev (hcx.mono hgA.le) hN2 hE2 hO2 (by omega) (by omega) (by omega) hsN hsE hsO (by omega) (by omega) (by omega) hov hon hoe hoo (by omega) fun h3 pv pid hk3 hle3 hn3 hp3 hA3 hpl => ?_)
    have hg3 : Grew h2 h3 := ⟨hle3, hk3⟩
    have hb13 := (hg3.get h.n (by omega)).trans hb12
    have hb23 := (hg3.get h1.n (by omega)).trans hb2
    have hgB := hgA.trans hg3
    have hN3 := hN.grew hgB
    have hE3 := hE.grew hgB
    have hO3 := hO.grew hgB
    repeat' (first | refine z0 ?_ | refine z1 ?_ | refine z2 ?_ | refine z3 ?_ | refine z6 ?_ | refine z7 ?_ | refine zc ?_ | refine zd ?_ | refine zf ?_ | refine zh ?_ | refine zi ?_ | refine zj ?_ | refine zl ?_ | (refine zo ?_ ?_ <;> intro hc <;> try (exfalso; omega)) | (refine zq ?_ ?_ <;> intro hc <;> try (exfalso; omega)) | refine wg_nil ?_ | refine then_go ?_ | refine wc_seq ?_ | refine wc_reg ?_ | refine zu ?_ | refine zv ?_ | refine wc_skip ?_ | refine wc_ret ?_ | refine then_ret ?_)
    refine wo_call rfl rfl (RPath_ev (hcx.mono hgB.le) hN3 hE3 hO3 (by omega) (by omega) (by omega) hsN hsE hsO (by omega) (by omega) (by omega) hov (by omega) fun h4 ov oid hg4 hn4 hp4 hA4 => ?_)
    have hg4l := hg4.le
    rw [path_eq] at hp3 hA3 hpl ⊢
    have hA3' := hA3.grew hg4
    repeat' (first | refine z0 ?_ | refine z1 ?_ | refine z2 ?_ | refine z3 ?_ | refine z6 ?_ | refine z7 ?_ | refine zc ?_ | refine zd ?_ | refine zf ?_ | refine zh ?_ | refine zi ?_ | refine zj ?_ | refine zl ?_ | (refine zo ?_ ?_ <;> intro hc <;> try (exfalso; omega)) | (refine zq ?_ ?_ <;> intro hc <;> try (exfalso; omega)) | refine wg_nil ?_ | refine then_go ?_ | refine wc_seq ?_ | refine wc_reg ?_ | refine zu ?_ | refine zv ?_ | refine wc_skip ?_ | refine wc_ret ?_ | refine then_ret ?_)
    all_goals first
      | (exact absurd rfl (by assumption))
      | skip
    refine wo_call rfl rfl (Equal_ev hA3' hA4 (fun q => by have := hp3 q; omega) (fun q => (hp4 q).2) (fun q => hcx.new (by have := hp3 q; omega) (by have := hp3 q; omega)) (fun q => hcx.new (by have := hp4 q; omega) (by have := hp4 q; omega)) (by omega) (by omega) (by omega) ?_)
    rw [decide_eq_true rfl]
    repeat' (first | refine z0 ?_ | refine z1 ?_ | refine z2 ?_ | refine z3 ?_ | refine z6 ?_ | refine z7 ?_ | refine zc ?_ | refine zd ?_ | refine zf ?_ | refine zh ?_ | refine zi ?_ | refine zj ?_ | refine zl ?_ | (refine zo ?_ ?_ <;> intro hc <;> try (exfalso; omega)) | (refine zq ?_ ?_ <;> intro hc <;> try (exfalso; omega)) | refine wg_nil ?_ | refine then_go ?_ | refine wc_seq ?_ | refine wc_reg ?_ | refine zu ?_ | refine zv ?_ | refine wc_skip ?_ | refine wc_ret ?_ | refine then_ret ?_)
    refine wo_call rfl rfl (gv_known (fun p hp => by cases hp) ?_)
    repeat' (first | refine z0 ?_ | refine z1 ?_ | refine z2 ?_ | refine z3 ?_ | refine z6 ?_ | refine z7 ?_ | refine zc ?_ | refine zd ?_ | refine zf ?_ | refine zh ?_ | refine zi ?_ | refine zj ?_ | refine zl ?_ | (refine zo ?_ ?_ <;> intro hc <;> try (exfalso; omega)) | (refine zq ?_ ?_ <;> intro hc <;> try (exfalso; omega)) | refine wg_nil ?_ | refine then_go ?_ | refine wc_seq ?_ | refine wc_reg ?_ | refine zu ?_ | refine zv ?_ | refine wc_skip ?_ | refine wc_ret ?_ | refine then_ret ?_)
    exact ⟨Or.inr rfl, _, rfl, rfl⟩
end Go.Proofs.YtlocnfaeiacphaaGreatDoor.Ev
