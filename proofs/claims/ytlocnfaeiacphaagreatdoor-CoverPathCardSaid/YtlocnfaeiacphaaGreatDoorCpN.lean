/- Contracts of the program: check. -/
import Derived.Test.YtlocnfaeiacphaaGreatDoorSyH
import Derived.KernelRfl
set_option linter.unusedVariables false
set_option linter.unusedSimpArgs false
set_option maxHeartbeats 4000000
namespace Go.Proofs.YtlocnfaeiacphaaGreatDoor.Ev
open Go

variable {c : C} {h : H} {nsv esv : AV} {ns : List Nd} {es : List Ed} {idN idE : Nat} {mn : Int} {K : AV → H → Prop}

theorem check1_ev {x : Int} {gid : Nat} (hN : Arr h nsv 3 (ns.map Nd.row) idN) (hb : h.get gid = some (.cells [nsv, esv, .int .i64 mn])) (hs : seen c.vis gid = true) (hl : ns.length ≤ 100)
    (ht : 0 ≤ x ∧ x < ns.length → K (.bool true) h) (hf : ¬ (0 ≤ x ∧ x < ns.length) → K (.bool false) h) :
    Gv Tryz.prog X0 Mx c 56 [.int .i64 x, .ptr gid 0] h K := by
  have hnt : (13 : Nat) ≤ 1000000 := by decide
  have hlN : (ns.map Nd.row).length = ns.length := List.length_map ..
  refine gv_fn x_check1 (MK_other rfl _ _ _) (by simp) hnt ?_
  unfold s_check1
  repeat' (first | refine z0 ?_ | refine z1 ?_ | refine z2 ?_ | refine z3 ?_ | refine z6 ?_ | refine z7 ?_ | refine zc ?_ | refine zd ?_ | refine ze ?_ | refine zh ?_ | refine zj ?_ | (refine zm ?_ ?_ <;> intro hc <;> try (exfalso; omega)) | (refine zp ?_ ?_ <;> intro hc <;> try (exfalso; omega)) | (refine zq ?_ ?_ <;> intro hc <;> try (exfalso; omega)) | refine wg_nil ?_ | refine then_go ?_ | refine wc_seq ?_ | refine wc_reg ?_ | refine wc_block ?_ | refine zu ?_ | refine zv ?_ | refine wc_skip ?_ | refine wc_ret ?_ | refine then_ret ?_ | refine out_go ?_ | refine out_ret ?_ | refine zA ?_ | refine zB ?_)
  all_goals first
    | exact ⟨Or.inr rfl, _, rfl, ht (by omega)⟩
    | exact ⟨Or.inr rfl, _, rfl, hf (by omega)⟩
theorem check_ev {e : Ed} (hcx : Cx c h) (hN : Arr h nsv 3 (ns.map Nd.row) idN) (hl : ns.length ≤ 100) (hn : h.n < 8000000) (hK : ∀ h', Grew h h' → h'.n ≤ h.n + 2 → K (.int .i64 (badE ns.length e)) h') :
    Gv Tryz.prog X0 Mx c 30 [.agg [nsv, esv, .int .i64 mn], .agg [.int .i64 e.a, .int .i64 e.b, .int .i64 e.k, .int .i64 e.c]] h K := by
  have hnt : (36 : Nat) ≤ 1000000 := by decide
  have hKv : ∀ {v : Int}, badE ns.length e = v → ∀ h', Grew h h' → h'.n ≤ h.n + 2 → K (.int .i64 v) h' := fun q h' g l => by have := hK h' g l; rwa [q] at this
  refine gv_fn x_check (MK_other rfl _ _ _) (by simp) hnt ?_
  unfold s_check
  refine wc_seq (wc_reg (rg_go hnt rfl rfl (wo_boxA rfl rfl (by omega) fun h1 hn1 hb1 hgr => ?_)))
  refine rg_go hnt rfl rfl (wo_boxA rfl rfl (by omega) fun h2 hn2 hb2 hgr2 => ?_)
  have hb1' : h2.get h.n = some (.cells [nsv, esv, .int .i64 mn]) := (hgr2.get h.n (by omega)).trans hb1
  have hsb : seen c.vis h.n = true := hcx.new (Nat.le_refl _) (by omega)
  have hsb2 : seen c.vis h1.n = true := hcx.new (by omega) (by omega)
  have hgA := hgr.trans hgr2
  have hN2 := hN.grew hgA
  repeat' (first | refine z0 ?_ | refine z1 ?_ | refine z2 ?_ | refine z3 ?_ | refine z6 ?_ | refine z7 ?_ | refine zc ?_ | refine zd ?_ | refine ze ?_ | refine zh ?_ | refine zj ?_ | (refine zm ?_ ?_ <;> intro hc <;> try (exfalso; omega)) | (refine zp ?_ ?_ <;> intro hc <;> try (exfalso; omega)) | (refine zq ?_ ?_ <;> intro hc <;> try (exfalso; omega)) | refine wg_nil ?_ | refine then_go ?_ | refine wc_seq ?_ | refine wc_reg ?_ | refine wc_block ?_ | refine zu ?_ | refine zv ?_ | refine wc_skip ?_ | refine wc_ret ?_ | refine then_ret ?_ | refine out_go ?_ | refine out_ret ?_ | refine zA ?_ | refine zB ?_)
  refine wo_mkfn rfl ?_
  repeat' (first | refine z0 ?_ | refine z1 ?_ | refine z2 ?_ | refine z3 ?_ | refine z6 ?_ | refine z7 ?_ | refine zc ?_ | refine zd ?_ | refine ze ?_ | refine zh ?_ | refine zj ?_ | (refine zm ?_ ?_ <;> intro hc <;> try (exfalso; omega)) | (refine zp ?_ ?_ <;> intro hc <;> try (exfalso; omega)) | (refine zq ?_ ?_ <;> intro hc <;> try (exfalso; omega)) | refine wg_nil ?_ | refine then_go ?_ | refine wc_seq ?_ | refine wc_reg ?_ | refine wc_block ?_ | refine zu ?_ | refine zv ?_ | refine wc_skip ?_ | refine wc_ret ?_ | refine then_ret ?_ | refine out_go ?_ | refine out_ret ?_ | refine zA ?_ | refine zB ?_)
  refine wo_call rfl rfl (check1_ev hN2 hb1' hsb hl (fun q1 => ?_) (fun q1 => ?_))
  · repeat' (first | refine z0 ?_ | refine z1 ?_ | refine z2 ?_ | refine z3 ?_ | refine z6 ?_ | refine z7 ?_ | refine zc ?_ | refine zd ?_ | refine ze ?_ | refine zh ?_ | refine zj ?_ | (refine zm ?_ ?_ <;> intro hc <;> try (exfalso; omega)) | (refine zp ?_ ?_ <;> intro hc <;> try (exfalso; omega)) | (refine zq ?_ ?_ <;> intro hc <;> try (exfalso; omega)) | refine wg_nil ?_ | refine then_go ?_ | refine wc_seq ?_ | refine wc_reg ?_ | refine wc_block ?_ | refine zu ?_ | refine zv ?_ | refine wc_skip ?_ | refine wc_ret ?_ | refine then_ret ?_ | refine out_go ?_ | refine out_ret ?_ | refine zA ?_ | refine zB ?_)
    refine wo_call rfl rfl (check1_ev hN2 hb1' hsb hl (fun q2 => ?_) (fun q2 => ?_))
    · repeat' (first | refine z0 ?_ | refine z1 ?_ | refine z2 ?_ | refine z3 ?_ | refine z6 ?_ | refine z7 ?_ | refine zc ?_ | refine zd ?_ | refine ze ?_ | refine zh ?_ | refine zj ?_ | (refine zm ?_ ?_ <;> intro hc <;> try (exfalso; omega)) | (refine zp ?_ ?_ <;> intro hc <;> try (exfalso; omega)) | (refine zq ?_ ?_ <;> intro hc <;> try (exfalso; omega)) | refine wg_nil ?_ | refine then_go ?_ | refine wc_seq ?_ | refine wc_reg ?_ | refine wc_block ?_ | refine zu ?_ | refine zv ?_ | refine wc_skip ?_ | refine wc_ret ?_ | refine then_ret ?_ | refine out_go ?_ | refine out_ret ?_ | refine zA ?_ | refine zB ?_)
      all_goals first
        | exact ⟨Or.inr rfl, _, rfl, hKv (badE_of (by omega)) _ hgA (by omega)⟩
        | skip
      all_goals
        refine wo_call rfl rfl (check1_ev hN2 hb1' hsb hl (fun q3 => ?_) (fun q3 => ?_))
        all_goals
          repeat' (first | refine z0 ?_ | refine z1 ?_ | refine z2 ?_ | refine z3 ?_ | refine z6 ?_ | refine z7 ?_ | refine zc ?_ | refine zd ?_ | refine ze ?_ | refine zh ?_ | refine zj ?_ | (refine zm ?_ ?_ <;> intro hc <;> try (exfalso; omega)) | (refine zp ?_ ?_ <;> intro hc <;> try (exfalso; omega)) | (refine zq ?_ ?_ <;> intro hc <;> try (exfalso; omega)) | refine wg_nil ?_ | refine then_go ?_ | refine wc_seq ?_ | refine wc_reg ?_ | refine wc_block ?_ | refine zu ?_ | refine zv ?_ | refine wc_skip ?_ | refine wc_ret ?_ | refine then_ret ?_ | refine out_go ?_ | refine out_ret ?_ | refine zA ?_ | refine zB ?_)
        all_goals exact ⟨Or.inr rfl, _, rfl, hKv (badE_of (by omega)) _ hgA (by omega)⟩
    · repeat' (first | refine z0 ?_ | refine z1 ?_ | refine z2 ?_ | refine z3 ?_ | refine z6 ?_ | refine z7 ?_ | refine zc ?_ | refine zd ?_ | refine ze ?_ | refine zh ?_ | refine zj ?_ | (refine zm ?_ ?_ <;> intro hc <;> try (exfalso; omega)) | (refine zp ?_ ?_ <;> intro hc <;> try (exfalso; omega)) | (refine zq ?_ ?_ <;> intro hc <;> try (exfalso; omega)) | refine wg_nil ?_ | refine then_go ?_ | refine wc_seq ?_ | refine wc_reg ?_ | refine wc_block ?_ | refine zu ?_ | refine zv ?_ | refine wc_skip ?_ | refine wc_ret ?_ | refine then_ret ?_ | refine out_go ?_ | refine out_ret ?_ | refine zA ?_ | refine zB ?_)
      all_goals exact ⟨Or.inr rfl, _, rfl, hKv (badE_of (by omega)) _ hgA (by omega)⟩
  · repeat' (first | refine z0 ?_ | refine z1 ?_ | refine z2 ?_ | refine z3 ?_ | refine z6 ?_ | refine z7 ?_ | refine zc ?_ | refine zd ?_ | refine ze ?_ | refine zh ?_ | refine zj ?_ | (refine zm ?_ ?_ <;> intro hc <;> try (exfalso; omega)) | (refine zp ?_ ?_ <;> intro hc <;> try (exfalso; omega)) | (refine zq ?_ ?_ <;> intro hc <;> try (exfalso; omega)) | refine wg_nil ?_ | refine then_go ?_ | refine wc_seq ?_ | refine wc_reg ?_ | refine wc_block ?_ | refine zu ?_ | refine zv ?_ | refine wc_skip ?_ | refine wc_ret ?_ | refine then_ret ?_ | refine out_go ?_ | refine out_ret ?_ | refine zA ?_ | refine zB ?_)
    all_goals exact ⟨Or.inr rfl, _, rfl, hKv (badE_of (by omega)) _ hgA (by omega)⟩
end Go.Proofs.YtlocnfaeiacphaaGreatDoor.Ev
