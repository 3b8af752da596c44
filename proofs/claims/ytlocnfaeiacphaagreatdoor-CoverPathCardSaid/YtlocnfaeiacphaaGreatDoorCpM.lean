/- Contracts of the program: starts. -/
import Derived.Test.YtlocnfaeiacphaaGreatDoorSyH
import Derived.KernelRfl
set_option linter.unusedVariables false
set_option linter.unusedSimpArgs false
set_option maxHeartbeats 4000000
namespace Go.Proofs.YtlocnfaeiacphaaGreatDoor.Ev
open Go

variable {c : C} {h : H} {nsv esv : AV} {ns : List Nd} {es : List Ed} {idN idE : Nat} {mn : Int} {K : AV → H → Prop}

theorem starts_ev (herr : errN ns 0 = 0) (hcx : Cx c h) (hN : Arr h nsv 3 (ns.map Nd.row) idN) (hidN : idN < h.n) (hsN : seen c.vis idN = true) (hl : ns.length ≤ 100) (hn : h.n < 8000000)
    (hKt : threeP ns = true → ∀ h', Grew h h' → h'.n ≤ h.n + 203 → h.n + 1 < h'.n → Mp kI h' (h.n + 1) (stF ns ns.length) → K (.tup [.mp (h.n + 1), .bool true]) h')
    (hKf : threeP ns = false → ∀ h', Grew h h' → h'.n ≤ h.n + 203 → K (.tup [.nilm, .bool false]) h') :
    Gv Tryz.prog X0 Mx c 29 [.agg [nsv, esv, .int .i64 mn]] h K := by
  have hnt : (56 : Nat) ≤ 1000000 := by decide
  have hlN : (ns.map Nd.row).length = ns.length := List.length_map ..
  have hbad := badN_all herr
  have hlow := hcx.low
  refine gv_fn x_starts (MK_other rfl _ _ _) (by simp) hnt ?_
  unfold s_starts
  refine wc_seq (wc_reg (rg_go hnt rfl rfl (wo_boxA rfl rfl (by omega) fun h1 hn1 hb1 hgr => ?_)))
  repeat' (first | refine z0 ?_ | refine z2 ?_ | refine z3 ?_ | refine z6 ?_ | refine z7 ?_ | refine z8 ?_ | refine z9 ?_ | refine za ?_ | refine zh ?_ | refine zi ?_ | refine zj ?_ | refine zl ?_ | (refine zm ?_ ?_ <;> intro hc <;> try (exfalso; omega)) | (refine zq ?_ ?_ <;> intro hc <;> try (exfalso; omega)) | refine wg_nil ?_ | refine then_go ?_ | refine wc_seq ?_ | refine wc_reg ?_ | refine wc_block ?_ | refine zu ?_ | refine zv ?_ | refine wc_skip ?_ | refine wc_exit ?_ | refine wc_ret ?_ | refine then_ret ?_ | refine then_exit ?_ | refine out_go ?_ | refine out_ret ?_ | refine zA ?_ | refine zB ?_)
  refine wo_mkmapA (by omega) fun h2 hn2 hb2 hgr2 => ?_
  repeat' (first | refine z0 ?_ | refine z2 ?_ | refine z3 ?_ | refine z6 ?_ | refine z7 ?_ | refine z8 ?_ | refine z9 ?_ | refine za ?_ | refine zh ?_ | refine zi ?_ | refine zj ?_ | refine zl ?_ | (refine zm ?_ ?_ <;> intro hc <;> try (exfalso; omega)) | (refine zq ?_ ?_ <;> intro hc <;> try (exfalso; omega)) | refine wg_nil ?_ | refine then_go ?_ | refine wc_seq ?_ | refine wc_reg ?_ | refine wc_block ?_ | refine zu ?_ | refine zv ?_ | refine wc_skip ?_ | refine wc_exit ?_ | refine wc_ret ?_ | refine then_ret ?_ | refine then_exit ?_ | refine out_go ?_ | refine out_ret ?_ | refine zA ?_ | refine zB ?_)
  refine wo_mkmapA (by omega) fun h3 hn3 hb3 hgr3 => ?_
  have hsb : seen c.vis h.n = true := hcx.new (Nat.le_refl _) (by omega)
  have hm1 : seen c.vis h1.n = true := hcx.new (by omega) (by omega)
  have hm2 : seen c.vis h2.n = true := hcx.new (by omega) (by omega)
  have hb13 := (hgr3.get h.n (by omega)).trans ((hgr2.get h.n (by omega)).trans hb1)
  have hb23 := (hgr3.get h1.n (by omega)).trans hb2
  have hg3 := (hgr.trans hgr2).trans hgr3
  have hN3 := hN.grew hg3
  repeat' (first | refine z0 ?_ | refine z2 ?_ | refine z3 ?_ | refine z6 ?_ | refine z7 ?_ | refine z8 ?_ | refine z9 ?_ | refine za ?_ | refine zh ?_ | refine zi ?_ | refine zj ?_ | refine zl ?_ | (refine zm ?_ ?_ <;> intro hc <;> try (exfalso; omega)) | (refine zq ?_ ?_ <;> intro hc <;> try (exfalso; omega)) | refine wg_nil ?_ | refine then_go ?_ | refine wc_seq ?_ | refine wc_reg ?_ | refine wc_block ?_ | refine zu ?_ | refine zv ?_ | refine wc_skip ?_ | refine wc_exit ?_ | refine wc_ret ?_ | refine then_ret ?_ | refine then_exit ?_ | refine out_go ?_ | refine out_ret ?_ | refine zA ?_ | refine zB ?_)
  refine wc_loopE (ι := Nat) (fun j => [(1, .ptr h.n 0), (4, .mp h1.n), (5, .mp h2.n), (13, nsv), (14, .int .i64 ((ns.map Nd.row).length : Int)), (15, .int .i64 (j : Int))])
    (fun j h' => h3.n ≤ h'.n ∧ h'.n ≤ h3.n + j ∧ j ≤ ns.length ∧ (∀ id, id < h1.n → h'.get id = h3.get id) ∧ Mp kI h' h1.n (stF ns j) ∧ Mp kI h' h2.n (fun b => mc (ctF ns j b))) (fun j => ns.length - j) ?_ 0
    ⟨Nat.le_refl _, by omega, Nat.zero_le _, fun _ _ => rfl, Mp.nil hb23, (Mp.nil hb3).cong fun b => by simp [mc, ctF]⟩ (Sub'.cons rfl (Sub'.cons rfl (Sub'.cons rfl (Sub'.cons rfl (Sub'.cons rfl (Sub'.cons rfl (Sub'.nil _)))))))
  rintro j h' ⟨hle1, hle2, hj, hkp, hM1, hM2⟩
  try simp only at hj ⊢
  have hb' := (hkp h.n (by omega)).trans hb13
  have hN' := hN3.keep hle1 (fun _ => hkp idN (by omega))
  by_cases hlt : j < ns.length
  · have hkd := (badN_iff.1 (hbad _ (nd_mem (ns := ns) (x := (j : Int)) (by omega) (by omega)))).1
    repeat' (first | refine z0 ?_ | refine z2 ?_ | refine z3 ?_ | refine z6 ?_ | refine z7 ?_ | refine z8 ?_ | refine z9 ?_ | refine za ?_ | refine zh ?_ | refine zi ?_ | refine zj ?_ | refine zl ?_ | (refine zm ?_ ?_ <;> intro hc <;> try (exfalso; omega)) | (refine zq ?_ ?_ <;> intro hc <;> try (exfalso; omega)) | refine wg_nil ?_ | refine then_go ?_ | refine wc_seq ?_ | refine wc_reg ?_ | refine wc_block ?_ | refine zu ?_ | refine zv ?_ | refine wc_skip ?_ | refine wc_exit ?_ | refine wc_ret ?_ | refine then_ret ?_ | refine then_exit ?_ | refine out_go ?_ | refine out_ret ?_ | refine zA ?_ | refine zB ?_)
    refine rg_bs1 hnt rfl (hcx.mono (by omega)) (by omega) rfl rfl rfl (by rfl) (by rfl) (by rfl) (by rfl) fun h4 hn4 hb4 hg4 => ?_
    have hM14 := hM1.keep (hg4.get h1.n (by omega))
    have hM24 := hM2.keep (hg4.get h2.n (by omega))
    have hsb4 : seen c.vis h'.n = true := hcx.new (by omega) (by omega)
    have hkp4 : ∀ id, id < h1.n → h4.get id = h3.get id := fun id q => (hg4.get id (by omega)).trans (hkp id q)
    repeat' (first | refine z0 ?_ | refine z2 ?_ | refine z3 ?_ | refine z6 ?_ | refine z7 ?_ | refine z8 ?_ | refine z9 ?_ | refine za ?_ | refine zh ?_ | refine zi ?_ | refine zj ?_ | refine zl ?_ | (refine zm ?_ ?_ <;> intro hc <;> try (exfalso; omega)) | (refine zq ?_ ?_ <;> intro hc <;> try (exfalso; omega)) | refine wg_nil ?_ | refine then_go ?_ | refine wc_seq ?_ | refine wc_reg ?_ | refine wc_block ?_ | refine zu ?_ | refine zv ?_ | refine wc_skip ?_ | refine wc_exit ?_ | refine wc_ret ?_ | refine then_ret ?_ | refine then_exit ?_ | refine out_go ?_ | refine out_ret ?_ | refine zA ?_ | refine zB ?_)
    · refine rg_go0 hnt rfl (wo_mapupM hM14 qI rfl (by rfl) rfl (by omega) hm1 (by omega) fun h5 hn5 hM15 hk5 => ?_)
      have hb5 := (hk5 h'.n (by omega)).trans hb4
      have hM25 := hM24.keep (hk5 h2.n (by omega))
      repeat' (first | refine z0 ?_ | refine z2 ?_ | refine z3 ?_ | refine z6 ?_ | refine z7 ?_ | refine z8 ?_ | refine z9 ?_ | refine za ?_ | refine zh ?_ | refine zi ?_ | refine zj ?_ | refine zl ?_ | (refine zm ?_ ?_ <;> intro hc <;> try (exfalso; omega)) | (refine zq ?_ ?_ <;> intro hc <;> try (exfalso; omega)) | refine wg_nil ?_ | refine then_go ?_ | refine wc_seq ?_ | refine wc_reg ?_ | refine wc_block ?_ | refine zu ?_ | refine zv ?_ | refine wc_skip ?_ | refine wc_exit ?_ | refine wc_ret ?_ | refine then_ret ?_ | refine then_exit ?_ | refine out_go ?_ | refine out_ret ?_ | refine zA ?_ | refine zB ?_)
      refine wo_look (ky := kI) hM25 qI rfl (by rfl) hm2 (look_ct _) ?_
      have hnn := ctF_nonneg ns (nd ns (j : Int)).f j
      have hcb := ctF_cnt ns (nd ns (j : Int)).f j (by omega)
      have hcl : cnt (ns.take j) (nd ns (j : Int)).f ≤ 100 := by (unfold cnt; refine Nat.le_trans (List.length_filter_le _ _) ?_; rw [List.length_take]; omega)
      repeat' (first | refine z0 ?_ | refine z2 ?_ | refine z3 ?_ | refine z6 ?_ | refine z7 ?_ | refine z8 ?_ | refine z9 ?_ | refine za ?_ | refine zh ?_ | refine zi ?_ | refine zj ?_ | refine zl ?_ | (refine zm ?_ ?_ <;> intro hc <;> try (exfalso; omega)) | (refine zq ?_ ?_ <;> intro hc <;> try (exfalso; omega)) | refine wg_nil ?_ | refine then_go ?_ | refine wc_seq ?_ | refine wc_reg ?_ | refine wc_block ?_ | refine zu ?_ | refine zv ?_ | refine wc_skip ?_ | refine wc_exit ?_ | refine wc_ret ?_ | refine then_ret ?_ | refine then_exit ?_ | refine out_go ?_ | refine out_ret ?_ | refine zA ?_ | refine zB ?_)
      refine rg_go0 hnt rfl (wo_mapupM hM25 qI rfl (by rfl) rfl (by omega) hm2 (by omega) fun h6 hn6 hM26 hk6 => ?_)
      have hM16 := hM15.keep (hk6 h1.n (by omega))
      repeat' (first | refine z0 ?_ | refine z2 ?_ | refine z3 ?_ | refine z6 ?_ | refine z7 ?_ | refine z8 ?_ | refine z9 ?_ | refine za ?_ | refine zh ?_ | refine zi ?_ | refine zj ?_ | refine zl ?_ | (refine zm ?_ ?_ <;> intro hc <;> try (exfalso; omega)) | (refine zq ?_ ?_ <;> intro hc <;> try (exfalso; omega)) | refine wg_nil ?_ | refine then_go ?_ | refine wc_seq ?_ | refine wc_reg ?_ | refine wc_block ?_ | refine zu ?_ | refine zv ?_ | refine wc_skip ?_ | refine wc_exit ?_ | refine wc_ret ?_ | refine then_ret ?_ | refine then_exit ?_ | refine out_go ?_ | refine out_ret ?_ | refine zA ?_ | refine zB ?_)
      refine ⟨j + 1, by simp; omega, (Sub'.cons rfl (Sub'.cons rfl (Sub'.cons rfl (Sub'.cons rfl (Sub'.cons rfl (Sub'.cons rfl (Sub'.nil _))))))), by omega, by omega, hlt, fun id q => (hk6 id (by omega)).trans ((hk5 id (by omega)).trans (hkp4 id q)), hM16.cong fun b => ?_, hM26.cong fun b => ?_⟩
      · rw [stF]; simp only [kI, hc, true_and]
      · rw [ctF]
        by_cases e : b = (nd ns (j : Int)).f
        · rw [if_pos e, if_pos ⟨by omega, e⟩, e]; unfold mc; rw [if_neg (by omega)]
        · rw [if_neg e, if_neg (fun q => e q.2)]
    all_goals first
      | (refine wo_look (ky := kI) hM24 qI rfl (by rfl) hm2 (look_ct _) ?_
         have hnn := ctF_nonneg ns (nd ns (j : Int)).f j
         have hcb := ctF_cnt ns (nd ns (j : Int)).f j (by omega)
         have hcl : cnt (ns.take j) (nd ns (j : Int)).f ≤ 100 := by (unfold cnt; refine Nat.le_trans (List.length_filter_le _ _) ?_; rw [List.length_take]; omega)
         refine rg_go hnt rfl rfl (wo_add rfl rfl (by omega) (by omega) ?_)
         refine rg_go0 hnt rfl (wo_mapupM hM24 qI rfl (by rfl) rfl (by omega) hm2 (by omega) fun h6 hn6 hM26 hk6 => ?_)
         have hM16 := hM14.keep (hk6 h1.n (by omega))
         repeat' (first | refine z0 ?_ | refine z2 ?_ | refine z3 ?_ | refine z6 ?_ | refine z7 ?_ | refine z8 ?_ | refine z9 ?_ | refine za ?_ | refine zh ?_ | refine zi ?_ | refine zj ?_ | refine zl ?_ | (refine zm ?_ ?_ <;> intro hc <;> try (exfalso; omega)) | (refine zq ?_ ?_ <;> intro hc <;> try (exfalso; omega)) | refine wg_nil ?_ | refine then_go ?_ | refine wc_seq ?_ | refine wc_reg ?_ | refine wc_block ?_ | refine zu ?_ | refine zv ?_ | refine wc_skip ?_ | refine wc_exit ?_ | refine wc_ret ?_ | refine then_ret ?_ | refine then_exit ?_ | refine out_go ?_ | refine out_ret ?_ | refine zA ?_ | refine zB ?_)
         refine ⟨j + 1, by simp; omega, (Sub'.cons rfl (Sub'.cons rfl (Sub'.cons rfl (Sub'.cons rfl (Sub'.cons rfl (Sub'.cons rfl (Sub'.nil _))))))), by omega, by omega, hlt, fun id q => (hk6 id (by omega)).trans (hkp4 id q), hM16.cong fun b => ?_, hM26.cong fun b => ?_⟩
         · rw [stF, if_neg (fun q => by omega)]
         · rw [ctF]
           by_cases e : b = (nd ns (j : Int)).f
           · rw [if_pos e, if_pos ⟨by omega, e⟩, e]; unfold mc; rw [if_neg (by omega)]
           · rw [if_neg e, if_neg (fun q => e q.2)])
      | (refine ⟨j + 1, by simp; omega, (Sub'.cons rfl (Sub'.cons rfl (Sub'.cons rfl (Sub'.cons rfl (Sub'.cons rfl (Sub'.cons rfl (Sub'.nil _))))))), by omega, by omega, hlt, hkp4, hM14.cong fun b => ?_, hM24.cong fun b => ?_⟩
         · rw [stF, if_neg (fun q => by omega)]
         · rw [ctF, if_neg (fun q => by omega)])
  · have hjl : j = ns.length := by omega
    subst hjl
    repeat' (first | refine z0 ?_ | refine z2 ?_ | refine z3 ?_ | refine z6 ?_ | refine z7 ?_ | refine z8 ?_ | refine z9 ?_ | refine za ?_ | refine zh ?_ | refine zi ?_ | refine zj ?_ | refine zl ?_ | (refine zm ?_ ?_ <;> intro hc <;> try (exfalso; omega)) | (refine zq ?_ ?_ <;> intro hc <;> try (exfalso; omega)) | refine wg_nil ?_ | refine then_go ?_ | refine wc_seq ?_ | refine wc_reg ?_ | refine wc_block ?_ | refine zu ?_ | refine zv ?_ | refine wc_skip ?_ | refine wc_exit ?_ | refine wc_ret ?_ | refine then_ret ?_ | refine then_exit ?_ | refine out_go ?_ | refine out_ret ?_ | refine zA ?_ | refine zB ?_)
    refine wc_loopE (ι := Nat) (fun k => [(4, .mp h1.n), (5, .mp h2.n), (43, nsv), (44, .int .i64 ((ns.map Nd.row).length : Int)), (45, .int .i64 (k : Int))])
      (fun k h2' => Grew h' h2' ∧ h2'.n ≤ h'.n + k ∧ k ≤ ns.length ∧ threeP ns = (ns.drop k).all fun n => decide (cnt ns n.f = 3)) (fun k => ns.length - k) ?_ 0 ⟨Grew.refl _, by omega, Nat.zero_le _, by simp [threeP]⟩ (Sub'.cons rfl (Sub'.cons rfl (Sub'.cons rfl (Sub'.cons rfl (Sub'.cons rfl (Sub'.nil _))))))
    rintro k h4 ⟨hg4, hle4, hk, hz⟩
    try simp only at hk hz ⊢
    have hg4l := hg4.le
    have hN4 := hN'.grew hg4
    have hM14 := hM1.keep (hg4.get h1.n (by omega))
    have hM24 := hM2.keep (hg4.get h2.n (by omega))
    have hgA : Grew h h4 := ⟨by omega, fun id q => (hg4.get id (by omega)).trans ((hkp id (by omega)).trans (hg3.get id q))⟩
    by_cases hlk : k < ns.length
    · rw [all_drop hlk, ← nd_nat hlk] at hz
      repeat' (first | refine z0 ?_ | refine z2 ?_ | refine z3 ?_ | refine z6 ?_ | refine z7 ?_ | refine z8 ?_ | refine z9 ?_ | refine za ?_ | refine zh ?_ | refine zi ?_ | refine zj ?_ | refine zl ?_ | (refine zm ?_ ?_ <;> intro hc <;> try (exfalso; omega)) | (refine zq ?_ ?_ <;> intro hc <;> try (exfalso; omega)) | refine wg_nil ?_ | refine then_go ?_ | refine wc_seq ?_ | refine wc_reg ?_ | refine wc_block ?_ | refine zu ?_ | refine zv ?_ | refine wc_skip ?_ | refine wc_exit ?_ | refine wc_ret ?_ | refine then_ret ?_ | refine then_exit ?_ | refine out_go ?_ | refine out_ret ?_ | refine zA ?_ | refine zB ?_)
      refine rg_bs hnt (hcx.mono (by omega)) (by omega) rfl rfl (by rfl) (by rfl) (by rfl) (by rfl) fun h5 hn5 hb5 hg5 => ?_
      have hM25 := hM24.keep (hg5.get h2.n (by omega))
      have hsb5 : seen c.vis h4.n = true := hcx.new (by omega) (by omega)
      have hgB := hgA.trans hg5
      have hg45 := hg4.trans hg5
      repeat' (first | refine z0 ?_ | refine z2 ?_ | refine z3 ?_ | refine z6 ?_ | refine z7 ?_ | refine z8 ?_ | refine z9 ?_ | refine za ?_ | refine zh ?_ | refine zi ?_ | refine zj ?_ | refine zl ?_ | (refine zm ?_ ?_ <;> intro hc <;> try (exfalso; omega)) | (refine zq ?_ ?_ <;> intro hc <;> try (exfalso; omega)) | refine wg_nil ?_ | refine then_go ?_ | refine wc_seq ?_ | refine wc_reg ?_ | refine wc_block ?_ | refine zu ?_ | refine zv ?_ | refine wc_skip ?_ | refine wc_exit ?_ | refine wc_ret ?_ | refine then_ret ?_ | refine then_exit ?_ | refine out_go ?_ | refine out_ret ?_ | refine zA ?_ | refine zB ?_)
      refine wo_look (ky := kI) hM25 qI rfl (by rfl) hm2 (look_ct _) ?_
      have hcb := ctF_cnt ns (nd ns (k : Int)).f ns.length (Nat.le_refl _)
      rw [List.take_length] at hcb
      repeat' (first | refine z0 ?_ | refine z2 ?_ | refine z3 ?_ | refine z6 ?_ | refine z7 ?_ | refine z8 ?_ | refine z9 ?_ | refine za ?_ | refine zh ?_ | refine zi ?_ | refine zj ?_ | refine zl ?_ | (refine zm ?_ ?_ <;> intro hc <;> try (exfalso; omega)) | (refine zq ?_ ?_ <;> intro hc <;> try (exfalso; omega)) | refine wg_nil ?_ | refine then_go ?_ | refine wc_seq ?_ | refine wc_reg ?_ | refine wc_block ?_ | refine zu ?_ | refine zv ?_ | refine wc_skip ?_ | refine wc_exit ?_ | refine wc_ret ?_ | refine then_ret ?_ | refine then_exit ?_ | refine out_go ?_ | refine out_ret ?_ | refine zA ?_ | refine zB ?_)
      all_goals first
        | (rw [decide_eq_false (by omega), Bool.false_and] at hz
           exact ⟨Or.inr rfl, _, rfl, hKf hz _ hgB (by omega)⟩)
        | (rw [decide_eq_true (by omega), Bool.true_and] at hz
           exact ⟨k + 1, by simp; omega, (Sub'.cons rfl (Sub'.cons rfl (Sub'.cons rfl (Sub'.cons rfl (Sub'.cons rfl (Sub'.nil _)))))), hg45, by omega, hlk, hz⟩)
    · rw [List.drop_eq_nil_of_le (by omega), List.all_nil] at hz
      repeat' (first | refine z0 ?_ | refine z2 ?_ | refine z3 ?_ | refine z6 ?_ | refine z7 ?_ | refine z8 ?_ | refine z9 ?_ | refine za ?_ | refine zh ?_ | refine zi ?_ | refine zj ?_ | refine zl ?_ | (refine zm ?_ ?_ <;> intro hc <;> try (exfalso; omega)) | (refine zq ?_ ?_ <;> intro hc <;> try (exfalso; omega)) | refine wg_nil ?_ | refine then_go ?_ | refine wc_seq ?_ | refine wc_reg ?_ | refine wc_block ?_ | refine zu ?_ | refine zv ?_ | refine wc_skip ?_ | refine wc_exit ?_ | refine wc_ret ?_ | refine then_ret ?_ | refine then_exit ?_ | refine out_go ?_ | refine out_ret ?_ | refine zA ?_ | refine zB ?_)
      rw [hn1] at hM14 ⊢
      exact ⟨Or.inr rfl, _, rfl, hKt hz _ hgA (by omega) (by omega) hM14⟩
end Go.Proofs.YtlocnfaeiacphaaGreatDoor.Ev
