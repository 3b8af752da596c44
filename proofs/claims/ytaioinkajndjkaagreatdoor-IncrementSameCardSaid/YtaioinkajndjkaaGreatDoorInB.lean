/- Comparisons of the program. -/
import Derived.Test.YtaioinkajndjkaaGreatDoorInS
set_option linter.unusedVariables false
set_option linter.unusedSimpArgs false
/- Comparisons of the program. -/
set_option maxHeartbeats 4000000
namespace Go.Proofs.YtaioinkajndjkaaGreatDoor.Ev
open Go
open Classical
variable {c : C} {h : H} {K : AV → H → Prop}
theorem sameInstr_ev (hall : ∀ id, id < 10000000 → seen c.vis id = true) {d1 d2 : Dt} {c1 c2 : List AV} (hcx : Cx c h) (hn : h.n + 2 < 10000000) (r1 : Rp 100 true h ShInstr d1 c1) (r2 : Rp 100 true h ShInstr d2 c2) (k : ∀ h', Grew h h' → h'.n ≤ h.n + 2 → K (.bool (decide (d1 = d2))) h') :
    Gv Tryz.prog X0 Mx c 42 [.agg c1, .agg c2] h K := by
  have hnt : (73 : Nat) ≤ 1000000 := by decide
  obtain ⟨a3, a5, a7, a9, a11, a13, a15, a17, av17, a19, a21, rfl, rfl, al17, as17⟩ := rpd_Instr r1
  obtain ⟨b3, b5, b7, b9, b11, b13, b15, b17, bv17, b19, b21, rfl, rfl, bl17, bs17⟩ := rpd_Instr r2
  have kf : ¬ Dt.row [.int a3, .int a5, .int a7, .int a9, .int a11, .str a13, .str a15, .arr a17, .int a19, .int a21] = Dt.row [.int b3, .int b5, .int b7, .int b9, .int b11, .str b13, .str b15, .arr b17, .int b19, .int b21] → ∀ h', Grew h h' → h'.n ≤ h.n + 2 → K (.bool false) h' := fun q h' g1 g2 => by have := k h' g1 g2; rwa [decide_eq_false q] at this
  have kt : Dt.row [.int a3, .int a5, .int a7, .int a9, .int a11, .str a13, .str a15, .arr a17, .int a19, .int a21] = Dt.row [.int b3, .int b5, .int b7, .int b9, .int b11, .str b13, .str b15, .arr b17, .int b19, .int b21] → ∀ h', Grew h h' → h'.n ≤ h.n + 2 → K (.bool true) h' := fun q h' g1 g2 => by have := k h' g1 g2; rwa [decide_eq_true q] at this
  clear k r1 r2
  refine gv_fn x_sameInstr (Mx_no rfl _ _ _) (by simp) hnt ?_
  unfold s_sameInstr SR.g SR.o
  refine wc_seq (wc_reg (rg_go hnt rfl rfl (wo_boxA rfl rfl (by omega) fun h1 hn1 hb1 hg1 => ?_)))
  refine rg_go hnt rfl rfl (wo_boxA rfl rfl (by omega) fun h2 hn2 hb2 hg2 => ?_)
  have hb12 : h2.get h.n = some (.cells [.int .i64 a3, .int .i64 a5, .int .i64 a7, .int .i64 a9, .int .i64 a11, .str a13, .str a15, av17, .int .i64 a19, .int .i64 a21]) := (hg2.get h.n (by omega)).trans hb1
  have hb22 : h2.get h1.n = some (.cells [.int .i64 b3, .int .i64 b5, .int .i64 b7, .int .i64 b9, .int .i64 b11, .str b13, .str b15, bv17, .int .i64 b19, .int .i64 b21]) := hb2
  have hs1 : seen c.vis h.n = true := hcx.new (Nat.le_refl _) (by omega)
  have hs2 : seen c.vis h1.n = true := hcx.new (by omega) (by omega)
  have hgA := hg1.trans hg2
  repeat' (first | refine z0 ?_ | refine z1 ?_ | refine z2 ?_ | refine z3 ?_ | refine zc ?_ | refine zd ?_ | refine zh ?_ | (refine zq ?_ ?_ <;> intro hc <;> try (exfalso; omega)) | (refine zs ?_ ?_ <;> intro hc) | refine wg_nil ?_ | refine then_go ?_ | refine wc_seq ?_ | refine wc_reg ?_ | refine wc_ret ?_)
  · refine wo_call rfl rfl (eq1_ev x_eqInt (Mx_no rfl) (hcx.mono (by omega)) (e := (.int .i64)) rfl (as17.grew hgA) (bs17.grew hgA) (fun id q => hall id (by omega)) (by omega) ?_)
    by_cases hc : a17 = b17
    rotate_left
    · rw [decide_eq_false hc]
      repeat' (first | refine z0 ?_ | refine z1 ?_ | refine z2 ?_ | refine z3 ?_ | refine zc ?_ | refine zd ?_ | refine zh ?_ | (refine zq ?_ ?_ <;> intro hc <;> try (exfalso; omega)) | (refine zs ?_ ?_ <;> intro hc) | refine wg_nil ?_ | refine then_go ?_ | refine wc_seq ?_ | refine wc_reg ?_ | refine wc_ret ?_)
      exact ⟨Or.inr rfl, _, rfl, kf (fun q => by first | (simp [hc] at q; done) | (simp at q; exact hc q.1)) _ hgA (by omega)⟩
    rw [decide_eq_true hc]
    repeat' (first | refine z0 ?_ | refine z1 ?_ | refine z2 ?_ | refine z3 ?_ | refine zc ?_ | refine zd ?_ | refine zh ?_ | (refine zq ?_ ?_ <;> intro hc <;> try (exfalso; omega)) | (refine zs ?_ ?_ <;> intro hc) | refine wg_nil ?_ | refine then_go ?_ | refine wc_seq ?_ | refine wc_reg ?_ | refine wc_ret ?_)
    · exact ⟨Or.inr rfl, _, rfl, kt (by congr <;> assumption) _ hgA (by omega)⟩
    all_goals exact ⟨Or.inr rfl, _, rfl, kf (fun q => by first | (simp [hc] at q; done) | (simp at q; exact hc q.1)) _ hgA (by omega)⟩
  all_goals exact ⟨Or.inr rfl, _, rfl, kf (fun q => by first | (simp [hc] at q; done) | (simp at q; exact hc q.1)) _ hgA (by omega)⟩
theorem sameSig_ev (hall : ∀ id, id < 10000000 → seen c.vis id = true) {d1 d2 : Dt} {c1 c2 : List AV} (hcx : Cx c h) (hn : h.n + 2 < 10000000) (r1 : Rp 100 true h ShSig d1 c1) (r2 : Rp 100 true h ShSig d2 c2) (k : ∀ h', Grew h h' → h'.n ≤ h.n + 2 → K (.bool (decide (d1 = d2))) h') :
    Gv Tryz.prog X0 Mx c 40 [.agg c1, .agg c2] h K := by
  have hnt : (31 : Nat) ≤ 1000000 := by decide
  obtain ⟨a3, a5, a7, av7, a9, rfl, rfl, al7, as7⟩ := rpd_Sig r1
  obtain ⟨b3, b5, b7, bv7, b9, rfl, rfl, bl7, bs7⟩ := rpd_Sig r2
  have kf : ¬ Dt.row [.str a3, .bool a5, .arr a7, .str a9] = Dt.row [.str b3, .bool b5, .arr b7, .str b9] → ∀ h', Grew h h' → h'.n ≤ h.n + 2 → K (.bool false) h' := fun q h' g1 g2 => by have := k h' g1 g2; rwa [decide_eq_false q] at this
  have kt : Dt.row [.str a3, .bool a5, .arr a7, .str a9] = Dt.row [.str b3, .bool b5, .arr b7, .str b9] → ∀ h', Grew h h' → h'.n ≤ h.n + 2 → K (.bool true) h' := fun q h' g1 g2 => by have := k h' g1 g2; rwa [decide_eq_true q] at this
  clear k r1 r2
  refine gv_fn x_sameSig (Mx_no rfl _ _ _) (by simp) hnt ?_
  unfold s_sameSig SR.g SR.o
  refine wc_seq (wc_reg (rg_go hnt rfl rfl (wo_boxA rfl rfl (by omega) fun h1 hn1 hb1 hg1 => ?_)))
  refine rg_go hnt rfl rfl (wo_boxA rfl rfl (by omega) fun h2 hn2 hb2 hg2 => ?_)
  have hb12 : h2.get h.n = some (.cells [.str a3, .bool a5, av7, .str a9]) := (hg2.get h.n (by omega)).trans hb1
  have hb22 : h2.get h1.n = some (.cells [.str b3, .bool b5, bv7, .str b9]) := hb2
  have hs1 : seen c.vis h.n = true := hcx.new (Nat.le_refl _) (by omega)
  have hs2 : seen c.vis h1.n = true := hcx.new (by omega) (by omega)
  have hgA := hg1.trans hg2
  repeat' (first | refine z0 ?_ | refine z1 ?_ | refine z2 ?_ | refine z3 ?_ | refine zc ?_ | refine zd ?_ | refine zh ?_ | (refine zs ?_ ?_ <;> intro hc) | (refine zt ?_ ?_ <;> intro hc) | refine wg_nil ?_ | refine then_go ?_ | refine wc_seq ?_ | refine wc_reg ?_ | refine wc_ret ?_)
  · refine wo_call rfl rfl (eq1_ev x_eqStr (Mx_no rfl) (hcx.mono (by omega)) (e := .str) rfl (as7.grew hgA) (bs7.grew hgA) (fun id q => hall id (by omega)) (by omega) ?_)
    by_cases hc : a7 = b7
    rotate_left
    · rw [decide_eq_false hc]
      repeat' (first | refine z0 ?_ | refine z1 ?_ | refine z2 ?_ | refine z3 ?_ | refine zc ?_ | refine zd ?_ | refine zh ?_ | (refine zs ?_ ?_ <;> intro hc) | (refine zt ?_ ?_ <;> intro hc) | refine wg_nil ?_ | refine then_go ?_ | refine wc_seq ?_ | refine wc_reg ?_ | refine wc_ret ?_)
      exact ⟨Or.inr rfl, _, rfl, kf (fun q => by first | (simp [hc] at q; done) | (simp at q; exact hc q.1)) _ hgA (by omega)⟩
    rw [decide_eq_true hc]
    repeat' (first | refine z0 ?_ | refine z1 ?_ | refine z2 ?_ | refine z3 ?_ | refine zc ?_ | refine zd ?_ | refine zh ?_ | (refine zs ?_ ?_ <;> intro hc) | (refine zt ?_ ?_ <;> intro hc) | refine wg_nil ?_ | refine then_go ?_ | refine wc_seq ?_ | refine wc_reg ?_ | refine wc_ret ?_)
    · exact ⟨Or.inr rfl, _, rfl, kt (by congr <;> assumption) _ hgA (by omega)⟩
    all_goals exact ⟨Or.inr rfl, _, rfl, kf (fun q => by first | (simp [hc] at q; done) | (simp at q; exact hc q.1)) _ hgA (by omega)⟩
  all_goals exact ⟨Or.inr rfl, _, rfl, kf (fun q => by first | (simp [hc] at q; done) | (simp at q; exact hc q.1)) _ hgA (by omega)⟩
end Go.Proofs.YtaioinkajndjkaaGreatDoor.Ev
/- Comparisons of the program. -/
set_option maxHeartbeats 4000000
namespace Go.Proofs.YtaioinkajndjkaaGreatDoor.Ev
open Go
open Classical
variable {c : C} {h : H} {K : AV → H → Prop}
theorem sameClass_ev (hall : ∀ id, id < 10000000 → seen c.vis id = true) {d1 d2 : Dt} {c1 c2 : List AV} (hcx : Cx c h) (hn : h.n + 402 < 10000000) (r1 : Rp 100 true h ShClass d1 c1) (r2 : Rp 100 true h ShClass d2 c2) (k : ∀ h', Grew h h' → h'.n ≤ h.n + 402 → K (.bool (decide (d1 = d2))) h') :
    Gv Tryz.prog X0 Mx c 25 [.agg c1, .agg c2] h K := by
  have hnt : (31 : Nat) ≤ 1000000 := by decide
  obtain ⟨a3, a5, a7, av7, a9, av9, rfl, rfl, al7, as7, al9, as9⟩ := rpd_Class r1
  obtain ⟨b3, b5, b7, bv7, b9, bv9, rfl, rfl, bl7, bs7, bl9, bs9⟩ := rpd_Class r2
  have kf : ¬ Dt.row [.str a3, .str a5, .arr a7, .arr a9] = Dt.row [.str b3, .str b5, .arr b7, .arr b9] → ∀ h', Grew h h' → h'.n ≤ h.n + 402 → K (.bool false) h' := fun q h' g1 g2 => by have := k h' g1 g2; rwa [decide_eq_false q] at this
  have kt : Dt.row [.str a3, .str a5, .arr a7, .arr a9] = Dt.row [.str b3, .str b5, .arr b7, .arr b9] → ∀ h', Grew h h' → h'.n ≤ h.n + 402 → K (.bool true) h' := fun q h' g1 g2 => by have := k h' g1 g2; rwa [decide_eq_true q] at this
  clear k r1 r2
  refine gv_fn x_sameClass (Mx_no rfl _ _ _) (by simp) hnt ?_
  unfold s_sameClass SR.g SR.o
  refine wc_seq (wc_reg (rg_go hnt rfl rfl (wo_boxA rfl rfl (by omega) fun h1 hn1 hb1 hg1 => ?_)))
  refine rg_go hnt rfl rfl (wo_boxA rfl rfl (by omega) fun h2 hn2 hb2 hg2 => ?_)
  have hb12 : h2.get h.n = some (.cells [.str a3, .str a5, av7, av9]) := (hg2.get h.n (by omega)).trans hb1
  have hb22 : h2.get h1.n = some (.cells [.str b3, .str b5, bv7, bv9]) := hb2
  have hs1 : seen c.vis h.n = true := hcx.new (Nat.le_refl _) (by omega)
  have hs2 : seen c.vis h1.n = true := hcx.new (by omega) (by omega)
  have hgA := hg1.trans hg2
  repeat' (first | refine z0 ?_ | refine z1 ?_ | refine z2 ?_ | refine z3 ?_ | refine zc ?_ | refine zd ?_ | refine zh ?_ | (refine zs ?_ ?_ <;> intro hc) | refine wg_nil ?_ | refine then_go ?_ | refine wc_seq ?_ | refine wc_reg ?_ | refine wc_ret ?_)
  · refine wo_call rfl rfl (eqN_ev (esz := 2) x_eqField (Mx_no rfl) (hcx.mono (by omega)) (shs := [.str, .str]) rfl rfl (as7.grew hgA) (bs7.grew hgA) (fun id q => hall id (by omega)) (by omega) ?_)
    by_cases hc : a7 = b7
    rotate_left
    · rw [decide_eq_false hc]
      repeat' (first | refine z0 ?_ | refine z1 ?_ | refine z2 ?_ | refine z3 ?_ | refine zc ?_ | refine zd ?_ | refine zh ?_ | (refine zs ?_ ?_ <;> intro hc) | refine wg_nil ?_ | refine then_go ?_ | refine wc_seq ?_ | refine wc_reg ?_ | refine wc_ret ?_)
      exact ⟨Or.inr rfl, _, rfl, kf (fun q => by first | (simp [hc] at q; done) | (simp at q; exact hc q.1)) _ hgA (by omega)⟩
    rw [decide_eq_true hc]
    repeat' (first | refine z0 ?_ | refine z1 ?_ | refine z2 ?_ | refine z3 ?_ | refine zc ?_ | refine zd ?_ | refine zh ?_ | (refine zs ?_ ?_ <;> intro hc) | refine wg_nil ?_ | refine then_go ?_ | refine wc_seq ?_ | refine wc_reg ?_ | refine wc_ret ?_)
    · have hl2 : a9.length ≤ 100 := al9.resolve_right (by simp [Sh.cnt, cntL])
      have hm2 := Nat.mul_le_mul_right (2 + 2) hl2
      refine wo_call rfl rfl (ef_ev (esz := 4) (m := 2) (zs := [.str [], .bool false, .nils, .str []]) x_efSig (Mx_no rfl) (hcx.mono (by omega)) rfl rfl (as9.grew hgA) (bs9.grew hgA) (fun id q => hall id (by omega)) (by omega) (fun h' d1 d2 c1 c2 K g1 g2 _ _ q1 q2 kk => sameSig_ev hall (hcx.mono (by have := g1.le; omega)) (by omega) q1 q2 kk) fun h4 hgq2 hnq2 => ?_)
      have hgl2 := hgq2.le
      have hbx2 := (hgq2.get h.n (by omega)).trans hb12
      have hby2 := (hgq2.get h1.n (by omega)).trans hb22
      have hgX2 := hgA.trans hgq2
      by_cases hc : a9 = b9
      rotate_left
      · rw [decide_eq_false hc]
        repeat' (first | refine z0 ?_ | refine z1 ?_ | refine z2 ?_ | refine z3 ?_ | refine zc ?_ | refine zd ?_ | refine zh ?_ | (refine zs ?_ ?_ <;> intro hc) | refine wg_nil ?_ | refine then_go ?_ | refine wc_seq ?_ | refine wc_reg ?_ | refine wc_ret ?_)
        exact ⟨Or.inr rfl, _, rfl, kf (fun q => by first | (simp [hc] at q; done) | (simp at q; exact hc q.1)) _ hgX2 (by omega)⟩
      rw [decide_eq_true hc]
      repeat' (first | refine z0 ?_ | refine z1 ?_ | refine z2 ?_ | refine z3 ?_ | refine zc ?_ | refine zd ?_ | refine zh ?_ | (refine zs ?_ ?_ <;> intro hc) | refine wg_nil ?_ | refine then_go ?_ | refine wc_seq ?_ | refine wc_reg ?_ | refine wc_ret ?_)
      · exact ⟨Or.inr rfl, _, rfl, kt (by congr <;> assumption) _ hgX2 (by omega)⟩
      all_goals exact ⟨Or.inr rfl, _, rfl, kf (fun q => by first | (simp [hc] at q; done) | (simp at q; exact hc q.1)) _ hgX2 (by omega)⟩
    all_goals exact ⟨Or.inr rfl, _, rfl, kf (fun q => by first | (simp [hc] at q; done) | (simp at q; exact hc q.1)) _ hgA (by omega)⟩
  all_goals exact ⟨Or.inr rfl, _, rfl, kf (fun q => by first | (simp [hc] at q; done) | (simp at q; exact hc q.1)) _ hgA (by omega)⟩
theorem sameFunc_ev (hall : ∀ id, id < 10000000 → seen c.vis id = true) {d1 d2 : Dt} {c1 c2 : List AV} (hcx : Cx c h) (hn : h.n + 402 < 10000000) (r1 : Rp 100 true h ShFunc d1 c1) (r2 : Rp 100 true h ShFunc d2 c2) (k : ∀ h', Grew h h' → h'.n ≤ h.n + 402 → K (.bool (decide (d1 = d2))) h') :
    Gv Tryz.prog X0 Mx c 27 [.agg c1, .agg c2] h K := by
  have hnt : (52 : Nat) ≤ 1000000 := by decide
  obtain ⟨a3, a5, a7, a9, a11, av11, a13, a15, av15, rfl, rfl, al11, as11, al15, as15⟩ := rpd_Func r1
  obtain ⟨b3, b5, b7, b9, b11, bv11, b13, b15, bv15, rfl, rfl, bl11, bs11, bl15, bs15⟩ := rpd_Func r2
  have kf : ¬ Dt.row [.str a3, .str a5, .bool a7, .int a9, .arr a11, .str a13, .arr a15] = Dt.row [.str b3, .str b5, .bool b7, .int b9, .arr b11, .str b13, .arr b15] → ∀ h', Grew h h' → h'.n ≤ h.n + 402 → K (.bool false) h' := fun q h' g1 g2 => by have := k h' g1 g2; rwa [decide_eq_false q] at this
  have kt : Dt.row [.str a3, .str a5, .bool a7, .int a9, .arr a11, .str a13, .arr a15] = Dt.row [.str b3, .str b5, .bool b7, .int b9, .arr b11, .str b13, .arr b15] → ∀ h', Grew h h' → h'.n ≤ h.n + 402 → K (.bool true) h' := fun q h' g1 g2 => by have := k h' g1 g2; rwa [decide_eq_true q] at this
  clear k r1 r2
  refine gv_fn x_sameFunc (Mx_no rfl _ _ _) (by simp) hnt ?_
  unfold s_sameFunc SR.g SR.o
  refine wc_seq (wc_reg (rg_go hnt rfl rfl (wo_boxA rfl rfl (by omega) fun h1 hn1 hb1 hg1 => ?_)))
  refine rg_go hnt rfl rfl (wo_boxA rfl rfl (by omega) fun h2 hn2 hb2 hg2 => ?_)
  have hb12 : h2.get h.n = some (.cells [.str a3, .str a5, .bool a7, .int .i64 a9, av11, .str a13, av15]) := (hg2.get h.n (by omega)).trans hb1
  have hb22 : h2.get h1.n = some (.cells [.str b3, .str b5, .bool b7, .int .i64 b9, bv11, .str b13, bv15]) := hb2
  have hs1 : seen c.vis h.n = true := hcx.new (Nat.le_refl _) (by omega)
  have hs2 : seen c.vis h1.n = true := hcx.new (by omega) (by omega)
  have hgA := hg1.trans hg2
  repeat' (first | refine z0 ?_ | refine z1 ?_ | refine z2 ?_ | refine z3 ?_ | refine zc ?_ | refine zd ?_ | refine zh ?_ | (refine zq ?_ ?_ <;> intro hc <;> try (exfalso; omega)) | (refine zs ?_ ?_ <;> intro hc) | (refine zt ?_ ?_ <;> intro hc) | refine wg_nil ?_ | refine then_go ?_ | refine wc_seq ?_ | refine wc_reg ?_ | refine wc_ret ?_)
  · refine wo_call rfl rfl (eqN_ev (esz := 2) x_eqField (Mx_no rfl) (hcx.mono (by omega)) (shs := [.str, .str]) rfl rfl (as11.grew hgA) (bs11.grew hgA) (fun id q => hall id (by omega)) (by omega) ?_)
    by_cases hc : a11 = b11
    rotate_left
    · rw [decide_eq_false hc]
      repeat' (first | refine z0 ?_ | refine z1 ?_ | refine z2 ?_ | refine z3 ?_ | refine zc ?_ | refine zd ?_ | refine zh ?_ | (refine zq ?_ ?_ <;> intro hc <;> try (exfalso; omega)) | (refine zs ?_ ?_ <;> intro hc) | (refine zt ?_ ?_ <;> intro hc) | refine wg_nil ?_ | refine then_go ?_ | refine wc_seq ?_ | refine wc_reg ?_ | refine wc_ret ?_)
      exact ⟨Or.inr rfl, _, rfl, kf (fun q => by first | (simp [hc] at q; done) | (simp at q; exact hc q.1)) _ hgA (by omega)⟩
    rw [decide_eq_true hc]
    repeat' (first | refine z0 ?_ | refine z1 ?_ | refine z2 ?_ | refine z3 ?_ | refine zc ?_ | refine zd ?_ | refine zh ?_ | (refine zq ?_ ?_ <;> intro hc <;> try (exfalso; omega)) | (refine zs ?_ ?_ <;> intro hc) | (refine zt ?_ ?_ <;> intro hc) | refine wg_nil ?_ | refine then_go ?_ | refine wc_seq ?_ | refine wc_reg ?_ | refine wc_ret ?_)
    · have hl2 : a15.length ≤ 100 := al15.resolve_right (by simp [Sh.cnt, cntL])
      have hm2 := Nat.mul_le_mul_right (2 + 2) hl2
      refine wo_call rfl rfl (ef_ev (esz := 10) (m := 2) (zs := [.int .i64 0, .int .i64 0, .int .i64 0, .int .i64 0, .int .i64 0, .str [], .str [], .nils, .int .i64 0, .int .i64 0]) x_efInstr (Mx_no rfl) (hcx.mono (by omega)) rfl rfl (as15.grew hgA) (bs15.grew hgA) (fun id q => hall id (by omega)) (by omega) (fun h' d1 d2 c1 c2 K g1 g2 _ _ q1 q2 kk => sameInstr_ev hall (hcx.mono (by have := g1.le; omega)) (by omega) q1 q2 kk) fun h4 hgq2 hnq2 => ?_)
      have hgl2 := hgq2.le
      have hbx2 := (hgq2.get h.n (by omega)).trans hb12
      have hby2 := (hgq2.get h1.n (by omega)).trans hb22
      have hgX2 := hgA.trans hgq2
      by_cases hc : a15 = b15
      rotate_left
      · rw [decide_eq_false hc]
        repeat' (first | refine z0 ?_ | refine z1 ?_ | refine z2 ?_ | refine z3 ?_ | refine zc ?_ | refine zd ?_ | refine zh ?_ | (refine zq ?_ ?_ <;> intro hc <;> try (exfalso; omega)) | (refine zs ?_ ?_ <;> intro hc) | (refine zt ?_ ?_ <;> intro hc) | refine wg_nil ?_ | refine then_go ?_ | refine wc_seq ?_ | refine wc_reg ?_ | refine wc_ret ?_)
        exact ⟨Or.inr rfl, _, rfl, kf (fun q => by first | (simp [hc] at q; done) | (simp at q; exact hc q.1)) _ hgX2 (by omega)⟩
      rw [decide_eq_true hc]
      repeat' (first | refine z0 ?_ | refine z1 ?_ | refine z2 ?_ | refine z3 ?_ | refine zc ?_ | refine zd ?_ | refine zh ?_ | (refine zq ?_ ?_ <;> intro hc <;> try (exfalso; omega)) | (refine zs ?_ ?_ <;> intro hc) | (refine zt ?_ ?_ <;> intro hc) | refine wg_nil ?_ | refine then_go ?_ | refine wc_seq ?_ | refine wc_reg ?_ | refine wc_ret ?_)
      · exact ⟨Or.inr rfl, _, rfl, kt (by congr <;> assumption) _ hgX2 (by omega)⟩
      all_goals exact ⟨Or.inr rfl, _, rfl, kf (fun q => by first | (simp [hc] at q; done) | (simp at q; exact hc q.1)) _ hgX2 (by omega)⟩
    all_goals exact ⟨Or.inr rfl, _, rfl, kf (fun q => by first | (simp [hc] at q; done) | (simp at q; exact hc q.1)) _ hgA (by omega)⟩
  all_goals exact ⟨Or.inr rfl, _, rfl, kf (fun q => by first | (simp [hc] at q; done) | (simp at q; exact hc q.1)) _ hgA (by omega)⟩
end Go.Proofs.YtaioinkajndjkaaGreatDoor.Ev
/- Comparisons of the program. -/
set_option maxHeartbeats 4000000
namespace Go.Proofs.YtaioinkajndjkaaGreatDoor.Ev
open Go
open Classical
variable {c : C} {h : H} {K : AV → H → Prop}
theorem sameRule_ev (hall : ∀ id, id < 10000000 → seen c.vis id = true) {d1 d2 : Dt} {c1 c2 : List AV} (hcx : Cx c h) (hn : h.n + 2 < 10000000) (r1 : Rp 100 true h ShRule d1 c1) (r2 : Rp 100 true h ShRule d2 c2) (k : ∀ h', Grew h h' → h'.n ≤ h.n + 2 → K (.bool (decide (d1 = d2))) h') :
    Gv Tryz.prog X0 Mx c 11 [.agg c1, .agg c2] h K := by
  have hnt : (67 : Nat) ≤ 1000000 := by decide
  obtain ⟨a3, a5, a7, a11, a13, a15, av15, a17, a19, rfl, rfl, al15, as15⟩ := rpd_Rule r1
  obtain ⟨b3, b5, b7, b11, b13, b15, bv15, b17, b19, rfl, rfl, bl15, bs15⟩ := rpd_Rule r2
  have kf : ¬ Dt.row [.int a3, .str a5, .str a7, .row [.int a11, .int a13, .arr a15, .bool a17], .str a19] = Dt.row [.int b3, .str b5, .str b7, .row [.int b11, .int b13, .arr b15, .bool b17], .str b19] → ∀ h', Grew h h' → h'.n ≤ h.n + 2 → K (.bool false) h' := fun q h' g1 g2 => by have := k h' g1 g2; rwa [decide_eq_false q] at this
  have kt : Dt.row [.int a3, .str a5, .str a7, .row [.int a11, .int a13, .arr a15, .bool a17], .str a19] = Dt.row [.int b3, .str b5, .str b7, .row [.int b11, .int b13, .arr b15, .bool b17], .str b19] → ∀ h', Grew h h' → h'.n ≤ h.n + 2 → K (.bool true) h' := fun q h' g1 g2 => by have := k h' g1 g2; rwa [decide_eq_true q] at this
  clear k r1 r2
  refine gv_fn x_sameRule (Mx_no rfl _ _ _) (by simp) hnt ?_
  unfold s_sameRule SR.g SR.o
  refine wc_seq (wc_reg (rg_go hnt rfl rfl (wo_boxA rfl rfl (by omega) fun h1 hn1 hb1 hg1 => ?_)))
  refine rg_go hnt rfl rfl (wo_boxA rfl rfl (by omega) fun h2 hn2 hb2 hg2 => ?_)
  have hb12 : h2.get h.n = some (.cells [.int .i64 a3, .str a5, .str a7, .int .i64 a11, .int .i64 a13, av15, .bool a17, .str a19]) := (hg2.get h.n (by omega)).trans hb1
  have hb22 : h2.get h1.n = some (.cells [.int .i64 b3, .str b5, .str b7, .int .i64 b11, .int .i64 b13, bv15, .bool b17, .str b19]) := hb2
  have hs1 : seen c.vis h.n = true := hcx.new (Nat.le_refl _) (by omega)
  have hs2 : seen c.vis h1.n = true := hcx.new (by omega) (by omega)
  have hgA := hg1.trans hg2
  repeat' (first | refine z0 ?_ | refine z1 ?_ | refine z2 ?_ | refine z3 ?_ | refine zc ?_ | refine zd ?_ | refine zh ?_ | (refine zq ?_ ?_ <;> intro hc <;> try (exfalso; omega)) | (refine zs ?_ ?_ <;> intro hc) | (refine zt ?_ ?_ <;> intro hc) | refine wg_nil ?_ | refine then_go ?_ | refine wc_seq ?_ | refine wc_reg ?_ | refine wc_ret ?_)
  · refine wo_call rfl rfl (eq1_ev x_eqStr (Mx_no rfl) (hcx.mono (by omega)) (e := .str) rfl (as15.grew hgA) (bs15.grew hgA) (fun id q => hall id (by omega)) (by omega) ?_)
    by_cases hc : a15 = b15
    rotate_left
    · rw [decide_eq_false hc]
      repeat' (first | refine z0 ?_ | refine z1 ?_ | refine z2 ?_ | refine z3 ?_ | refine zc ?_ | refine zd ?_ | refine zh ?_ | (refine zq ?_ ?_ <;> intro hc <;> try (exfalso; omega)) | (refine zs ?_ ?_ <;> intro hc) | (refine zt ?_ ?_ <;> intro hc) | refine wg_nil ?_ | refine then_go ?_ | refine wc_seq ?_ | refine wc_reg ?_ | refine wc_ret ?_)
      exact ⟨Or.inr rfl, _, rfl, kf (fun q => by first | (simp [hc] at q; done) | (simp at q; exact hc q.1)) _ hgA (by omega)⟩
    rw [decide_eq_true hc]
    repeat' (first | refine z0 ?_ | refine z1 ?_ | refine z2 ?_ | refine z3 ?_ | refine zc ?_ | refine zd ?_ | refine zh ?_ | (refine zq ?_ ?_ <;> intro hc <;> try (exfalso; omega)) | (refine zs ?_ ?_ <;> intro hc) | (refine zt ?_ ?_ <;> intro hc) | refine wg_nil ?_ | refine then_go ?_ | refine wc_seq ?_ | refine wc_reg ?_ | refine wc_ret ?_)
    · exact ⟨Or.inr rfl, _, rfl, kt (by congr <;> assumption) _ hgA (by omega)⟩
    all_goals exact ⟨Or.inr rfl, _, rfl, kf (fun q => by first | (simp [hc] at q; done) | (simp at q; exact hc q.1)) _ hgA (by omega)⟩
  all_goals exact ⟨Or.inr rfl, _, rfl, kf (fun q => by first | (simp [hc] at q; done) | (simp at q; exact hc q.1)) _ hgA (by omega)⟩
theorem sameProtocol_ev (hall : ∀ id, id < 10000000 → seen c.vis id = true) {d1 d2 : Dt} {c1 c2 : List AV} (hcx : Cx c h) (hn : h.n + 2 < 10000000) (r1 : Rp 100 true h ShProto d1 c1) (r2 : Rp 100 true h ShProto d2 c2) (k : ∀ h', Grew h h' → h'.n ≤ h.n + 2 → K (.bool (decide (d1 = d2))) h') :
    Gv Tryz.prog X0 Mx c 13 [.agg c1, .agg c2] h K := by
  have hnt : (38 : Nat) ≤ 1000000 := by decide
  obtain ⟨a3, a5, av5, a7, a9, a11, av11, rfl, rfl, al5, as5, al11, as11⟩ := rpd_Proto r1
  obtain ⟨b3, b5, bv5, b7, b9, b11, bv11, rfl, rfl, bl5, bs5, bl11, bs11⟩ := rpd_Proto r2
  have kf : ¬ Dt.row [.str a3, .arr a5, .int a7, .int a9, .arr a11] = Dt.row [.str b3, .arr b5, .int b7, .int b9, .arr b11] → ∀ h', Grew h h' → h'.n ≤ h.n + 2 → K (.bool false) h' := fun q h' g1 g2 => by have := k h' g1 g2; rwa [decide_eq_false q] at this
  have kt : Dt.row [.str a3, .arr a5, .int a7, .int a9, .arr a11] = Dt.row [.str b3, .arr b5, .int b7, .int b9, .arr b11] → ∀ h', Grew h h' → h'.n ≤ h.n + 2 → K (.bool true) h' := fun q h' g1 g2 => by have := k h' g1 g2; rwa [decide_eq_true q] at this
  clear k r1 r2
  refine gv_fn x_sameProtocol (Mx_no rfl _ _ _) (by simp) hnt ?_
  unfold s_sameProtocol SR.g SR.o
  refine wc_seq (wc_reg (rg_go hnt rfl rfl (wo_boxA rfl rfl (by omega) fun h1 hn1 hb1 hg1 => ?_)))
  refine rg_go hnt rfl rfl (wo_boxA rfl rfl (by omega) fun h2 hn2 hb2 hg2 => ?_)
  have hb12 : h2.get h.n = some (.cells [.str a3, av5, .int .i64 a7, .int .i64 a9, av11]) := (hg2.get h.n (by omega)).trans hb1
  have hb22 : h2.get h1.n = some (.cells [.str b3, bv5, .int .i64 b7, .int .i64 b9, bv11]) := hb2
  have hs1 : seen c.vis h.n = true := hcx.new (Nat.le_refl _) (by omega)
  have hs2 : seen c.vis h1.n = true := hcx.new (by omega) (by omega)
  have hgA := hg1.trans hg2
  repeat' (first | refine z0 ?_ | refine z1 ?_ | refine z2 ?_ | refine z3 ?_ | refine zc ?_ | refine zd ?_ | refine zh ?_ | (refine zq ?_ ?_ <;> intro hc <;> try (exfalso; omega)) | (refine zs ?_ ?_ <;> intro hc) | refine wg_nil ?_ | refine then_go ?_ | refine wc_seq ?_ | refine wc_reg ?_ | refine wc_ret ?_)
  · refine wo_call rfl rfl (eq1_ev x_eqStr (Mx_no rfl) (hcx.mono (by omega)) (e := .str) rfl (as5.grew hgA) (bs5.grew hgA) (fun id q => hall id (by omega)) (by omega) ?_)
    by_cases hc : a5 = b5
    rotate_left
    · rw [decide_eq_false hc]
      repeat' (first | refine z0 ?_ | refine z1 ?_ | refine z2 ?_ | refine z3 ?_ | refine zc ?_ | refine zd ?_ | refine zh ?_ | (refine zq ?_ ?_ <;> intro hc <;> try (exfalso; omega)) | (refine zs ?_ ?_ <;> intro hc) | refine wg_nil ?_ | refine then_go ?_ | refine wc_seq ?_ | refine wc_reg ?_ | refine wc_ret ?_)
      exact ⟨Or.inr rfl, _, rfl, kf (fun q => by first | (simp [hc] at q; done) | (simp at q; exact hc q.1)) _ hgA (by omega)⟩
    rw [decide_eq_true hc]
    repeat' (first | refine z0 ?_ | refine z1 ?_ | refine z2 ?_ | refine z3 ?_ | refine zc ?_ | refine zd ?_ | refine zh ?_ | (refine zq ?_ ?_ <;> intro hc <;> try (exfalso; omega)) | (refine zs ?_ ?_ <;> intro hc) | refine wg_nil ?_ | refine then_go ?_ | refine wc_seq ?_ | refine wc_reg ?_ | refine wc_ret ?_)
    · refine wo_call rfl rfl (eqN_ev (esz := 3) x_eqMove (Mx_no rfl) (hcx.mono (by omega)) (shs := [(.int .i64), .str, (.int .i64)]) rfl rfl (as11.grew hgA) (bs11.grew hgA) (fun id q => hall id (by omega)) (by omega) ?_)
      by_cases hc : a11 = b11
      rotate_left
      · rw [decide_eq_false hc]
        repeat' (first | refine z0 ?_ | refine z1 ?_ | refine z2 ?_ | refine z3 ?_ | refine zc ?_ | refine zd ?_ | refine zh ?_ | (refine zq ?_ ?_ <;> intro hc <;> try (exfalso; omega)) | (refine zs ?_ ?_ <;> intro hc) | refine wg_nil ?_ | refine then_go ?_ | refine wc_seq ?_ | refine wc_reg ?_ | refine wc_ret ?_)
        exact ⟨Or.inr rfl, _, rfl, kf (fun q => by first | (simp [hc] at q; done) | (simp at q; exact hc q.1)) _ hgA (by omega)⟩
      rw [decide_eq_true hc]
      repeat' (first | refine z0 ?_ | refine z1 ?_ | refine z2 ?_ | refine z3 ?_ | refine zc ?_ | refine zd ?_ | refine zh ?_ | (refine zq ?_ ?_ <;> intro hc <;> try (exfalso; omega)) | (refine zs ?_ ?_ <;> intro hc) | refine wg_nil ?_ | refine then_go ?_ | refine wc_seq ?_ | refine wc_reg ?_ | refine wc_ret ?_)
      · exact ⟨Or.inr rfl, _, rfl, kt (by congr <;> assumption) _ hgA (by omega)⟩
      all_goals exact ⟨Or.inr rfl, _, rfl, kf (fun q => by first | (simp [hc] at q; done) | (simp at q; exact hc q.1)) _ hgA (by omega)⟩
    all_goals exact ⟨Or.inr rfl, _, rfl, kf (fun q => by first | (simp [hc] at q; done) | (simp at q; exact hc q.1)) _ hgA (by omega)⟩
  all_goals exact ⟨Or.inr rfl, _, rfl, kf (fun q => by first | (simp [hc] at q; done) | (simp at q; exact hc q.1)) _ hgA (by omega)⟩
theorem sameMemo_ev (hall : ∀ id, id < 10000000 → seen c.vis id = true) {d1 d2 : Dt} {c1 c2 : List AV} (hcx : Cx c h) (hn : h.n + 2 < 10000000) (r1 : Rp 100 true h ShMemo d1 c1) (r2 : Rp 100 true h ShMemo d2 c2) (k : ∀ h', Grew h h' → h'.n ≤ h.n + 2 → K (.bool (decide (d1 = d2))) h') :
    Gv Tryz.prog X0 Mx c 15 [.agg c1, .agg c2] h K := by
  have hnt : (31 : Nat) ≤ 1000000 := by decide
  obtain ⟨a5, a7, a9, a11, av11, a13, av13, rfl, rfl, al11, as11, al13, as13⟩ := rpd_Memo r1
  obtain ⟨b5, b7, b9, b11, bv11, b13, bv13, rfl, rfl, bl11, bs11, bl13, bs13⟩ := rpd_Memo r2
  have kf : ¬ Dt.row [.row [.str a5, .str a7], .str a9, .arr a11, .arr a13] = Dt.row [.row [.str b5, .str b7], .str b9, .arr b11, .arr b13] → ∀ h', Grew h h' → h'.n ≤ h.n + 2 → K (.bool false) h' := fun q h' g1 g2 => by have := k h' g1 g2; rwa [decide_eq_false q] at this
  have kt : Dt.row [.row [.str a5, .str a7], .str a9, .arr a11, .arr a13] = Dt.row [.row [.str b5, .str b7], .str b9, .arr b11, .arr b13] → ∀ h', Grew h h' → h'.n ≤ h.n + 2 → K (.bool true) h' := fun q h' g1 g2 => by have := k h' g1 g2; rwa [decide_eq_true q] at this
  clear k r1 r2
  refine gv_fn x_sameMemo (Mx_no rfl _ _ _) (by simp) hnt ?_
  unfold s_sameMemo SR.g SR.o
  refine wc_seq (wc_reg (rg_go hnt rfl rfl (wo_boxA rfl rfl (by omega) fun h1 hn1 hb1 hg1 => ?_)))
  refine rg_go hnt rfl rfl (wo_boxA rfl rfl (by omega) fun h2 hn2 hb2 hg2 => ?_)
  have hb12 : h2.get h.n = some (.cells [.str a5, .str a7, .str a9, av11, av13]) := (hg2.get h.n (by omega)).trans hb1
  have hb22 : h2.get h1.n = some (.cells [.str b5, .str b7, .str b9, bv11, bv13]) := hb2
  have hs1 : seen c.vis h.n = true := hcx.new (Nat.le_refl _) (by omega)
  have hs2 : seen c.vis h1.n = true := hcx.new (by omega) (by omega)
  have hgA := hg1.trans hg2
  repeat' (first | refine z0 ?_ | refine z1 ?_ | refine z2 ?_ | refine z3 ?_ | refine zc ?_ | refine zd ?_ | refine zh ?_ | refine zi ?_ | (refine zS (fun hc hc2 => ?_) (fun hc => ?_)) | (refine zs ?_ ?_ <;> intro hc) | refine wg_nil ?_ | refine then_go ?_ | refine wc_seq ?_ | refine wc_reg ?_ | refine wc_ret ?_)
  · refine wo_call rfl rfl (eqN_ev (esz := 2) x_eqNamedPair (Mx_no rfl) (hcx.mono (by omega)) (shs := [.str, .str]) rfl rfl (as11.grew hgA) (bs11.grew hgA) (fun id q => hall id (by omega)) (by omega) ?_)
    by_cases hc : a11 = b11
    rotate_left
    · rw [decide_eq_false hc]
      repeat' (first | refine z0 ?_ | refine z1 ?_ | refine z2 ?_ | refine z3 ?_ | refine zc ?_ | refine zd ?_ | refine zh ?_ | refine zi ?_ | (refine zS (fun hc hc2 => ?_) (fun hc => ?_)) | (refine zs ?_ ?_ <;> intro hc) | refine wg_nil ?_ | refine then_go ?_ | refine wc_seq ?_ | refine wc_reg ?_ | refine wc_ret ?_)
      exact ⟨Or.inr rfl, _, rfl, kf (fun q => by first | (simp [hc] at q; done) | (simp at q; exact hc q.1)) _ hgA (by omega)⟩
    rw [decide_eq_true hc]
    repeat' (first | refine z0 ?_ | refine z1 ?_ | refine z2 ?_ | refine z3 ?_ | refine zc ?_ | refine zd ?_ | refine zh ?_ | refine zi ?_ | (refine zS (fun hc hc2 => ?_) (fun hc => ?_)) | (refine zs ?_ ?_ <;> intro hc) | refine wg_nil ?_ | refine then_go ?_ | refine wc_seq ?_ | refine wc_reg ?_ | refine wc_ret ?_)
    · refine wo_call rfl rfl (eqN_ev (esz := 2) x_eqNamedPair (Mx_no rfl) (hcx.mono (by omega)) (shs := [.str, .str]) rfl rfl (as13.grew hgA) (bs13.grew hgA) (fun id q => hall id (by omega)) (by omega) ?_)
      by_cases hc : a13 = b13
      rotate_left
      · rw [decide_eq_false hc]
        repeat' (first | refine z0 ?_ | refine z1 ?_ | refine z2 ?_ | refine z3 ?_ | refine zc ?_ | refine zd ?_ | refine zh ?_ | refine zi ?_ | (refine zS (fun hc hc2 => ?_) (fun hc => ?_)) | (refine zs ?_ ?_ <;> intro hc) | refine wg_nil ?_ | refine then_go ?_ | refine wc_seq ?_ | refine wc_reg ?_ | refine wc_ret ?_)
        exact ⟨Or.inr rfl, _, rfl, kf (fun q => by first | (simp [hc] at q; done) | (simp at q; exact hc q.1)) _ hgA (by omega)⟩
      rw [decide_eq_true hc]
      repeat' (first | refine z0 ?_ | refine z1 ?_ | refine z2 ?_ | refine z3 ?_ | refine zc ?_ | refine zd ?_ | refine zh ?_ | refine zi ?_ | (refine zS (fun hc hc2 => ?_) (fun hc => ?_)) | (refine zs ?_ ?_ <;> intro hc) | refine wg_nil ?_ | refine then_go ?_ | refine wc_seq ?_ | refine wc_reg ?_ | refine wc_ret ?_)
      · exact ⟨Or.inr rfl, _, rfl, kt (by congr <;> assumption) _ hgA (by omega)⟩
      all_goals exact ⟨Or.inr rfl, _, rfl, kf (fun q => by first | (simp [hc] at q; done) | (simp at q; exact hc q.1)) _ hgA (by omega)⟩
    all_goals exact ⟨Or.inr rfl, _, rfl, kf (fun q => by first | (simp [hc] at q; done) | (simp at q; exact hc q.1)) _ hgA (by omega)⟩
  all_goals exact ⟨Or.inr rfl, _, rfl, kf (fun q => by first | (simp [hc] at q; done) | (simp at q; exact hc q.1)) _ hgA (by omega)⟩
end Go.Proofs.YtaioinkajndjkaaGreatDoor.Ev
/- Comparisons of the program. -/
set_option maxHeartbeats 4000000
namespace Go.Proofs.YtaioinkajndjkaaGreatDoor.Ev
open Go
open Classical
variable {c : C} {h : H} {K : AV → H → Prop}
theorem irSame_ev (hall : ∀ id, id < 10000000 → seen c.vis id = true) {d1 d2 : Dt} {c1 c2 : List AV} (hcx : Cx c h) (hn : h.n + 80802 < 10000000) (r1 : Rp 100 true h ShUnit d1 c1) (r2 : Rp 100 true h ShUnit d2 c2) (k : ∀ h', Grew h h' → h'.n ≤ h.n + 80802 → K (.bool (decide (d1 = d2))) h') :
    Gv Tryz.prog X0 Mx c 9 [.agg c1, .agg c2] h K := by
  have hnt : (26 : Nat) ≤ 1000000 := by decide
  obtain ⟨a5, av5, a7, av7, a9, rfl, rfl, al5, as5, al7, as7⟩ := rpd_Unit r1
  obtain ⟨b5, bv5, b7, bv7, b9, rfl, rfl, bl5, bs5, bl7, bs7⟩ := rpd_Unit r2
  have kf : ¬ Dt.row [.row [.arr a5], .arr a7, .int a9] = Dt.row [.row [.arr b5], .arr b7, .int b9] → ∀ h', Grew h h' → h'.n ≤ h.n + 80802 → K (.bool false) h' := fun q h' g1 g2 => by have := k h' g1 g2; rwa [decide_eq_false q] at this
  have kt : Dt.row [.row [.arr a5], .arr a7, .int a9] = Dt.row [.row [.arr b5], .arr b7, .int b9] → ∀ h', Grew h h' → h'.n ≤ h.n + 80802 → K (.bool true) h' := fun q h' g1 g2 => by have := k h' g1 g2; rwa [decide_eq_true q] at this
  clear k r1 r2
  refine gv_fn x_irSame (Mx_no rfl _ _ _) (by simp) hnt ?_
  unfold s_irSame SR.g SR.o
  refine wc_seq (wc_reg (rg_go hnt rfl rfl (wo_boxA rfl rfl (by omega) fun h1 hn1 hb1 hg1 => ?_)))
  refine rg_go hnt rfl rfl (wo_boxA rfl rfl (by omega) fun h2 hn2 hb2 hg2 => ?_)
  have hb12 : h2.get h.n = some (.cells [av5, av7, .int .i64 a9]) := (hg2.get h.n (by omega)).trans hb1
  have hb22 : h2.get h1.n = some (.cells [bv5, bv7, .int .i64 b9]) := hb2
  have hs1 : seen c.vis h.n = true := hcx.new (Nat.le_refl _) (by omega)
  have hs2 : seen c.vis h1.n = true := hcx.new (by omega) (by omega)
  have hgA := hg1.trans hg2
  repeat' (first | refine z0 ?_ | refine z1 ?_ | refine z2 ?_ | refine z3 ?_ | refine zc ?_ | refine zd ?_ | refine zh ?_ | (refine zq ?_ ?_ <;> intro hc <;> try (exfalso; omega)) | refine wg_nil ?_ | refine then_go ?_ | refine wc_seq ?_ | refine wc_reg ?_ | refine wc_ret ?_)
  · have hl1 : a5.length ≤ 100 := al5.resolve_right (by simp [Sh.cnt, cntL])
    have hm1 := Nat.mul_le_mul_right (402 + 2) hl1
    refine wo_call rfl rfl (ef_ev (esz := 4) (m := 402) (zs := [.str [], .str [], .nils, .nils]) x_efClassDecl (Mx_no rfl) (hcx.mono (by omega)) rfl rfl (as5.grew hgA) (bs5.grew hgA) (fun id q => hall id (by omega)) (by omega) (fun h' d1 d2 c1 c2 K g1 g2 _ _ q1 q2 kk => sameClass_ev hall (hcx.mono (by have := g1.le; omega)) (by omega) q1 q2 kk) fun h3 hgq1 hnq1 => ?_)
    have hgl1 := hgq1.le
    have hbx1 := (hgq1.get h.n (by omega)).trans hb12
    have hby1 := (hgq1.get h1.n (by omega)).trans hb22
    have hgX1 := hgA.trans hgq1
    by_cases hc : a5 = b5
    rotate_left
    · rw [decide_eq_false hc]
      repeat' (first | refine z0 ?_ | refine z1 ?_ | refine z2 ?_ | refine z3 ?_ | refine zc ?_ | refine zd ?_ | refine zh ?_ | (refine zq ?_ ?_ <;> intro hc <;> try (exfalso; omega)) | refine wg_nil ?_ | refine then_go ?_ | refine wc_seq ?_ | refine wc_reg ?_ | refine wc_ret ?_)
      exact ⟨Or.inr rfl, _, rfl, kf (fun q => by first | (simp [hc] at q; done) | (simp at q; exact hc q.1)) _ hgX1 (by omega)⟩
    rw [decide_eq_true hc]
    repeat' (first | refine z0 ?_ | refine z1 ?_ | refine z2 ?_ | refine z3 ?_ | refine zc ?_ | refine zd ?_ | refine zh ?_ | (refine zq ?_ ?_ <;> intro hc <;> try (exfalso; omega)) | refine wg_nil ?_ | refine then_go ?_ | refine wc_seq ?_ | refine wc_reg ?_ | refine wc_ret ?_)
    · have hl2 : a7.length ≤ 100 := al7.resolve_right (by simp [Sh.cnt, cntL])
      have hm2 := Nat.mul_le_mul_right (402 + 2) hl2
      refine wo_call rfl rfl (ef_ev (esz := 7) (m := 402) (zs := [.str [], .str [], .bool false, .int .i64 0, .nils, .str [], .nils]) x_efFunc (Mx_no rfl) (hcx.mono (by omega)) rfl rfl (as7.grew hgX1) (bs7.grew hgX1) (fun id q => hall id (by omega)) (by omega) (fun h' d1 d2 c1 c2 K g1 g2 _ _ q1 q2 kk => sameFunc_ev hall (hcx.mono (by have := g1.le; omega)) (by omega) q1 q2 kk) fun h4 hgq2 hnq2 => ?_)
      have hgl2 := hgq2.le
      have hbx2 := (hgq2.get h.n (by omega)).trans hbx1
      have hby2 := (hgq2.get h1.n (by omega)).trans hby1
      have hgX2 := hgX1.trans hgq2
      by_cases hc : a7 = b7
      rotate_left
      · rw [decide_eq_false hc]
        repeat' (first | refine z0 ?_ | refine z1 ?_ | refine z2 ?_ | refine z3 ?_ | refine zc ?_ | refine zd ?_ | refine zh ?_ | (refine zq ?_ ?_ <;> intro hc <;> try (exfalso; omega)) | refine wg_nil ?_ | refine then_go ?_ | refine wc_seq ?_ | refine wc_reg ?_ | refine wc_ret ?_)
        exact ⟨Or.inr rfl, _, rfl, kf (fun q => by first | (simp [hc] at q; done) | (simp at q; exact hc q.1)) _ hgX2 (by omega)⟩
      rw [decide_eq_true hc]
      repeat' (first | refine z0 ?_ | refine z1 ?_ | refine z2 ?_ | refine z3 ?_ | refine zc ?_ | refine zd ?_ | refine zh ?_ | (refine zq ?_ ?_ <;> intro hc <;> try (exfalso; omega)) | refine wg_nil ?_ | refine then_go ?_ | refine wc_seq ?_ | refine wc_reg ?_ | refine wc_ret ?_)
      · exact ⟨Or.inr rfl, _, rfl, kt (by congr <;> assumption) _ hgX2 (by omega)⟩
      all_goals exact ⟨Or.inr rfl, _, rfl, kf (fun q => by first | (simp [hc] at q; done) | (simp at q; exact hc q.1)) _ hgX2 (by omega)⟩
    all_goals exact ⟨Or.inr rfl, _, rfl, kf (fun q => by first | (simp [hc] at q; done) | (simp at q; exact hc q.1)) _ hgX1 (by omega)⟩
  all_goals exact ⟨Or.inr rfl, _, rfl, kf (fun q => by first | (simp [hc] at q; done) | (simp at q; exact hc q.1)) _ hgA (by omega)⟩
end Go.Proofs.YtaioinkajndjkaaGreatDoor.Ev