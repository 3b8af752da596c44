/- Comparisons of states. -/
import Derived.Test.YtaioinkajndjkaaGreatDoorInB
import Derived.Test.YtaioinkajndjkaaGreatDoorInN
import Derived.Test.YtaioinkajndjkaaGreatDoorInK
set_option linter.unusedVariables false
set_option linter.unusedSimpArgs false
/- Comparisons of the program. -/
set_option maxHeartbeats 4000000
namespace Go.Proofs.YtaioinkajndjkaaGreatDoor.Ev
open Go
open Classical
variable {c : C} {h : H} {K : AV → H → Prop}
theorem PSame_ev (hall : ∀ id, id < 10000000 → seen c.vis id = true) {d1 d2 : Dt} {c1 c2 : List AV} (hcx : Cx c h) (hn : h.n + 82004 < 10000000) (r1 : Rp 100 true h ShState d1 c1) (r2 : Rp 100 true h ShState d2 c2) (k : ∀ h', Grew h h' → h'.n ≤ h.n + 82004 → K (.bool (decide (d1 = d2))) h') :
    Gv Tryz.prog X0 Mx c 6 [.agg c1, .agg c2] h K := by
  have hnt : (35 : Nat) ≤ 1000000 := by decide
  obtain ⟨a7, av7, a9, av9, a11, a15, av15, a17, av17, a19, av19, rfl, rfl, al7, as7, al9, as9, al15, as15, al17, as17, al19, as19⟩ := rpd_State r1
  obtain ⟨b7, bv7, b9, bv9, b11, b15, bv15, b17, bv17, b19, bv19, rfl, rfl, bl7, bs7, bl9, bs9, bl15, bs15, bl17, bs17, bl19, bs19⟩ := rpd_State r2
  have kf : ¬ Dt.row [.row [.row [.arr a7], .arr a9, .int a11], .row [.arr a15, .arr a17], .arr a19] = Dt.row [.row [.row [.arr b7], .arr b9, .int b11], .row [.arr b15, .arr b17], .arr b19] → ∀ h', Grew h h' → h'.n ≤ h.n + 82004 → K (.bool false) h' := fun q h' g1 g2 => by have := k h' g1 g2; rwa [decide_eq_false q] at this
  have kt : Dt.row [.row [.row [.arr a7], .arr a9, .int a11], .row [.arr a15, .arr a17], .arr a19] = Dt.row [.row [.row [.arr b7], .arr b9, .int b11], .row [.arr b15, .arr b17], .arr b19] → ∀ h', Grew h h' → h'.n ≤ h.n + 82004 → K (.bool true) h' := fun q h' g1 g2 => by have := k h' g1 g2; rwa [decide_eq_true q] at this
  clear k r1 r2
  refine gv_fn x_PSame (Mx_no rfl _ _ _) (by simp) hnt ?_
  unfold s_PSame SR.g SR.o
  refine wc_seq (wc_reg (rg_go hnt rfl rfl (wo_boxA rfl rfl (by omega) fun h1 hn1 hb1 hg1 => ?_)))
  refine rg_go hnt rfl rfl (wo_boxA rfl rfl (by omega) fun h2 hn2 hb2 hg2 => ?_)
  have hb12 : h2.get h.n = some (.cells [av7, av9, .int .i64 a11, av15, av17, av19]) := (hg2.get h.n (by omega)).trans hb1
  have hb22 : h2.get h1.n = some (.cells [bv7, bv9, .int .i64 b11, bv15, bv17, bv19]) := hb2
  have hs1 : seen c.vis h.n = true := hcx.new (Nat.le_refl _) (by omega)
  have hs2 : seen c.vis h1.n = true := hcx.new (by omega) (by omega)
  have hgA := hg1.trans hg2
  repeat' (first | refine z0 ?_ | refine z1 ?_ | refine z2 ?_ | refine z3 ?_ | refine zc ?_ | refine zd ?_ | refine zh ?_ | refine zi ?_ | refine wg_nil ?_ | refine then_go ?_ | refine wc_seq ?_ | refine wc_reg ?_ | refine wc_ret ?_)
  · refine wo_call rfl rfl (irSame_ev (d1 := Dt.row [.row [.arr a7], .arr a9, .int a11]) (d2 := Dt.row [.row [.arr b7], .arr b9, .int b11]) hall (hcx.mono (by omega)) (by omega) (Rp.grew hgA (rp_rowM (rpL_consM (rp_rowM (rpL_consM (rp_arrM al7 as7) rpL_nilM)) (rpL_consM (rp_arrM al9 as9) (rpL_consM rp_intM rpL_nilM))))) (Rp.grew hgA (rp_rowM (rpL_consM (rp_rowM (rpL_consM (rp_arrM bl7 bs7) rpL_nilM)) (rpL_consM (rp_arrM bl9 bs9) (rpL_consM rp_intM rpL_nilM))))) fun h3 hgq1 hnq1 => ?_)
    have hgl1 := hgq1.le
    have hbx1 := (hgq1.get h.n (by omega)).trans hb12
    have hby1 := (hgq1.get h1.n (by omega)).trans hb22
    have hgX1 := hgA.trans hgq1
    by_cases hc : Dt.row [.row [.arr a7], .arr a9, .int a11] = Dt.row [.row [.arr b7], .arr b9, .int b11]
    rotate_left
    · rw [decide_eq_false hc]
      repeat' (first | refine z0 ?_ | refine z1 ?_ | refine z2 ?_ | refine z3 ?_ | refine zc ?_ | refine zd ?_ | refine zh ?_ | refine zi ?_ | refine wg_nil ?_ | refine then_go ?_ | refine wc_seq ?_ | refine wc_reg ?_ | refine wc_ret ?_)
      exact ⟨Or.inr rfl, _, rfl, kf (fun q => by first | (simp [hc] at q; done) | (simp at q; exact hc q.1)) _ hgX1 (by omega)⟩
    rw [decide_eq_true hc]
    repeat' (first | refine z0 ?_ | refine z1 ?_ | refine z2 ?_ | refine z3 ?_ | refine zc ?_ | refine zd ?_ | refine zh ?_ | refine zi ?_ | refine wg_nil ?_ | refine then_go ?_ | refine wc_seq ?_ | refine wc_reg ?_ | refine wc_ret ?_)
    · have hl2 : a15.length ≤ 100 := al15.resolve_right (by simp [Sh.cnt, cntL])
      have hm2 := Nat.mul_le_mul_right (2 + 2) hl2
      refine wo_call rfl rfl (ef_ev (esz := 8) (m := 2) (zs := [.int .i64 0, .str [], .str [], .int .i64 0, .int .i64 0, .nils, .bool false, .str []]) x_efRule (Mx_no rfl) (hcx.mono (by omega)) rfl rfl (as15.grew hgX1) (bs15.grew hgX1) (fun id q => hall id (by omega)) (by omega) (fun h' d1 d2 c1 c2 K g1 g2 _ _ q1 q2 kk => sameRule_ev hall (hcx.mono (by have := g1.le; omega)) (by omega) q1 q2 kk) fun h4 hgq2 hnq2 => ?_)
      have hgl2 := hgq2.le
      have hbx2 := (hgq2.get h.n (by omega)).trans hbx1
      have hby2 := (hgq2.get h1.n (by omega)).trans hby1
      have hgX2 := hgX1.trans hgq2
      by_cases hc : a15 = b15
      rotate_left
      · rw [decide_eq_false hc]
        repeat' (first | refine z0 ?_ | refine z1 ?_ | refine z2 ?_ | refine z3 ?_ | refine zc ?_ | refine zd ?_ | refine zh ?_ | refine zi ?_ | refine wg_nil ?_ | refine then_go ?_ | refine wc_seq ?_ | refine wc_reg ?_ | refine wc_ret ?_)
        exact ⟨Or.inr rfl, _, rfl, kf (fun q => by first | (simp [hc] at q; done) | (simp at q; exact hc q.1)) _ hgX2 (by omega)⟩
      rw [decide_eq_true hc]
      repeat' (first | refine z0 ?_ | refine z1 ?_ | refine z2 ?_ | refine z3 ?_ | refine zc ?_ | refine zd ?_ | refine zh ?_ | refine zi ?_ | refine wg_nil ?_ | refine then_go ?_ | refine wc_seq ?_ | refine wc_reg ?_ | refine wc_ret ?_)
      · have hl3 : a17.length ≤ 100 := al17.resolve_right (by simp [Sh.cnt, cntL])
        have hm3 := Nat.mul_le_mul_right (2 + 2) hl3
        refine wo_call rfl rfl (ef_ev (esz := 5) (m := 2) (zs := [.str [], .nils, .int .i64 0, .int .i64 0, .nils]) x_efProtocol (Mx_no rfl) (hcx.mono (by omega)) rfl rfl (as17.grew hgX2) (bs17.grew hgX2) (fun id q => hall id (by omega)) (by omega) (fun h' d1 d2 c1 c2 K g1 g2 _ _ q1 q2 kk => sameProtocol_ev hall (hcx.mono (by have := g1.le; omega)) (by omega) q1 q2 kk) fun h5 hgq3 hnq3 => ?_)
        have hgl3 := hgq3.le
        have hbx3 := (hgq3.get h.n (by omega)).trans hbx2
        have hby3 := (hgq3.get h1.n (by omega)).trans hby2
        have hgX3 := hgX2.trans hgq3
        by_cases hc : a17 = b17
        rotate_left
        · rw [decide_eq_false hc]
          repeat' (first | refine z0 ?_ | refine z1 ?_ | refine z2 ?_ | refine z3 ?_ | refine zc ?_ | refine zd ?_ | refine zh ?_ | refine zi ?_ | refine wg_nil ?_ | refine then_go ?_ | refine wc_seq ?_ | refine wc_reg ?_ | refine wc_ret ?_)
          exact ⟨Or.inr rfl, _, rfl, kf (fun q => by first | (simp [hc] at q; done) | (simp at q; exact hc q.1)) _ hgX3 (by omega)⟩
        rw [decide_eq_true hc]
        repeat' (first | refine z0 ?_ | refine z1 ?_ | refine z2 ?_ | refine z3 ?_ | refine zc ?_ | refine zd ?_ | refine zh ?_ | refine zi ?_ | refine wg_nil ?_ | refine then_go ?_ | refine wc_seq ?_ | refine wc_reg ?_ | refine wc_ret ?_)
        · have hl4 : a19.length ≤ 100 := al19.resolve_right (by simp [Sh.cnt, cntL])
          have hm4 := Nat.mul_le_mul_right (2 + 2) hl4
          refine wo_call rfl rfl (ef_ev (esz := 5) (m := 2) (zs := [.str [], .str [], .str [], .nils, .nils]) x_efMemo (Mx_no rfl) (hcx.mono (by omega)) rfl rfl (as19.grew hgX3) (bs19.grew hgX3) (fun id q => hall id (by omega)) (by omega) (fun h' d1 d2 c1 c2 K g1 g2 _ _ q1 q2 kk => sameMemo_ev hall (hcx.mono (by have := g1.le; omega)) (by omega) q1 q2 kk) fun h6 hgq4 hnq4 => ?_)
          have hgl4 := hgq4.le
          have hbx4 := (hgq4.get h.n (by omega)).trans hbx3
          have hby4 := (hgq4.get h1.n (by omega)).trans hby3
          have hgX4 := hgX3.trans hgq4
          by_cases hc : a19 = b19
          rotate_left
          · rw [decide_eq_false hc]
            repeat' (first | refine z0 ?_ | refine z1 ?_ | refine z2 ?_ | refine z3 ?_ | refine zc ?_ | refine zd ?_ | refine zh ?_ | refine zi ?_ | refine wg_nil ?_ | refine then_go ?_ | refine wc_seq ?_ | refine wc_reg ?_ | refine wc_ret ?_)
            exact ⟨Or.inr rfl, _, rfl, kf (fun q => by first | (simp [hc] at q; done) | (simp at q; exact hc q.1)) _ hgX4 (by omega)⟩
          rw [decide_eq_true hc]
          repeat' (first | refine z0 ?_ | refine z1 ?_ | refine z2 ?_ | refine z3 ?_ | refine zc ?_ | refine zd ?_ | refine zh ?_ | refine zi ?_ | refine wg_nil ?_ | refine then_go ?_ | refine wc_seq ?_ | refine wc_reg ?_ | refine wc_ret ?_)
          · exact ⟨Or.inr rfl, _, rfl, kt (by congr <;> assumption) _ hgX4 (by omega)⟩
          all_goals exact ⟨Or.inr rfl, _, rfl, kf (fun q => by first | (simp [hc] at q; done) | (simp at q; exact hc q.1)) _ hgX4 (by omega)⟩
        all_goals exact ⟨Or.inr rfl, _, rfl, kf (fun q => by first | (simp [hc] at q; done) | (simp at q; exact hc q.1)) _ hgX3 (by omega)⟩
      all_goals exact ⟨Or.inr rfl, _, rfl, kf (fun q => by first | (simp [hc] at q; done) | (simp at q; exact hc q.1)) _ hgX2 (by omega)⟩
    all_goals exact ⟨Or.inr rfl, _, rfl, kf (fun q => by first | (simp [hc] at q; done) | (simp at q; exact hc q.1)) _ hgX1 (by omega)⟩
  all_goals exact ⟨Or.inr rfl, _, rfl, kf (fun q => by first | (simp [hc] at q; done) | (simp at q; exact hc q.1)) _ hgA (by omega)⟩
end Go.Proofs.YtaioinkajndjkaaGreatDoor.Ev
/- Comparisons of the reference. -/
set_option maxHeartbeats 4000000
namespace Go.Proofs.YtaioinkajndjkaaGreatDoor.Ev
open Go
open Classical
variable {c : C} {h : H} {K : AV → H → Prop}
theorem RSame_ev (hall : ∀ id, id < 10000000 → seen c.vis id = true) {d1 d2 : Dt} {c1 c2 : List AV} (hcx : Cx c h) (hn : h.n + 41210 < 10000000) (r1 : Rp 100 true h ShState d1 c1) (r2 : Rp 100 true h ShState d2 c2) (k : ∀ h', Grew h h' → h'.n ≤ h.n + 41210 → K (.bool (decide (d1 = d2))) h') :
    Gv Tryz.prog X0 Mx c 7 [.agg c1, .agg c2] h K := by
  have hnt : (76 : Nat) ≤ 1000000 := by decide
  obtain ⟨a7, av7, a9, av9, a11, a15, av15, a17, av17, a19, av19, rfl, rfl, al7, as7, al9, as9, al15, as15, al17, as17, al19, as19⟩ := rpd_State r1
  obtain ⟨b7, bv7, b9, bv9, b11, b15, bv15, b17, bv17, b19, bv19, rfl, rfl, bl7, bs7, bl9, bs9, bl15, bs15, bl17, bs17, bl19, bs19⟩ := rpd_State r2
  have kf : ¬ Dt.row [.row [.row [.arr a7], .arr a9, .int a11], .row [.arr a15, .arr a17], .arr a19] = Dt.row [.row [.row [.arr b7], .arr b9, .int b11], .row [.arr b15, .arr b17], .arr b19] → ∀ h', Grew h h' → h'.n ≤ h.n + 41210 → K (.bool false) h' := fun q h' g1 g2 => by have := k h' g1 g2; rwa [decide_eq_false q] at this
  have kt : Dt.row [.row [.row [.arr a7], .arr a9, .int a11], .row [.arr a15, .arr a17], .arr a19] = Dt.row [.row [.row [.arr b7], .arr b9, .int b11], .row [.arr b15, .arr b17], .arr b19] → ∀ h', Grew h h' → h'.n ≤ h.n + 41210 → K (.bool true) h' := fun q h' g1 g2 => by have := k h' g1 g2; rwa [decide_eq_true q] at this
  clear k r1 r2
  have hla0 := as19.le
  have hlb0 := bs19.le
  obtain ⟨ia0, ra0, oa0, Aa0, ea0, pa0⟩ := as19.out
  obtain ⟨ib0, rb0, ob0, Ab0, eb0, pb0⟩ := bs19.out
  have hza0 : (ShMemo : Sh).sz = 5 := rfl
  rw [hza0] at Aa0 Ab0
  refine gv_fn x_RSame (Mx_no rfl _ _ _) (by simp) hnt ?_
  unfold s_RSame SR.g SR.o
  refine wc_seq (wc_reg (rg_go hnt rfl rfl (wo_boxA rfl rfl (by omega) fun h1 hn1 hb1 hg1 => ?_)))
  refine rg_go hnt rfl rfl (wo_boxA rfl rfl (by omega) fun h2 hn2 hb2 hg2 => ?_)
  have hb12 : h2.get h.n = some (.cells [av7, av9, .int .i64 a11, av15, av17, av19]) := (hg2.get h.n (by omega)).trans hb1
  have hb22 : h2.get h1.n = some (.cells [bv7, bv9, .int .i64 b11, bv15, bv17, bv19]) := hb2
  have hs1 : seen c.vis h.n = true := hcx.new (Nat.le_refl _) (by omega)
  have hs2 : seen c.vis h1.n = true := hcx.new (by omega) (by omega)
  have hgA := hg1.trans hg2
  have Ba0 := Aa0.grew hgA
  have Bb0 := Ab0.grew hgA
  repeat' (first | refine z0 ?_ | refine z1 ?_ | refine z2 ?_ | refine z3 ?_ | refine z6 ?_ | refine z8 ?_ | refine za ?_ | refine zc ?_ | refine zd ?_ | refine ze ?_ | refine zh ?_ | refine zi ?_ | refine zl ?_ | (refine zm ?_ ?_ <;> intro hc <;> try (exfalso; omega)) | (refine zq ?_ ?_ <;> intro hc <;> try (exfalso; omega)) | (refine zS (fun hc hc2 => ?_) (fun hc => ?_)) | (refine zs ?_ ?_ <;> intro hc) | refine wg_nil ?_ | refine then_go ?_ | refine wc_seq ?_ | refine wc_reg ?_ | refine wc_block ?_ | refine zu ?_ | refine zv ?_ | refine wc_skip ?_ | refine wc_exit ?_ | refine wc_ret ?_ | refine then_ret ?_ | refine then_exit ?_ | refine out_go ?_ | refine out_ret ?_ | refine zA ?_)
  · refine wo_call rfl rfl (R13Same_ev (d1 := Dt.row [.row [.arr a7], .arr a9, .int a11]) (d2 := Dt.row [.row [.arr b7], .arr b9, .int b11]) hall (hcx.mono (by omega)) (by omega) (Rp.grew hgA (rp_rowM (rpL_consM (rp_rowM (rpL_consM (rp_arrM al7 as7) rpL_nilM)) (rpL_consM (rp_arrM al9 as9) (rpL_consM rp_intM rpL_nilM))))) (Rp.grew hgA (rp_rowM (rpL_consM (rp_rowM (rpL_consM (rp_arrM bl7 bs7) rpL_nilM)) (rpL_consM (rp_arrM bl9 bs9) (rpL_consM rp_intM rpL_nilM))))) fun h5 hg5 hn5 => ?_)
    have hgl5 := hg5.le
    have hbx5 := (hg5.get h.n (by omega)).trans hb12
    have hby5 := (hg5.get h1.n (by omega)).trans hb22
    have hgX5 := hgA.trans hg5
    by_cases hX5 : Dt.row [.row [.arr a7], .arr a9, .int a11] = Dt.row [.row [.arr b7], .arr b9, .int b11]
    rotate_left
    · rw [decide_eq_false hX5]
      repeat' (first | refine z0 ?_ | refine z1 ?_ | refine z2 ?_ | refine z3 ?_ | refine z6 ?_ | refine z8 ?_ | refine za ?_ | refine zc ?_ | refine zd ?_ | refine ze ?_ | refine zh ?_ | refine zi ?_ | refine zl ?_ | (refine zm ?_ ?_ <;> intro hc <;> try (exfalso; omega)) | (refine zq ?_ ?_ <;> intro hc <;> try (exfalso; omega)) | (refine zS (fun hc hc2 => ?_) (fun hc => ?_)) | (refine zs ?_ ?_ <;> intro hc) | refine wg_nil ?_ | refine then_go ?_ | refine wc_seq ?_ | refine wc_reg ?_ | refine wc_block ?_ | refine zu ?_ | refine zv ?_ | refine wc_skip ?_ | refine wc_exit ?_ | refine wc_ret ?_ | refine then_ret ?_ | refine then_exit ?_ | refine out_go ?_ | refine out_ret ?_ | refine zA ?_)
      exact ⟨Or.inr rfl, _, rfl, kf (fun q => by simp only [Dt.row.injEq, List.cons.injEq, Dt.str.injEq, Dt.int.injEq, Dt.bool.injEq, Dt.arr.injEq, and_true, true_and, and_assoc] at q; obtain ⟨rfl, rfl, rfl, rfl, rfl, rfl⟩ := q; exact hX5 rfl) _ (hgX5) (by omega)⟩
    rw [decide_eq_true hX5]
    simp only [Dt.row.injEq, List.cons.injEq, Dt.str.injEq, Dt.int.injEq, Dt.bool.injEq, Dt.arr.injEq, and_true, true_and, and_assoc] at hX5
    obtain ⟨x1, x2, x3⟩ := hX5
    repeat' (first | refine z0 ?_ | refine z1 ?_ | refine z2 ?_ | refine z3 ?_ | refine z6 ?_ | refine z8 ?_ | refine za ?_ | refine zc ?_ | refine zd ?_ | refine ze ?_ | refine zh ?_ | refine zi ?_ | refine zl ?_ | (refine zm ?_ ?_ <;> intro hc <;> try (exfalso; omega)) | (refine zq ?_ ?_ <;> intro hc <;> try (exfalso; omega)) | (refine zS (fun hc hc2 => ?_) (fun hc => ?_)) | (refine zs ?_ ?_ <;> intro hc) | refine wg_nil ?_ | refine then_go ?_ | refine wc_seq ?_ | refine wc_reg ?_ | refine wc_block ?_ | refine zu ?_ | refine zv ?_ | refine wc_skip ?_ | refine wc_exit ?_ | refine wc_ret ?_ | refine then_ret ?_ | refine then_exit ?_ | refine out_go ?_ | refine out_ret ?_ | refine zA ?_)
    refine wo_call rfl rfl (policies_ev (d1 := Dt.row [.arr a15, .arr a17]) (d2 := Dt.row [.arr b15, .arr b17]) hall (hcx.mono (by omega)) (by omega) (Rp.grew hgX5 (rp_rowM (rpL_consM (rp_arrM al15 as15) (rpL_consM (rp_arrM al17 as17) rpL_nilM)))) (Rp.grew hgX5 (rp_rowM (rpL_consM (rp_arrM bl15 bs15) (rpL_consM (rp_arrM bl17 bs17) rpL_nilM)))) fun h6 hg6 hn6 => ?_)
    have hgl6 := hg6.le
    have hbx6 := (hg6.get h.n (by omega)).trans hbx5
    have hby6 := (hg6.get h1.n (by omega)).trans hby5
    have hgX6 := hgX5.trans hg6
    by_cases hX6 : Dt.row [.arr a15, .arr a17] = Dt.row [.arr b15, .arr b17]
    rotate_left
    · rw [decide_eq_false hX6]
      repeat' (first | refine z0 ?_ | refine z1 ?_ | refine z2 ?_ | refine z3 ?_ | refine z6 ?_ | refine z8 ?_ | refine za ?_ | refine zc ?_ | refine zd ?_ | refine ze ?_ | refine zh ?_ | refine zi ?_ | refine zl ?_ | (refine zm ?_ ?_ <;> intro hc <;> try (exfalso; omega)) | (refine zq ?_ ?_ <;> intro hc <;> try (exfalso; omega)) | (refine zS (fun hc hc2 => ?_) (fun hc => ?_)) | (refine zs ?_ ?_ <;> intro hc) | refine wg_nil ?_ | refine then_go ?_ | refine wc_seq ?_ | refine wc_reg ?_ | refine wc_block ?_ | refine zu ?_ | refine zv ?_ | refine wc_skip ?_ | refine wc_exit ?_ | refine wc_ret ?_ | refine then_ret ?_ | refine then_exit ?_ | refine out_go ?_ | refine out_ret ?_ | refine zA ?_)
      exact ⟨Or.inr rfl, _, rfl, kf (fun q => by simp only [Dt.row.injEq, List.cons.injEq, Dt.str.injEq, Dt.int.injEq, Dt.bool.injEq, Dt.arr.injEq, and_true, true_and, and_assoc] at q; obtain ⟨rfl, rfl, rfl, rfl, rfl, rfl⟩ := q; exact hX6 rfl) _ (hgX6) (by omega)⟩
    rw [decide_eq_true hX6]
    simp only [Dt.row.injEq, List.cons.injEq, Dt.str.injEq, Dt.int.injEq, Dt.bool.injEq, Dt.arr.injEq, and_true, true_and, and_assoc] at hX6
    obtain ⟨y1, y2⟩ := hX6
    repeat' (first | refine z0 ?_ | refine z1 ?_ | refine z2 ?_ | refine z3 ?_ | refine z6 ?_ | refine z8 ?_ | refine za ?_ | refine zc ?_ | refine zd ?_ | refine ze ?_ | refine zh ?_ | refine zi ?_ | refine zl ?_ | (refine zm ?_ ?_ <;> intro hc <;> try (exfalso; omega)) | (refine zq ?_ ?_ <;> intro hc <;> try (exfalso; omega)) | (refine zS (fun hc hc2 => ?_) (fun hc => ?_)) | (refine zs ?_ ?_ <;> intro hc) | refine wg_nil ?_ | refine then_go ?_ | refine wc_seq ?_ | refine wc_reg ?_ | refine wc_block ?_ | refine zu ?_ | refine zv ?_ | refine wc_skip ?_ | refine wc_exit ?_ | refine wc_ret ?_ | refine then_ret ?_ | refine then_exit ?_ | refine out_go ?_ | refine out_ret ?_ | refine zA ?_)
    · have hl100_0 : a19.length ≤ 100 := al19.resolve_right (by simp [Sh.cnt, cntL])
      refine wc_loopE (ι := Nat) (fun j => [(2, .ptr h.n 0), (3, .ptr h1.n 0), (5, .int .i64 (j : Int))]) (fun j h' => Grew h2 h' ∧ h'.n ≤ h2.n + 41008 + 2 * j ∧ j ≤ a19.length ∧ (a19 = b19 ↔ a19.drop j = b19.drop j)) (fun j => a19.length - j) ?_ 0 ⟨hg5.trans hg6, by omega, Nat.zero_le _, by simp⟩ (Sub'.cons rfl (Sub'.cons rfl (Sub'.cons rfl (Sub'.nil _))))
      rintro j h0' ⟨hgr0, hle0, hj, hd⟩
      have hgl0 := hgr0.le
      have hll : a19.length = b19.length := by omega
      have hc12 := (hgr0.get h.n (by omega)).trans hb12
      have hc22 := (hgr0.get h1.n (by omega)).trans hb22
      have hgB0 := hgA.trans hgr0
      have Ca := Aa0.grew hgB0
      have Cb := Ab0.grew hgB0
      have hlow := hcx.low
      by_cases hlt : j < a19.length
      · have g1 : ra0[j]? = some (ra0[j]'(by omega)) := List.getElem?_eq_getElem (by omega)
        have g2 : rb0[j]? = some (rb0[j]'(by omega)) := List.getElem?_eq_getElem (by omega)
        have hid1 : ia0 < h.n := by
          rcases Aa0.at_ with ⟨q, _⟩ | ⟨_, _, q, _⟩
          · rw [q] at ea0; simp at ea0; omega
          · exact q
        have hid2 : ib0 < h.n := by
          rcases Ab0.at_ with ⟨q, _⟩ | ⟨_, _, q, _⟩
          · rw [q] at eb0; simp at eb0; omega
          · exact q
        have hs1' := hall ia0 (by omega)
        have hs2' := hall ib0 (by omega)
        have m1 : a19[j]? = some (a19.getD j (.int 0)) := by simp [hlt]
        have m2 : b19[j]? = some (b19.getD j (.int 0)) := by simp [show j < b19.length by omega]
        have t1 := pa0 j _ _ m1 g1
        have t2 := pb0 j _ _ m2 g2
        rw [drop_eq hlt (by omega)] at hd
        generalize ra0[j]'(by omega) = w1 at g1 t1
        generalize rb0[j]'(by omega) = w2 at g2 t2
        generalize a19.getD j (.int 0) = e1 at hd m1 t1
        generalize b19.getD j (.int 0) = e2 at hd m2 t2
        have o1 := t1.ones
        have o2 := t2.ones
        obtain ⟨u5, u7, u9, u11, uv11, u13, uv13, rfl, rfl, ul11, us11, ul13, us13⟩ := rpd_Memo t1
        obtain ⟨v5, v7, v9, v11, vv11, v13, vv13, rfl, rfl, vl11, vs11, vl13, vs13⟩ := rpd_Memo t2
        repeat' (first | refine z0 ?_ | refine z1 ?_ | refine z2 ?_ | refine z3 ?_ | refine z6 ?_ | refine z8 ?_ | refine za ?_ | refine zc ?_ | refine zd ?_ | refine ze ?_ | refine zh ?_ | refine zi ?_ | refine zl ?_ | (refine zm ?_ ?_ <;> intro hc <;> try (exfalso; omega)) | (refine zq ?_ ?_ <;> intro hc <;> try (exfalso; omega)) | (refine zS (fun hc hc2 => ?_) (fun hc => ?_)) | (refine zs ?_ ?_ <;> intro hc) | refine wg_nil ?_ | refine then_go ?_ | refine wc_seq ?_ | refine wc_reg ?_ | refine wc_block ?_ | refine zu ?_ | refine zv ?_ | refine wc_skip ?_ | refine wc_exit ?_ | refine wc_ret ?_ | refine then_ret ?_ | refine then_exit ?_ | refine out_go ?_ | refine out_ret ?_ | refine zA ?_)
        refine rg_bs hnt (hcx.mono (by omega)) (by omega) rfl rfl rfl rfl (by rfl) (by exact o1) fun h3 hn3 hb3 hg3 => ?_
        have Cb3 := Cb.grew hg3
        have hc32 := (hg3.get h1.n (by omega)).trans hc22
        have hs3 : seen c.vis h0'.n = true := hcx.new (by omega) (by omega)
        repeat' (first | refine z0 ?_ | refine z1 ?_ | refine z2 ?_ | refine z3 ?_ | refine z6 ?_ | refine z8 ?_ | refine za ?_ | refine zc ?_ | refine zd ?_ | refine ze ?_ | refine zh ?_ | refine zi ?_ | refine zl ?_ | (refine zm ?_ ?_ <;> intro hc <;> try (exfalso; omega)) | (refine zq ?_ ?_ <;> intro hc <;> try (exfalso; omega)) | (refine zS (fun hc hc2 => ?_) (fun hc => ?_)) | (refine zs ?_ ?_ <;> intro hc) | refine wg_nil ?_ | refine then_go ?_ | refine wc_seq ?_ | refine wc_reg ?_ | refine wc_block ?_ | refine zu ?_ | refine zv ?_ | refine wc_skip ?_ | refine wc_exit ?_ | refine wc_ret ?_ | refine then_ret ?_ | refine then_exit ?_ | refine out_go ?_ | refine out_ret ?_ | refine zA ?_)
        refine rg_bs hnt (hcx.mono (by omega)) (by omega) rfl rfl rfl rfl (by rfl) (by exact o2) fun h4 hn4 hb4 hg4 => ?_
        have hb34 := (hg4.get h0'.n (by omega)).trans hb3
        have hs4 : seen c.vis h3.n = true := hcx.new (by omega) (by omega)
        have hgC := hgB0.trans (hg3.trans hg4)
        repeat' (first | refine z0 ?_ | refine z1 ?_ | refine z2 ?_ | refine z3 ?_ | refine z6 ?_ | refine z8 ?_ | refine za ?_ | refine zc ?_ | refine zd ?_ | refine ze ?_ | refine zh ?_ | refine zi ?_ | refine zl ?_ | (refine zm ?_ ?_ <;> intro hc <;> try (exfalso; omega)) | (refine zq ?_ ?_ <;> intro hc <;> try (exfalso; omega)) | (refine zS (fun hc hc2 => ?_) (fun hc => ?_)) | (refine zs ?_ ?_ <;> intro hc) | refine wg_nil ?_ | refine then_go ?_ | refine wc_seq ?_ | refine wc_reg ?_ | refine wc_block ?_ | refine zu ?_ | refine zv ?_ | refine wc_skip ?_ | refine wc_exit ?_ | refine wc_ret ?_ | refine then_ret ?_ | refine then_exit ?_ | refine out_go ?_ | refine out_ret ?_ | refine zA ?_)
        · refine wo_call rfl rfl (pairs_ev (hcx.mono (by omega)) (us11.grew hgC) (vs11.grew hgC) (fun id q => hall id (by omega)) (by omega) ?_)
          by_cases hX : u11 = v11
          rotate_left
          · rw [decide_eq_false hX]
            repeat' (first | refine z0 ?_ | refine z1 ?_ | refine z2 ?_ | refine z3 ?_ | refine z6 ?_ | refine z8 ?_ | refine za ?_ | refine zc ?_ | refine zd ?_ | refine ze ?_ | refine zh ?_ | refine zi ?_ | refine zl ?_ | (refine zm ?_ ?_ <;> intro hc <;> try (exfalso; omega)) | (refine zq ?_ ?_ <;> intro hc <;> try (exfalso; omega)) | (refine zS (fun hc hc2 => ?_) (fun hc => ?_)) | (refine zs ?_ ?_ <;> intro hc) | refine wg_nil ?_ | refine then_go ?_ | refine wc_seq ?_ | refine wc_reg ?_ | refine wc_block ?_ | refine zu ?_ | refine zv ?_ | refine wc_skip ?_ | refine wc_exit ?_ | refine wc_ret ?_ | refine then_ret ?_ | refine then_exit ?_ | refine out_go ?_ | refine out_ret ?_ | refine zA ?_)
            exact ⟨Or.inr rfl, _, rfl, kf (fun q => by simp only [Dt.row.injEq, List.cons.injEq, Dt.str.injEq, Dt.int.injEq, Dt.bool.injEq, Dt.arr.injEq, and_true, true_and, and_assoc] at q; obtain ⟨rfl, rfl, rfl, rfl, rfl, rfl⟩ := q; have q := (hd.1 rfl).1; simp only [Dt.row.injEq, List.cons.injEq, Dt.str.injEq, Dt.int.injEq, Dt.bool.injEq, Dt.arr.injEq, and_true, true_and, and_assoc] at q; obtain ⟨rfl, rfl, rfl, rfl, rfl⟩ := q; first | exact hX rfl | contradiction | exact (‹¬ (_ = _ ∧ _ = _)›) ⟨rfl, rfl⟩ | omega) _ (hgC) (by omega)⟩
          rw [decide_eq_true hX]
          have hX11 := hX
          clear hX
          repeat' (first | refine z0 ?_ | refine z1 ?_ | refine z2 ?_ | refine z3 ?_ | refine z6 ?_ | refine z8 ?_ | refine za ?_ | refine zc ?_ | refine zd ?_ | refine ze ?_ | refine zh ?_ | refine zi ?_ | refine zl ?_ | (refine zm ?_ ?_ <;> intro hc <;> try (exfalso; omega)) | (refine zq ?_ ?_ <;> intro hc <;> try (exfalso; omega)) | (refine zS (fun hc hc2 => ?_) (fun hc => ?_)) | (refine zs ?_ ?_ <;> intro hc) | refine wg_nil ?_ | refine then_go ?_ | refine wc_seq ?_ | refine wc_reg ?_ | refine wc_block ?_ | refine zu ?_ | refine zv ?_ | refine wc_skip ?_ | refine wc_exit ?_ | refine wc_ret ?_ | refine then_ret ?_ | refine then_exit ?_ | refine out_go ?_ | refine out_ret ?_ | refine zA ?_)
          refine wo_call rfl rfl (pairs_ev (hcx.mono (by omega)) (us13.grew hgC) (vs13.grew hgC) (fun id q => hall id (by omega)) (by omega) ?_)
          by_cases hX : u13 = v13
          rotate_left
          · rw [decide_eq_false hX]
            repeat' (first | refine z0 ?_ | refine z1 ?_ | refine z2 ?_ | refine z3 ?_ | refine z6 ?_ | refine z8 ?_ | refine za ?_ | refine zc ?_ | refine zd ?_ | refine ze ?_ | refine zh ?_ | refine zi ?_ | refine zl ?_ | (refine zm ?_ ?_ <;> intro hc <;> try (exfalso; omega)) | (refine zq ?_ ?_ <;> intro hc <;> try (exfalso; omega)) | (refine zS (fun hc hc2 => ?_) (fun hc => ?_)) | (refine zs ?_ ?_ <;> intro hc) | refine wg_nil ?_ | refine then_go ?_ | refine wc_seq ?_ | refine wc_reg ?_ | refine wc_block ?_ | refine zu ?_ | refine zv ?_ | refine wc_skip ?_ | refine wc_exit ?_ | refine wc_ret ?_ | refine then_ret ?_ | refine then_exit ?_ | refine out_go ?_ | refine out_ret ?_ | refine zA ?_)
            exact ⟨Or.inr rfl, _, rfl, kf (fun q => by simp only [Dt.row.injEq, List.cons.injEq, Dt.str.injEq, Dt.int.injEq, Dt.bool.injEq, Dt.arr.injEq, and_true, true_and, and_assoc] at q; obtain ⟨rfl, rfl, rfl, rfl, rfl, rfl⟩ := q; have q := (hd.1 rfl).1; simp only [Dt.row.injEq, List.cons.injEq, Dt.str.injEq, Dt.int.injEq, Dt.bool.injEq, Dt.arr.injEq, and_true, true_and, and_assoc] at q; obtain ⟨rfl, rfl, rfl, rfl, rfl⟩ := q; first | exact hX rfl | contradiction | exact (‹¬ (_ = _ ∧ _ = _)›) ⟨rfl, rfl⟩ | omega) _ (hgC) (by omega)⟩
          rw [decide_eq_true hX]
          have hX13 := hX
          clear hX
          repeat' (first | refine z0 ?_ | refine z1 ?_ | refine z2 ?_ | refine z3 ?_ | refine z6 ?_ | refine z8 ?_ | refine za ?_ | refine zc ?_ | refine zd ?_ | refine ze ?_ | refine zh ?_ | refine zi ?_ | refine zl ?_ | (refine zm ?_ ?_ <;> intro hc <;> try (exfalso; omega)) | (refine zq ?_ ?_ <;> intro hc <;> try (exfalso; omega)) | (refine zS (fun hc hc2 => ?_) (fun hc => ?_)) | (refine zs ?_ ?_ <;> intro hc) | refine wg_nil ?_ | refine then_go ?_ | refine wc_seq ?_ | refine wc_reg ?_ | refine wc_block ?_ | refine zu ?_ | refine zv ?_ | refine wc_skip ?_ | refine wc_exit ?_ | refine wc_ret ?_ | refine then_ret ?_ | refine then_exit ?_ | refine out_go ?_ | refine out_ret ?_ | refine zA ?_)
          exact ⟨j + 1, by simp; omega, (Sub'.cons rfl (Sub'.cons rfl (Sub'.cons rfl (Sub'.nil _)))), hgr0.trans (hg3.trans hg4), by omega, hlt, by rw [hd]; exact ⟨fun q => q.2, fun q => ⟨by congr <;> assumption, q⟩⟩⟩
        all_goals exact ⟨Or.inr rfl, _, rfl, kf (fun q => by simp only [Dt.row.injEq, List.cons.injEq, Dt.str.injEq, Dt.int.injEq, Dt.bool.injEq, Dt.arr.injEq, and_true, true_and, and_assoc] at q; obtain ⟨rfl, rfl, rfl, rfl, rfl, rfl⟩ := q; have q := (hd.1 rfl).1; simp only [Dt.row.injEq, List.cons.injEq, Dt.str.injEq, Dt.int.injEq, Dt.bool.injEq, Dt.arr.injEq, and_true, true_and, and_assoc] at q; obtain ⟨rfl, rfl, rfl, rfl, rfl⟩ := q; first | exact hX rfl | contradiction | exact (‹¬ (_ = _ ∧ _ = _)›) ⟨rfl, rfl⟩ | omega) _ (hgC) (by omega)⟩
      · have hq0 := hd.2 (by rw [List.drop_eq_nil_of_le (by omega), List.drop_eq_nil_of_le (by omega)])
        repeat' (first | refine z0 ?_ | refine z1 ?_ | refine z2 ?_ | refine z3 ?_ | refine z6 ?_ | refine z8 ?_ | refine za ?_ | refine zc ?_ | refine zd ?_ | refine ze ?_ | refine zh ?_ | refine zi ?_ | refine zl ?_ | (refine zm ?_ ?_ <;> intro hc <;> try (exfalso; omega)) | (refine zq ?_ ?_ <;> intro hc <;> try (exfalso; omega)) | (refine zS (fun hc hc2 => ?_) (fun hc => ?_)) | (refine zs ?_ ?_ <;> intro hc) | refine wg_nil ?_ | refine then_go ?_ | refine wc_seq ?_ | refine wc_reg ?_ | refine wc_block ?_ | refine zu ?_ | refine zv ?_ | refine wc_skip ?_ | refine wc_exit ?_ | refine wc_ret ?_ | refine then_ret ?_ | refine then_exit ?_ | refine out_go ?_ | refine out_ret ?_ | refine zA ?_)
        exact ⟨Or.inr rfl, _, rfl, kt (by congr <;> assumption) _ hgB0 (by omega)⟩
    all_goals exact ⟨Or.inr rfl, _, rfl, kf (fun q => by simp only [Dt.row.injEq, List.cons.injEq, Dt.str.injEq, Dt.int.injEq, Dt.bool.injEq, Dt.arr.injEq, and_true, true_and, and_assoc] at q; obtain ⟨rfl, rfl, rfl, rfl, rfl, rfl⟩ := q; first | exact hc rfl | contradiction | omega) _ hgX6 (by omega)⟩
  all_goals exact ⟨Or.inr rfl, _, rfl, kf (fun q => by simp only [Dt.row.injEq, List.cons.injEq, Dt.str.injEq, Dt.int.injEq, Dt.bool.injEq, Dt.arr.injEq, and_true, true_and, and_assoc] at q; obtain ⟨rfl, rfl, rfl, rfl, rfl, rfl⟩ := q; first | exact hc rfl | contradiction | omega) _ hgA (by omega)⟩
end Go.Proofs.YtaioinkajndjkaaGreatDoor.Ev