/- The law. -/
import Derived.Test.YtaioinkajndjkaaGreatDoorInL
import Derived.Test.YtaioinkajndjkaaGreatDoorInU
set_option linter.unusedVariables false
set_option linter.unusedSimpArgs false
set_option maxHeartbeats 4000000
namespace Go.Proofs.YtaioinkajndjkaaGreatDoor.Ev
open Go
open Classical
variable {c : C} {h : H}
theorem seen_addR {p i n n' id : Nat} {base : List (Nat × Nat)} {rs : List (Nat × Nat × Nat)} (hp : Nat.testBit p i = true) (hn : n ≤ n') (h2 : id < n → seen (visOf p base rs) id = true) (h1 : id < n') : seen (visOf p base (addR i n n' rs)) id = true := by
  unfold addR
  cases hb : Nat.beq n n' with
  | true =>
    have e := Nat.eq_of_beq_eq_true hb
    simp only [cond]
    exact h2 (by omega)
  | false =>
    simp only [cond, visOf, hp]
    by_cases z : id < n
    · exact seen_cons z (h2 z)
    · exact seen_here (by omega) h1
theorem getB_all {c : C} {h : H} {id : Nat} {b : AB} (hs : ∀ id, id < 10000000 → seen c.vis id = true) (hid : id < 10000000) (hg : h.get id = some b) : getB c h id = some b := by
  unfold getB
  rw [hs id hid]
  exact hg
theorem seen_addS {p i n id : Nat} {base : List (Nat × Nat)} {rs : List (Nat × Nat × Nat)} (h2 : seen (visOf p base rs) id = true) : seen (visOf p base (addR i n n rs)) id = true := by
  have : Nat.beq n n = true := by simp
  unfold addR
  rw [this]
  exact h2
theorem law_ev (hall : ∀ id, id < 10000000 → seen c.vis id = true) {d1 d2 : Dt} {c1 c2 : List AV} (hcx : Cx c h) (hn : h.n + 300000 < 10000000) (r1 : Rp 100 false h ShState d1 c1) (r2 : Rp 100 false h ShState d2 c2) (hG : ∀ p ∈ hStart, h.get p.1 = some p.2 ∧ p.1 < h.n) (hGe : ∀ p ∈ hStart, eqOB (some p.2) (some p.2) = true) :
    ∃ v h', Gives Tryz.prog X0 Mx c (.fnB 3) [.agg c1, .agg c2] h v h' ∧ v = .bool true := by
  have hnt : (54 : Nat) ≤ 1000000 := by decide
  obtain ⟨a7, av7, a9, av9, a11, a15, av15, a17, av17, a19, av19, rfl, rfl, ar7, ar9, ar15, ar17, ar19⟩ := rpf_State r1
  obtain ⟨b7, bv7, b9, bv9, b11, b15, bv15, b17, bv17, b19, bv19, rfl, rfl, br7, br9, br15, br17, br19⟩ := rpf_State r2
  refine gvB_fn x_law (by simp) hnt ?_
  unfold s_law SR.g SR.o SR.p
  refine wc_seq (wc_reg (rg_go hnt rfl rfl (wo_boxA rfl rfl (by omega) fun h1 hn1 hb1 hg1 => ?_)))
  refine rg_go hnt rfl rfl (wo_boxA rfl rfl (by omega) fun h2 hn2 hb2 hg2 => ?_)
  have hb12 : h2.get h.n = some (.cells [av7, av9, .int .i64 a11, av15, av17, av19]) := (hg2.get h.n (by omega)).trans hb1
  have hb22 : h2.get h1.n = some (.cells [bv7, bv9, .int .i64 b11, bv15, bv17, bv19]) := hb2
  have hs1 : seen c.vis h.n = true := hcx.new (Nat.le_refl _) (by omega)
  have hs2 : seen c.vis h1.n = true := hcx.new (by omega) (by omega)
  have hgA := hg1.trans hg2
  have hlow := hcx.low
  have rUa : Rp 100 false h ShUnit (.row [.row [a7], a9, .int a11]) [av7, av9, .int .i64 a11] := rp_rowM (rpL_consM (rp_rowM (rpL_consM ar7 rpL_nilM)) (rpL_consM ar9 (rpL_consM rp_intM rpL_nilM)))
  have rPa : Rp 100 false h ShPolicy (.row [a15, a17]) [av15, av17] := rp_rowM (rpL_consM ar15 (rpL_consM ar17 rpL_nilM))
  have rUb : Rp 100 false h ShUnit (.row [.row [b7], b9, .int b11]) [bv7, bv9, .int .i64 b11] := rp_rowM (rpL_consM (rp_rowM (rpL_consM br7 rpL_nilM)) (rpL_consM br9 (rpL_consM rp_intM rpL_nilM)))
  have rPb : Rp 100 false h ShPolicy (.row [b15, b17]) [bv15, bv17] := rp_rowM (rpL_consM br15 (rpL_consM br17 rpL_nilM))
  repeat' (first | refine z0 ?_ | refine z1 ?_ | refine z2 ?_ | refine z3 ?_ | refine zL ?_ | refine zc ?_ | refine zd ?_ | refine ze ?_ | refine zh ?_ | refine zi ?_ | (refine zo ?_ ?_ <;> intro hc <;> try (exfalso; omega)) | (refine zt ?_ ?_ <;> intro hc) | refine wg_nil ?_ | refine then_go ?_ | refine wc_seq ?_ | refine wc_reg ?_ | refine wc_dreg ?_ | refine zu ?_ | refine zv ?_ | refine wc_skip ?_ | refine wc_ret ?_ | refine then_ret ?_ | refine zw ?_ | refine zx ?_ | refine zy ?_ | refine wd_nil ?_)
  · refine wo_call rfl rfl (Fit_ev hall (hcx.mono (by omega)) (by omega) (Rp.grew hgA rUa) (fun h3 hgq3 hnq3 => ?_) (fun nbUa h3 hgq3 hnq3 => ?_))
    · have hbx3 := (hgq3.get h.n (by omega)).trans hb12
      have hby3 := (hgq3.get h1.n (by omega)).trans hb22
      have hgX3 := hgA.trans hgq3
      have hgl3 := hgq3.le
      repeat' (first | refine z0 ?_ | refine z1 ?_ | refine z2 ?_ | refine z3 ?_ | refine zL ?_ | refine zc ?_ | refine zd ?_ | refine ze ?_ | refine zh ?_ | refine zi ?_ | (refine zo ?_ ?_ <;> intro hc <;> try (exfalso; omega)) | (refine zt ?_ ?_ <;> intro hc) | refine wg_nil ?_ | refine then_go ?_ | refine wc_seq ?_ | refine wc_reg ?_ | refine wc_dreg ?_ | refine zu ?_ | refine zv ?_ | refine wc_skip ?_ | refine wc_ret ?_ | refine then_ret ?_ | refine zw ?_ | refine zx ?_ | refine zy ?_ | refine wd_nil ?_)
      all_goals exact ⟨Or.inr rfl, _, rfl, rfl⟩
    · have hbx3 := (hgq3.get h.n (by omega)).trans hb12
      have hby3 := (hgq3.get h1.n (by omega)).trans hb22
      have hgX3 := hgA.trans hgq3
      have hgl3 := hgq3.le
      repeat' (first | refine z0 ?_ | refine z1 ?_ | refine z2 ?_ | refine z3 ?_ | refine zL ?_ | refine zc ?_ | refine zd ?_ | refine ze ?_ | refine zh ?_ | refine zi ?_ | (refine zo ?_ ?_ <;> intro hc <;> try (exfalso; omega)) | (refine zt ?_ ?_ <;> intro hc) | refine wg_nil ?_ | refine then_go ?_ | refine wc_seq ?_ | refine wc_reg ?_ | refine wc_dreg ?_ | refine zu ?_ | refine zv ?_ | refine wc_skip ?_ | refine wc_ret ?_ | refine then_ret ?_ | refine zw ?_ | refine zx ?_ | refine zy ?_ | refine wd_nil ?_)
      · refine wo_call rfl rfl (Fit_ev hall (hcx.mono (by omega)) (by omega) (Rp.grew hgX3 rUb) (fun h4 hgq4 hnq4 => ?_) (fun nbUb h4 hgq4 hnq4 => ?_))
        · have hbx4 := (hgq4.get h.n (by omega)).trans hbx3
          have hby4 := (hgq4.get h1.n (by omega)).trans hby3
          have hgX4 := hgX3.trans hgq4
          have hgl4 := hgq4.le
          repeat' (first | refine z0 ?_ | refine z1 ?_ | refine z2 ?_ | refine z3 ?_ | refine zL ?_ | refine zc ?_ | refine zd ?_ | refine ze ?_ | refine zh ?_ | refine zi ?_ | (refine zo ?_ ?_ <;> intro hc <;> try (exfalso; omega)) | (refine zt ?_ ?_ <;> intro hc) | refine wg_nil ?_ | refine then_go ?_ | refine wc_seq ?_ | refine wc_reg ?_ | refine wc_dreg ?_ | refine zu ?_ | refine zv ?_ | refine wc_skip ?_ | refine wc_ret ?_ | refine then_ret ?_ | refine zw ?_ | refine zx ?_ | refine zy ?_ | refine wd_nil ?_)
          all_goals exact ⟨Or.inr rfl, _, rfl, rfl⟩
        · have hbx4 := (hgq4.get h.n (by omega)).trans hbx3
          have hby4 := (hgq4.get h1.n (by omega)).trans hby3
          have hgX4 := hgX3.trans hgq4
          have hgl4 := hgq4.le
          repeat' (first | refine z0 ?_ | refine z1 ?_ | refine z2 ?_ | refine z3 ?_ | refine zL ?_ | refine zc ?_ | refine zd ?_ | refine ze ?_ | refine zh ?_ | refine zi ?_ | (refine zo ?_ ?_ <;> intro hc <;> try (exfalso; omega)) | (refine zt ?_ ?_ <;> intro hc) | refine wg_nil ?_ | refine then_go ?_ | refine wc_seq ?_ | refine wc_reg ?_ | refine wc_dreg ?_ | refine zu ?_ | refine zv ?_ | refine wc_skip ?_ | refine wc_ret ?_ | refine then_ret ?_ | refine zw ?_ | refine zx ?_ | refine zy ?_ | refine wd_nil ?_)
          · refine wo_call rfl rfl (fit_ev hall (hcx.mono (by omega)) (by omega) (Rp.grew hgX4 rPa) (fun h5 hgq5 hnq5 => ?_) (fun nbPa h5 hgq5 hnq5 => ?_))
            · have hbx5 := (hgq5.get h.n (by omega)).trans hbx4
              have hby5 := (hgq5.get h1.n (by omega)).trans hby4
              have hgX5 := hgX4.trans hgq5
              have hgl5 := hgq5.le
              repeat' (first | refine z0 ?_ | refine z1 ?_ | refine z2 ?_ | refine z3 ?_ | refine zL ?_ | refine zc ?_ | refine zd ?_ | refine ze ?_ | refine zh ?_ | refine zi ?_ | (refine zo ?_ ?_ <;> intro hc <;> try (exfalso; omega)) | (refine zt ?_ ?_ <;> intro hc) | refine wg_nil ?_ | refine then_go ?_ | refine wc_seq ?_ | refine wc_reg ?_ | refine wc_dreg ?_ | refine zu ?_ | refine zv ?_ | refine wc_skip ?_ | refine wc_ret ?_ | refine then_ret ?_ | refine zw ?_ | refine zx ?_ | refine zy ?_ | refine wd_nil ?_)
              all_goals exact ⟨Or.inr rfl, _, rfl, rfl⟩
            · have hbx5 := (hgq5.get h.n (by omega)).trans hbx4
              have hby5 := (hgq5.get h1.n (by omega)).trans hby4
              have hgX5 := hgX4.trans hgq5
              have hgl5 := hgq5.le
              repeat' (first | refine z0 ?_ | refine z1 ?_ | refine z2 ?_ | refine z3 ?_ | refine zL ?_ | refine zc ?_ | refine zd ?_ | refine ze ?_ | refine zh ?_ | refine zi ?_ | (refine zo ?_ ?_ <;> intro hc <;> try (exfalso; omega)) | (refine zt ?_ ?_ <;> intro hc) | refine wg_nil ?_ | refine then_go ?_ | refine wc_seq ?_ | refine wc_reg ?_ | refine wc_dreg ?_ | refine zu ?_ | refine zv ?_ | refine wc_skip ?_ | refine wc_ret ?_ | refine then_ret ?_ | refine zw ?_ | refine zx ?_ | refine zy ?_ | refine wd_nil ?_)
              · refine wo_call rfl rfl (fit_ev hall (hcx.mono (by omega)) (by omega) (Rp.grew hgX5 rPb) (fun h6 hgq6 hnq6 => ?_) (fun nbPb h6 hgq6 hnq6 => ?_))
                · have hbx6 := (hgq6.get h.n (by omega)).trans hbx5
                  have hby6 := (hgq6.get h1.n (by omega)).trans hby5
                  have hgX6 := hgX5.trans hgq6
                  have hgl6 := hgq6.le
                  repeat' (first | refine z0 ?_ | refine z1 ?_ | refine z2 ?_ | refine z3 ?_ | refine zL ?_ | refine zc ?_ | refine zd ?_ | refine ze ?_ | refine zh ?_ | refine zi ?_ | (refine zo ?_ ?_ <;> intro hc <;> try (exfalso; omega)) | (refine zt ?_ ?_ <;> intro hc) | refine wg_nil ?_ | refine then_go ?_ | refine wc_seq ?_ | refine wc_reg ?_ | refine wc_dreg ?_ | refine zu ?_ | refine zv ?_ | refine wc_skip ?_ | refine wc_ret ?_ | refine then_ret ?_ | refine zw ?_ | refine zx ?_ | refine zy ?_ | refine wd_nil ?_)
                  all_goals exact ⟨Or.inr rfl, _, rfl, rfl⟩
                · have hbx6 := (hgq6.get h.n (by omega)).trans hbx5
                  have hby6 := (hgq6.get h1.n (by omega)).trans hby5
                  have hgX6 := hgX5.trans hgq6
                  have hgl6 := hgq6.le
                  repeat' (first | refine z0 ?_ | refine z1 ?_ | refine z2 ?_ | refine z3 ?_ | refine zL ?_ | refine zc ?_ | refine zd ?_ | refine ze ?_ | refine zh ?_ | refine zi ?_ | (refine zo ?_ ?_ <;> intro hc <;> try (exfalso; omega)) | (refine zt ?_ ?_ <;> intro hc) | refine wg_nil ?_ | refine then_go ?_ | refine wc_seq ?_ | refine wc_reg ?_ | refine wc_dreg ?_ | refine zu ?_ | refine zv ?_ | refine wc_skip ?_ | refine wc_ret ?_ | refine then_ret ?_ | refine zw ?_ | refine zx ?_ | refine zy ?_ | refine wd_nil ?_)
                  rotate_right
                  · obtain ⟨ma, rfl, hLa, Sa⟩ := rp_in ar19 (by omega)
                    have nba : nb ShState (.row [.row [.row [a7], a9, .int a11], .row [a15, a17], .arr ma]) := nb_row (nbL_c nbUa (nbL_c nbPa (nbL_c (nb_arrS (by simp [shallow, shallowL, Sh.cnt, cntL]) Sa) nbL_n)))
                    have fa := Rp.full r1 nba
                    obtain ⟨mb, rfl, hLb, Sb⟩ := rp_in br19 (by omega)
                    have nbb : nb ShState (.row [.row [.row [b7], b9, .int b11], .row [b15, b17], .arr mb]) := nb_row (nbL_c nbUb (nbL_c nbPb (nbL_c (nb_arrS (by simp [shallow, shallowL, Sh.cnt, cntL]) Sb) nbL_n)))
                    have fb := Rp.full r2 nbb
                    refine rd_bar hnt rfl rfl (wo_call rfl rfl (PSame_ev (fun id q => (Nat.lt_or_ge id h6.n).elim (fun z => seen_cons (r := (h6.n, big)) z (by (repeat (first | refine seen_addS ?_ | refine seen_addR (by decide) (by omega) (fun z => ?_) (by omega))); exact seen_cut (hall id q) (by omega))) (fun z => seen_here (e := big) z (by unfold big; omega))) (Cx.mem (by omega)) (by omega) (Rp.grew hgX6 fa) (Rp.grew hgX6 fb) fun h7 hgq7 hnq7 => ⟨(by repeat (first | exact unchF_nil | refine unchF_cons (by decide) ?_)), ?_⟩))
                    have hbx7 := (hgq7.get h.n (by omega)).trans hbx6
                    have hby7 := (hgq7.get h1.n (by omega)).trans hby6
                    have hgX7 := hgX6.trans hgq7
                    have hgl7 := hgq7.le
                    repeat' (first | refine z0 ?_ | refine z1 ?_ | refine z2 ?_ | refine z3 ?_ | refine zL ?_ | refine zc ?_ | refine zd ?_ | refine ze ?_ | refine zh ?_ | refine zi ?_ | (refine zo ?_ ?_ <;> intro hc <;> try (exfalso; omega)) | (refine zt ?_ ?_ <;> intro hc) | refine wg_nil ?_ | refine then_go ?_ | refine wc_seq ?_ | refine wc_reg ?_ | refine wc_dreg ?_ | refine zu ?_ | refine zv ?_ | refine wc_skip ?_ | refine wc_ret ?_ | refine then_ret ?_ | refine zw ?_ | refine zx ?_ | refine zy ?_ | refine wd_nil ?_)
                    · refine rd_bar hnt rfl rfl (wo_call rfl rfl (RSame_ev (fun id q => (Nat.lt_or_ge id h7.n).elim (fun z => seen_cons (r := (h7.n, big)) z (by (repeat (first | refine seen_addS ?_ | refine seen_addR (by decide) (by omega) (fun z => ?_) (by omega))); exact seen_cut (hall id q) (by omega))) (fun z => seen_here (e := big) z (by unfold big; omega))) (Cx.mem (by omega)) (by omega) (Rp.grew hgX7 fa) (Rp.grew hgX7 fb) fun h8 hgq8 hnq8 => ⟨(by repeat (first | exact unchF_nil | refine unchF_cons (by decide) ?_)), ?_⟩))
                      have hbx8 := (hgq8.get h.n (by omega)).trans hbx7
                      have hby8 := (hgq8.get h1.n (by omega)).trans hby7
                      have hgX8 := hgX7.trans hgq8
                      have hgl8 := hgq8.le
                      repeat' (first | refine z0 ?_ | refine z1 ?_ | refine z2 ?_ | refine z3 ?_ | refine zL ?_ | refine zc ?_ | refine zd ?_ | refine ze ?_ | refine zh ?_ | refine zi ?_ | (refine zo ?_ ?_ <;> intro hc <;> try (exfalso; omega)) | (refine zt ?_ ?_ <;> intro hc) | refine wg_nil ?_ | refine then_go ?_ | refine wc_seq ?_ | refine wc_reg ?_ | refine wc_dreg ?_ | refine zu ?_ | refine zv ?_ | refine wc_skip ?_ | refine wc_ret ?_ | refine then_ret ?_ | refine zw ?_ | refine zx ?_ | refine zy ?_ | refine wd_nil ?_)
                      rotate_left
                      · exact absurd rfl hc
                      · refine rd_bar hnt rfl rfl (wo_call rfl rfl (PSame_ev (fun id q => (Nat.lt_or_ge id h8.n).elim (fun z => seen_cons (r := (h8.n, big)) z (by (repeat (first | refine seen_addS ?_ | refine seen_addR (by decide) (by omega) (fun z => ?_) (by omega))); exact seen_cut (hall id q) (by omega))) (fun z => seen_here (e := big) z (by unfold big; omega))) (Cx.mem (by omega)) (by omega) (Rp.grew hgX8 fa) (Rp.grew hgX8 fa) fun h9 hgq9 hnq9 => ⟨(by repeat (first | exact unchF_nil | refine unchF_cons (by decide) ?_)), ?_⟩))
                        have hbx9 := (hgq9.get h.n (by omega)).trans hbx8
                        have hby9 := (hgq9.get h1.n (by omega)).trans hby8
                        have hgX9 := hgX8.trans hgq9
                        have hgl9 := hgq9.le
                        rw [decide_eq_true rfl]
                        repeat' (first | refine z0 ?_ | refine z1 ?_ | refine z2 ?_ | refine z3 ?_ | refine zL ?_ | refine zc ?_ | refine zd ?_ | refine ze ?_ | refine zh ?_ | refine zi ?_ | (refine zo ?_ ?_ <;> intro hc <;> try (exfalso; omega)) | (refine zt ?_ ?_ <;> intro hc) | refine wg_nil ?_ | refine then_go ?_ | refine wc_seq ?_ | refine wc_reg ?_ | refine wc_dreg ?_ | refine zu ?_ | refine zv ?_ | refine wc_skip ?_ | refine wc_ret ?_ | refine then_ret ?_ | refine zw ?_ | refine zx ?_ | refine zy ?_ | refine wd_nil ?_)
                        · refine rd_bar hnt rfl rfl (wo_call rfl rfl (gv_known (f := knF) (GA := hStart) (fun p hp => ⟨getB_all (fun id q => (Nat.lt_or_ge id h9.n).elim (fun z => seen_cons (r := (h9.n, big)) z (by (repeat (first | refine seen_addS ?_ | refine seen_addR (by decide) (by omega) (fun z => ?_) (by omega))); exact seen_cut (hall id q) (by omega))) (fun z => seen_here (e := big) z (by unfold big; omega))) (by have := (hG p hp).2; omega) ((hgX9.get p.1 (hG p hp).2).trans (hG p hp).1), hGe p hp⟩) ⟨(by repeat (first | exact unchF_nil | refine unchF_cons (by decide) ?_)), ?_⟩))
                          repeat' (first | refine z0 ?_ | refine z1 ?_ | refine z2 ?_ | refine z3 ?_ | refine zL ?_ | refine zc ?_ | refine zd ?_ | refine ze ?_ | refine zh ?_ | refine zi ?_ | (refine zo ?_ ?_ <;> intro hc <;> try (exfalso; omega)) | (refine zt ?_ ?_ <;> intro hc) | refine wg_nil ?_ | refine then_go ?_ | refine wc_seq ?_ | refine wc_reg ?_ | refine wc_dreg ?_ | refine zu ?_ | refine zv ?_ | refine wc_skip ?_ | refine wc_ret ?_ | refine then_ret ?_ | refine zw ?_ | refine zx ?_ | refine zy ?_ | refine wd_nil ?_)
                          exact ⟨Or.inr rfl, _, rfl, rfl⟩
                  all_goals exact ⟨Or.inr rfl, _, rfl, rfl⟩
end Go.Proofs.YtaioinkajndjkaaGreatDoor.Ev