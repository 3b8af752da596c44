/- Comparisons of the reference. -/
import Derived.Test.YtaioinkajndjkaaGreatDoorInF
import Derived.Test.YtaioinkajndjkaaGreatDoorSyI
import Derived.Test.YtaioinkajndjkaaGreatDoorInK
set_option linter.unusedVariables false
set_option linter.unusedSimpArgs false
/- Comparisons of the reference. -/
set_option maxHeartbeats 4000000
namespace Go.Proofs.YtaioinkajndjkaaGreatDoor.Ev
open Go
open Classical
variable {c : C} {h : H} {K : AV → H → Prop}
theorem R10Same_ev (hall : ∀ id, id < 10000000 → seen c.vis id = true) {d1 d2 : Dt} {c1 c2 : List AV} (hcx : Cx c h) (hn : h.n + 20202 < 10000000) (r1 : Rp 100 true h ShHier d1 c1) (r2 : Rp 100 true h ShHier d2 c2) (k : ∀ h', Grew h h' → h'.n ≤ h.n + 20202 → K (.bool (decide (d1 = d2))) h') :
    Gv Tryz.prog X0 Mx c 43 [.agg c1, .agg c2] h K := by
  have hnt : (131 : Nat) ≤ 1000000 := by decide
  obtain ⟨a3, av3, rfl, rfl, al3, as3⟩ := rpd_Hier r1
  obtain ⟨b3, bv3, rfl, rfl, bl3, bs3⟩ := rpd_Hier r2
  have kf : ¬ Dt.row [.arr a3] = Dt.row [.arr b3] → ∀ h', Grew h h' → h'.n ≤ h.n + 20202 → K (.bool false) h' := fun q h' g1 g2 => by have := k h' g1 g2; rwa [decide_eq_false q] at this
  have kt : Dt.row [.arr a3] = Dt.row [.arr b3] → ∀ h', Grew h h' → h'.n ≤ h.n + 20202 → K (.bool true) h' := fun q h' g1 g2 => by have := k h' g1 g2; rwa [decide_eq_true q] at this
  clear k r1 r2
  have hla0 := as3.le
  have hlb0 := bs3.le
  obtain ⟨ia0, ra0, oa0, Aa0, ea0, pa0⟩ := as3.out
  obtain ⟨ib0, rb0, ob0, Ab0, eb0, pb0⟩ := bs3.out
  have hza0 : (ShClass : Sh).sz = 4 := rfl
  rw [hza0] at Aa0 Ab0
  refine gv_fn x_R10Same (Mx_no rfl _ _ _) (by simp) hnt ?_
  unfold s_R10Same SR.g SR.o SR.p
  refine wc_seq (wc_reg (rg_go hnt rfl rfl (wo_boxA rfl rfl (by omega) fun h1 hn1 hb1 hg1 => ?_)))
  refine rg_go hnt rfl rfl (wo_boxA rfl rfl (by omega) fun h2 hn2 hb2 hg2 => ?_)
  have hb12 : h2.get h.n = some (.cells [av3]) := (hg2.get h.n (by omega)).trans hb1
  have hb22 : h2.get h1.n = some (.cells [bv3]) := hb2
  have hs1 : seen c.vis h.n = true := hcx.new (Nat.le_refl _) (by omega)
  have hs2 : seen c.vis h1.n = true := hcx.new (by omega) (by omega)
  have hgA := hg1.trans hg2
  have Ba0 := Aa0.grew hgA
  have Bb0 := Ab0.grew hgA
  repeat' (first | refine z0 ?_ | refine z1 ?_ | refine z2 ?_ | refine z3 ?_ | refine z6 ?_ | refine z8 ?_ | refine za ?_ | refine zc ?_ | refine zd ?_ | refine ze ?_ | refine zh ?_ | refine zj ?_ | refine zl ?_ | (refine zm ?_ ?_ <;> intro hc <;> try (exfalso; omega)) | (refine zq ?_ ?_ <;> intro hc <;> try (exfalso; omega)) | (refine zs ?_ ?_ <;> intro hc) | (refine zt ?_ ?_ <;> intro hc) | refine wg_nil ?_ | refine then_go ?_ | refine wc_seq ?_ | refine wc_reg ?_ | refine wc_dreg ?_ | refine wc_block ?_ | refine zu ?_ | refine zv ?_ | refine wc_skip ?_ | refine wc_exit ?_ | refine wc_ret ?_ | refine then_ret ?_ | refine then_exit ?_ | refine out_go ?_ | refine out_ret ?_ | refine zA ?_ | refine zw ?_ | refine zx ?_ | refine zy ?_ | refine wd_nil ?_)
  · have hl100_0 : a3.length ≤ 100 := al3.resolve_right (by simp [Sh.cnt, cntL])
    refine wc_loopE (ι := Nat) (fun j => [(2, .ptr h.n 0), (3, .ptr h1.n 0), (5, .int .i64 (j : Int))]) (fun j h' => Grew h2 h' ∧ h'.n ≤ h2.n + 0 + 202 * j ∧ j ≤ a3.length ∧ (a3 = b3 ↔ a3.drop j = b3.drop j)) (fun j => a3.length - j) ?_ 0 ⟨Grew.refl _, by omega, Nat.zero_le _, by simp⟩ (Sub'.cons rfl (Sub'.cons rfl (Sub'.cons rfl (Sub'.nil _))))
    rintro j h0' ⟨hgr0, hle0, hj, hd⟩
    have hgl0 := hgr0.le
    have hll : a3.length = b3.length := by omega
    have hc12 := (hgr0.get h.n (by omega)).trans hb12
    have hc22 := (hgr0.get h1.n (by omega)).trans hb22
    have hgB0 := hgA.trans hgr0
    have Ca := Aa0.grew hgB0
    have Cb := Ab0.grew hgB0
    have hlow := hcx.low
    by_cases hlt : j < a3.length
    · have g1 : ra0[j]? = some (ra0[j]'(by omega)) := List.getElem?_eq_getElem (by omega)
      have g2 : rb0[j]? = some (rb0[j]'(by omega)) := List.getElem?_eq_getElem (by omega)
      have hid1 : ia0 < h.n := by
        rcases Aa0.at_ with ⟨q, _⟩ | ⟨_, _, q, _⟩
        · rw [q] at ea0; simp at ea0; omega
        · exact q
      have hid2 : ib0 < h.n := by
        rcases Ab0.at_ with ⟨q, _⟩ | ⟨_, _, q, _⟩
        · rw [q] at eb0; simp at eb0; omega
        · exact q
      have hs1' := hall ia0 (by omega)
      have hs2' := hall ib0 (by omega)
      have m1 : a3[j]? = some (a3.getD j (.int 0)) := by simp [hlt]
      have m2 : b3[j]? = some (b3.getD j (.int 0)) := by simp [show j < b3.length by omega]
      have t1 := pa0 j _ _ m1 g1
      have t2 := pb0 j _ _ m2 g2
      rw [drop_eq hlt (by omega)] at hd
      generalize ra0[j]'(by omega) = w1 at g1 t1
      generalize rb0[j]'(by omega) = w2 at g2 t2
      generalize a3.getD j (.int 0) = e1 at hd m1 t1
      generalize b3.getD j (.int 0) = e2 at hd m2 t2
      have o1 := t1.ones
      have o2 := t2.ones
      obtain ⟨u3, u5, u7, uv7, u9, uv9, rfl, rfl, ul7, us7, ul9, us9⟩ := rpd_Class t1
      obtain ⟨v3, v5, v7, vv7, v9, vv9, rfl, rfl, vl7, vs7, vl9, vs9⟩ := rpd_Class t2
      repeat' (first | refine z0 ?_ | refine z1 ?_ | refine z2 ?_ | refine z3 ?_ | refine z6 ?_ | refine z8 ?_ | refine za ?_ | refine zc ?_ | refine zd ?_ | refine ze ?_ | refine zh ?_ | refine zj ?_ | refine zl ?_ | (refine zm ?_ ?_ <;> intro hc <;> try (exfalso; omega)) | (refine zq ?_ ?_ <;> intro hc <;> try (exfalso; omega)) | (refine zs ?_ ?_ <;> intro hc) | (refine zt ?_ ?_ <;> intro hc) | refine wg_nil ?_ | refine then_go ?_ | refine wc_seq ?_ | refine wc_reg ?_ | refine wc_dreg ?_ | refine wc_block ?_ | refine zu ?_ | refine zv ?_ | refine wc_skip ?_ | refine wc_exit ?_ | refine wc_ret ?_ | refine then_ret ?_ | refine then_exit ?_ | refine out_go ?_ | refine out_ret ?_ | refine zA ?_ | refine zw ?_ | refine zx ?_ | refine zy ?_ | refine wd_nil ?_)
      obtain ⟨_, _, ⟨vsA, hgCa, _⟩, _⟩ := Ca.full (by omega)
      obtain ⟨_, _, ⟨vsB, hgCb, _⟩, _⟩ := Cb.full (by omega)
      refine rd_bs2 hnt rfl (by omega) (by omega) rfl rfl rfl rfl (by rfl) (by rfl) (by rfl) (by rfl) (by rfl) (by rfl) (by exact o1) (by exact o2) (by decide) (by decide) (fun p g1 g2 k1 k2 => by repeat (first | exact unchF_nil | refine unchF_same ((k1 _ (by omega)).trans (by assumption)) ((k2 _ (by omega)).trans (by assumption)) ?_)) fun h3 hn3 hb3 hb4 hg3 => ?_
      clear hgCa hgCb
      have hgC := hgB0.trans hg3
      have hs3 : seen c.vis h0'.n = true := hcx.new (by omega) (by omega)
      have hs4 : seen c.vis (h0'.n + 1) = true := hcx.new (by omega) (by omega)
      have hlu8 := us7.le
      have hlv8 := vs7.le
      obtain ⟨iu8, ru8, ou8, Au8, eu8, pu8⟩ := us7.out
      obtain ⟨iv8, rv8, ov8, Av8, ev8, pv8⟩ := vs7.out
      have hzu8 : (ShField : Sh).sz = 2 := rfl
      rw [hzu8] at Au8 Av8
      have Du8 := Au8.grew hgC
      have Dv8 := Av8.grew hgC
      have hlu9 := us9.le
      have hlv9 := vs9.le
      obtain ⟨iu9, ru9, ou9, Au9, eu9, pu9⟩ := us9.out
      obtain ⟨iv9, rv9, ov9, Av9, ev9, pv9⟩ := vs9.out
      have hzu9 : (ShSig : Sh).sz = 4 := rfl
      rw [hzu9] at Au9 Av9
      have Du9 := Au9.grew hgC
      have Dv9 := Av9.grew hgC
      have hlu100 : u9.length ≤ 100 := ul9.resolve_right (by simp [Sh.cnt, cntL])
      repeat' (first | refine z0 ?_ | refine z1 ?_ | refine z2 ?_ | refine z3 ?_ | refine z6 ?_ | refine z8 ?_ | refine za ?_ | refine zc ?_ | refine zd ?_ | refine ze ?_ | refine zh ?_ | refine zj ?_ | refine zl ?_ | (refine zm ?_ ?_ <;> intro hc <;> try (exfalso; omega)) | (refine zq ?_ ?_ <;> intro hc <;> try (exfalso; omega)) | (refine zs ?_ ?_ <;> intro hc) | (refine zt ?_ ?_ <;> intro hc) | refine wg_nil ?_ | refine then_go ?_ | refine wc_seq ?_ | refine wc_reg ?_ | refine wc_dreg ?_ | refine wc_block ?_ | refine zu ?_ | refine zv ?_ | refine wc_skip ?_ | refine wc_exit ?_ | refine wc_ret ?_ | refine then_ret ?_ | refine then_exit ?_ | refine out_go ?_ | refine out_ret ?_ | refine zA ?_ | refine zw ?_ | refine zx ?_ | refine zy ?_ | refine wd_nil ?_)
      · refine wc_loopE (ι := Nat) (fun jj => [(2, .ptr h.n 0), (3, .ptr h1.n 0), (5, .int .i64 (j : Int)), (6, .ptr h0'.n 0), (7, .ptr (h0'.n + 1) 0), (8, .int .i64 (jj : Int))]) (fun jj h' => h' = h3 ∧ jj ≤ u7.length ∧ (u7 = v7 ↔ u7.drop jj = v7.drop jj)) (fun jj => u7.length - jj) ?_ 0 ⟨rfl, Nat.zero_le _, by simp⟩ (Sub'.cons rfl (Sub'.cons rfl (Sub'.cons rfl (Sub'.cons rfl (Sub'.cons rfl (Sub'.cons rfl (Sub'.nil _)))))))
        rintro jj h' ⟨hh, hjj, hdd⟩
        have hh2 : h3 = h' := hh.symm
        subst hh2
        have hll8 : u7.length = v7.length := by omega
        by_cases hltt : jj < u7.length
        · have g3 : ru8[jj]? = some (ru8[jj]'(by omega)) := List.getElem?_eq_getElem (by omega)
          have g4 : rv8[jj]? = some (rv8[jj]'(by omega)) := List.getElem?_eq_getElem (by omega)
          have hid3 : iu8 < h.n := by
            rcases Au8.at_ with ⟨q, _⟩ | ⟨_, _, q, _⟩
            · rw [q] at eu8; simp at eu8; omega
            · exact q
          have hid4 : iv8 < h.n := by
            rcases Av8.at_ with ⟨q, _⟩ | ⟨_, _, q, _⟩
            · rw [q] at ev8; simp at ev8; omega
            · exact q
          have hs5' := hall iu8 (by omega)
          have hs6' := hall iv8 (by omega)
          have m3 : u7[jj]? = some (u7.getD jj (.int 0)) := by simp [hltt]
          have m4 : v7[jj]? = some (v7.getD jj (.int 0)) := by simp [show jj < v7.length by omega]
          have t3 := pu8 jj _ _ m3 g3
          have t4 := pv8 jj _ _ m4 g4
          rw [drop_eq hltt (by omega)] at hdd
          generalize ru8[jj]'(by omega) = w3 at g3 t3
          generalize rv8[jj]'(by omega) = w4 at g4 t4
          generalize u7.getD jj (.int 0) = e3 at hdd m3 t3
          generalize v7.getD jj (.int 0) = e4 at hdd m4 t4
          repeat' (first | refine z0 ?_ | refine z1 ?_ | refine z2 ?_ | refine z3 ?_ | refine z6 ?_ | refine z8 ?_ | refine za ?_ | refine zc ?_ | refine zd ?_ | refine ze ?_ | refine zh ?_ | refine zj ?_ | refine zl ?_ | (refine zm ?_ ?_ <;> intro hc <;> try (exfalso; omega)) | (refine zq ?_ ?_ <;> intro hc <;> try (exfalso; omega)) | (refine zs ?_ ?_ <;> intro hc) | (refine zt ?_ ?_ <;> intro hc) | refine wg_nil ?_ | refine then_go ?_ | refine wc_seq ?_ | refine wc_reg ?_ | refine wc_dreg ?_ | refine wc_block ?_ | refine zu ?_ | refine zv ?_ | refine wc_skip ?_ | refine wc_exit ?_ | refine wc_ret ?_ | refine then_ret ?_ | refine then_exit ?_ | refine out_go ?_ | refine out_ret ?_ | refine zA ?_ | refine zw ?_ | refine zx ?_ | refine zy ?_ | refine wd_nil ?_)
          refine wo_eqRow t3 t4 rfl rfl rfl ?_ ?_ <;> intro hX
          · repeat' (first | refine z0 ?_ | refine z1 ?_ | refine z2 ?_ | refine z3 ?_ | refine z6 ?_ | refine z8 ?_ | refine za ?_ | refine zc ?_ | refine zd ?_ | refine ze ?_ | refine zh ?_ | refine zj ?_ | refine zl ?_ | (refine zm ?_ ?_ <;> intro hc <;> try (exfalso; omega)) | (refine zq ?_ ?_ <;> intro hc <;> try (exfalso; omega)) | (refine zs ?_ ?_ <;> intro hc) | (refine zt ?_ ?_ <;> intro hc) | refine wg_nil ?_ | refine then_go ?_ | refine wc_seq ?_ | refine wc_reg ?_ | refine wc_dreg ?_ | refine wc_block ?_ | refine zu ?_ | refine zv ?_ | refine wc_skip ?_ | refine wc_exit ?_ | refine wc_ret ?_ | refine then_ret ?_ | refine then_exit ?_ | refine out_go ?_ | refine out_ret ?_ | refine zA ?_ | refine zw ?_ | refine zx ?_ | refine zy ?_ | refine wd_nil ?_)
            exact ⟨jj + 1, by simp; omega, (Sub'.cons rfl (Sub'.cons rfl (Sub'.cons rfl (Sub'.cons rfl (Sub'.cons rfl (Sub'.cons rfl (Sub'.nil _))))))), rfl, hltt, by rw [hdd]; exact ⟨fun q => q.2, fun q => ⟨hX, q⟩⟩⟩
          · repeat' (first | refine z0 ?_ | refine z1 ?_ | refine z2 ?_ | refine z3 ?_ | refine z6 ?_ | refine z8 ?_ | refine za ?_ | refine zc ?_ | refine zd ?_ | refine ze ?_ | refine zh ?_ | refine zj ?_ | refine zl ?_ | (refine zm ?_ ?_ <;> intro hc <;> try (exfalso; omega)) | (refine zq ?_ ?_ <;> intro hc <;> try (exfalso; omega)) | (refine zs ?_ ?_ <;> intro hc) | (refine zt ?_ ?_ <;> intro hc) | refine wg_nil ?_ | refine then_go ?_ | refine wc_seq ?_ | refine wc_reg ?_ | refine wc_dreg ?_ | refine wc_block ?_ | refine zu ?_ | refine zv ?_ | refine wc_skip ?_ | refine wc_exit ?_ | refine wc_ret ?_ | refine then_ret ?_ | refine then_exit ?_ | refine out_go ?_ | refine out_ret ?_ | refine zA ?_ | refine zw ?_ | refine zx ?_ | refine zy ?_ | refine wd_nil ?_)
            exact ⟨Or.inr rfl, _, rfl, kf (fun q => by simp only [Dt.row.injEq, List.cons.injEq, Dt.str.injEq, Dt.int.injEq, Dt.bool.injEq, Dt.arr.injEq, and_true, true_and, and_assoc] at q; obtain ⟨rfl⟩ := q; have q := (hd.1 rfl).1; simp only [Dt.row.injEq, List.cons.injEq, Dt.str.injEq, Dt.int.injEq, Dt.bool.injEq, Dt.arr.injEq, and_true, true_and, and_assoc] at q; obtain ⟨rfl, rfl, rfl, rfl⟩ := q; have q := (hdd.1 rfl).1; exact hX q) _ (hgB0.trans hg3) (by omega)⟩
        · have hqa := hdd.2 (by rw [List.drop_eq_nil_of_le (by omega), List.drop_eq_nil_of_le (by omega)])
          clear hdd
          repeat' (first | refine z0 ?_ | refine z1 ?_ | refine z2 ?_ | refine z3 ?_ | refine z6 ?_ | refine z8 ?_ | refine za ?_ | refine zc ?_ | refine zd ?_ | refine ze ?_ | refine zh ?_ | refine zj ?_ | refine zl ?_ | (refine zm ?_ ?_ <;> intro hc <;> try (exfalso; omega)) | (refine zq ?_ ?_ <;> intro hc <;> try (exfalso; omega)) | (refine zs ?_ ?_ <;> intro hc) | (refine zt ?_ ?_ <;> intro hc) | refine wg_nil ?_ | refine then_go ?_ | refine wc_seq ?_ | refine wc_reg ?_ | refine wc_dreg ?_ | refine wc_block ?_ | refine zu ?_ | refine zv ?_ | refine wc_skip ?_ | refine wc_exit ?_ | refine wc_ret ?_ | refine then_ret ?_ | refine then_exit ?_ | refine out_go ?_ | refine out_ret ?_ | refine zA ?_ | refine zw ?_ | refine zx ?_ | refine zy ?_ | refine wd_nil ?_)
          refine wc_loopE (ι := Nat) (fun jj => [(2, .ptr h.n 0), (3, .ptr h1.n 0), (5, .int .i64 (j : Int)), (6, .ptr h0'.n 0), (7, .ptr (h0'.n + 1) 0), (9, .int .i64 (jj : Int))]) (fun jj h' => Grew h3 h' ∧ h'.n ≤ h3.n + 2 * jj ∧ jj ≤ u9.length ∧ (u9 = v9 ↔ u9.drop jj = v9.drop jj)) (fun jj => u9.length - jj) ?_ 0 ⟨Grew.refl _, by omega, Nat.zero_le _, by simp⟩ (Sub'.cons rfl (Sub'.cons rfl (Sub'.cons rfl (Sub'.cons rfl (Sub'.cons rfl (Sub'.cons rfl (Sub'.nil _)))))))
          clear hltt
          rintro jj h9 ⟨hgr9, hle9, hjj, hdd⟩
          have hgl9 := hgr9.le
          have hb39 := (hgr9.get h0'.n (by omega)).trans hb3
          have hb49 := (hgr9.get (h0'.n + 1) (by omega)).trans hb4
          have hgD := hgC.trans hgr9
          have Eu9 := Au9.grew hgD
          have Ev9 := Av9.grew hgD
          have hll9 : u9.length = v9.length := by omega
          by_cases hltt : jj < u9.length
          · have g3 : ru9[jj]? = some (ru9[jj]'(by omega)) := List.getElem?_eq_getElem (by omega)
            have g4 : rv9[jj]? = some (rv9[jj]'(by omega)) := List.getElem?_eq_getElem (by omega)
            have hid3 : iu9 < h.n := by
              rcases Au9.at_ with ⟨q, _⟩ | ⟨_, _, q, _⟩
              · rw [q] at eu9; simp at eu9; omega
              · exact q
            have hid4 : iv9 < h.n := by
              rcases Av9.at_ with ⟨q, _⟩ | ⟨_, _, q, _⟩
              · rw [q] at ev9; simp at ev9; omega
              · exact q
            have hs5' := hall iu9 (by omega)
            have hs6' := hall iv9 (by omega)
            have m3 : u9[jj]? = some (u9.getD jj (.int 0)) := by simp [hltt]
            have m4 : v9[jj]? = some (v9.getD jj (.int 0)) := by simp [show jj < v9.length by omega]
            have t3 := pu9 jj _ _ m3 g3
            have t4 := pv9 jj _ _ m4 g4
            rw [drop_eq hltt (by omega)] at hdd
            generalize ru9[jj]'(by omega) = w3 at g3 t3
            generalize rv9[jj]'(by omega) = w4 at g4 t4
            generalize u9.getD jj (.int 0) = e3 at hdd m3 t3
            generalize v9.getD jj (.int 0) = e4 at hdd m4 t4
            obtain ⟨p3, p5, p7, pv7, p9, rfl, rfl, pl7, ps7⟩ := rpd_Sig t3
            obtain ⟨q3, q5, q7, qv7, q9, rfl, rfl, ql7, qs7⟩ := rpd_Sig t4
            repeat' (first | refine z0 ?_ | refine z1 ?_ | refine z2 ?_ | refine z3 ?_ | refine z6 ?_ | refine z8 ?_ | refine za ?_ | refine zc ?_ | refine zd ?_ | refine ze ?_ | refine zh ?_ | refine zj ?_ | refine zl ?_ | (refine zm ?_ ?_ <;> intro hc <;> try (exfalso; omega)) | (refine zq ?_ ?_ <;> intro hc <;> try (exfalso; omega)) | (refine zs ?_ ?_ <;> intro hc) | (refine zt ?_ ?_ <;> intro hc) | refine wg_nil ?_ | refine then_go ?_ | refine wc_seq ?_ | refine wc_reg ?_ | refine wc_dreg ?_ | refine wc_block ?_ | refine zu ?_ | refine zv ?_ | refine wc_skip ?_ | refine wc_exit ?_ | refine wc_ret ?_ | refine then_ret ?_ | refine then_exit ?_ | refine out_go ?_ | refine out_ret ?_ | refine zA ?_ | refine zw ?_ | refine zx ?_ | refine zy ?_ | refine wd_nil ?_)
            · refine rd_bar hnt rfl rfl (wo_call rfl rfl (R10SameSig_ev (fun id q => by by_cases z : id < h9.n; exact seen_old (by repeat (first | exact rs_nil | refine rs_add (by omega) ?_)) (by omega) z (hall id q); exact seen_here (by omega) (by unfold big; omega)) (Cx.mem (by omega)) (by omega) (Rp.grew hgD t3) (Rp.grew hgD t4) (fun n s p x n' s' p' x' z1 z2 => by simp only [Dt.row.injEq, List.cons.injEq, Dt.str.injEq, Dt.int.injEq, Dt.bool.injEq, Dt.arr.injEq, and_true, true_and, and_assoc] at z1; simp only [Dt.row.injEq, List.cons.injEq, Dt.str.injEq, Dt.int.injEq, Dt.bool.injEq, Dt.arr.injEq, and_true, true_and, and_assoc] at z2; obtain ⟨rfl, rfl, rfl, rfl⟩ := z1; obtain ⟨rfl, rfl, rfl, rfl⟩ := z2; exact ⟨by assumption, by assumption⟩) fun h5 hg5 hn5 => ⟨(by repeat (first | exact unchF_nil | refine unchF_cons (by decide) ?_)), ?_⟩))
              have hgl5 := hg5.le
              by_cases hX : Dt.row [.str p3, .bool p5, .arr p7, .str p9] = Dt.row [.str q3, .bool q5, .arr q7, .str q9]
              · rw [decide_eq_true hX]
                repeat' (first | refine z0 ?_ | refine z1 ?_ | refine z2 ?_ | refine z3 ?_ | refine z6 ?_ | refine z8 ?_ | refine za ?_ | refine zc ?_ | refine zd ?_ | refine ze ?_ | refine zh ?_ | refine zj ?_ | refine zl ?_ | (refine zm ?_ ?_ <;> intro hc <;> try (exfalso; omega)) | (refine zq ?_ ?_ <;> intro hc <;> try (exfalso; omega)) | (refine zs ?_ ?_ <;> intro hc) | (refine zt ?_ ?_ <;> intro hc) | refine wg_nil ?_ | refine then_go ?_ | refine wc_seq ?_ | refine wc_reg ?_ | refine wc_dreg ?_ | refine wc_block ?_ | refine zu ?_ | refine zv ?_ | refine wc_skip ?_ | refine wc_exit ?_ | refine wc_ret ?_ | refine then_ret ?_ | refine then_exit ?_ | refine out_go ?_ | refine out_ret ?_ | refine zA ?_ | refine zw ?_ | refine zx ?_ | refine zy ?_ | refine wd_nil ?_)
                exact ⟨jj + 1, by simp; omega, (Sub'.cons rfl (Sub'.cons rfl (Sub'.cons rfl (Sub'.cons rfl (Sub'.cons rfl (Sub'.cons rfl (Sub'.nil _))))))), hgr9.trans hg5, by omega, hltt, by rw [hdd]; exact ⟨fun q => q.2, fun q => ⟨hX, q⟩⟩⟩
              · rw [decide_eq_false hX]
                repeat' (first | refine z0 ?_ | refine z1 ?_ | refine z2 ?_ | refine z3 ?_ | refine z6 ?_ | refine z8 ?_ | refine za ?_ | refine zc ?_ | refine zd ?_ | refine ze ?_ | refine zh ?_ | refine zj ?_ | refine zl ?_ | (refine zm ?_ ?_ <;> intro hc <;> try (exfalso; omega)) | (refine zq ?_ ?_ <;> intro hc <;> try (exfalso; omega)) | (refine zs ?_ ?_ <;> intro hc) | (refine zt ?_ ?_ <;> intro hc) | refine wg_nil ?_ | refine then_go ?_ | refine wc_seq ?_ | refine wc_reg ?_ | refine wc_dreg ?_ | refine wc_block ?_ | refine zu ?_ | refine zv ?_ | refine wc_skip ?_ | refine wc_exit ?_ | refine wc_ret ?_ | refine then_ret ?_ | refine then_exit ?_ | refine out_go ?_ | refine out_ret ?_ | refine zA ?_ | refine zw ?_ | refine zx ?_ | refine zy ?_ | refine wd_nil ?_)
                exact ⟨Or.inr rfl, _, rfl, kf (fun q => by simp only [Dt.row.injEq, List.cons.injEq, Dt.str.injEq, Dt.int.injEq, Dt.bool.injEq, Dt.arr.injEq, and_true, true_and, and_assoc] at q; obtain ⟨rfl⟩ := q; have q := (hd.1 rfl).1; simp only [Dt.row.injEq, List.cons.injEq, Dt.str.injEq, Dt.int.injEq, Dt.bool.injEq, Dt.arr.injEq, and_true, true_and, and_assoc] at q; obtain ⟨rfl, rfl, rfl, rfl⟩ := q; have q := (hdd.1 rfl).1; exact hX q) _ (hgD.trans hg5) (by omega)⟩
            all_goals exact ⟨Or.inr rfl, _, rfl, kf (fun q => by simp only [Dt.row.injEq, List.cons.injEq, Dt.str.injEq, Dt.int.injEq, Dt.bool.injEq, Dt.arr.injEq, and_true, true_and, and_assoc] at q; obtain ⟨rfl⟩ := q; have q := (hd.1 rfl).1; simp only [Dt.row.injEq, List.cons.injEq, Dt.str.injEq, Dt.int.injEq, Dt.bool.injEq, Dt.arr.injEq, and_true, true_and, and_assoc] at q; obtain ⟨rfl, rfl, rfl, rfl⟩ := q; have q := (hdd.1 rfl).1; simp only [Dt.row.injEq, List.cons.injEq, Dt.str.injEq, Dt.int.injEq, Dt.bool.injEq, Dt.arr.injEq, and_true, true_and, and_assoc] at q; obtain ⟨rfl, rfl, rfl, rfl⟩ := q; first | exact hX rfl | contradiction | omega) _ (hgD) (by omega)⟩
          · have hqb := hdd.2 (by rw [List.drop_eq_nil_of_le (by omega), List.drop_eq_nil_of_le (by omega)])
            repeat' (first | refine z0 ?_ | refine z1 ?_ | refine z2 ?_ | refine z3 ?_ | refine z6 ?_ | refine z8 ?_ | refine za ?_ | refine zc ?_ | refine zd ?_ | refine ze ?_ | refine zh ?_ | refine zj ?_ | refine zl ?_ | (refine zm ?_ ?_ <;> intro hc <;> try (exfalso; omega)) | (refine zq ?_ ?_ <;> intro hc <;> try (exfalso; omega)) | (refine zs ?_ ?_ <;> intro hc) | (refine zt ?_ ?_ <;> intro hc) | refine wg_nil ?_ | refine then_go ?_ | refine wc_seq ?_ | refine wc_reg ?_ | refine wc_dreg ?_ | refine wc_block ?_ | refine zu ?_ | refine zv ?_ | refine wc_skip ?_ | refine wc_exit ?_ | refine wc_ret ?_ | refine then_ret ?_ | refine then_exit ?_ | refine out_go ?_ | refine out_ret ?_ | refine zA ?_ | refine zw ?_ | refine zx ?_ | refine zy ?_ | refine wd_nil ?_)
            exact ⟨j + 1, by simp; omega, (Sub'.cons rfl (Sub'.cons rfl (Sub'.cons rfl (Sub'.nil _)))), (hgr0.trans hg3).trans hgr9, by omega, hlt, by rw [hd]; exact ⟨fun q => q.2, fun q => ⟨by congr <;> assumption, q⟩⟩⟩
      all_goals exact ⟨Or.inr rfl, _, rfl, kf (fun q => by simp only [Dt.row.injEq, List.cons.injEq, Dt.str.injEq, Dt.int.injEq, Dt.bool.injEq, Dt.arr.injEq, and_true, true_and, and_assoc] at q; obtain ⟨rfl⟩ := q; have q := (hd.1 rfl).1; simp only [Dt.row.injEq, List.cons.injEq, Dt.str.injEq, Dt.int.injEq, Dt.bool.injEq, Dt.arr.injEq, and_true, true_and, and_assoc] at q; obtain ⟨rfl, rfl, rfl, rfl⟩ := q; first | exact hX rfl | contradiction | omega) _ (hgB0.trans hg3) (by omega)⟩
    · have hq0 := hd.2 (by rw [List.drop_eq_nil_of_le (by omega), List.drop_eq_nil_of_le (by omega)])
      repeat' (first | refine z0 ?_ | refine z1 ?_ | refine z2 ?_ | refine z3 ?_ | refine z6 ?_ | refine z8 ?_ | refine za ?_ | refine zc ?_ | refine zd ?_ | refine ze ?_ | refine zh ?_ | refine zj ?_ | refine zl ?_ | (refine zm ?_ ?_ <;> intro hc <;> try (exfalso; omega)) | (refine zq ?_ ?_ <;> intro hc <;> try (exfalso; omega)) | (refine zs ?_ ?_ <;> intro hc) | (refine zt ?_ ?_ <;> intro hc) | refine wg_nil ?_ | refine then_go ?_ | refine wc_seq ?_ | refine wc_reg ?_ | refine wc_dreg ?_ | refine wc_block ?_ | refine zu ?_ | refine zv ?_ | refine wc_skip ?_ | refine wc_exit ?_ | refine wc_ret ?_ | refine then_ret ?_ | refine then_exit ?_ | refine out_go ?_ | refine out_ret ?_ | refine zA ?_ | refine zw ?_ | refine zx ?_ | refine zy ?_ | refine wd_nil ?_)
      exact ⟨Or.inr rfl, _, rfl, kt (by congr <;> assumption) _ hgB0 (by omega)⟩
  all_goals exact ⟨Or.inr rfl, _, rfl, kf (fun q => by simp only [Dt.row.injEq, List.cons.injEq, Dt.str.injEq, Dt.int.injEq, Dt.bool.injEq, Dt.arr.injEq, and_true, true_and, and_assoc] at q; obtain ⟨rfl⟩ := q; first | exact hc rfl | contradiction | omega) _ hgA (by omega)⟩
end Go.Proofs.YtaioinkajndjkaaGreatDoor.Ev
/- Comparisons of the reference. -/
set_option maxHeartbeats 4000000
namespace Go.Proofs.YtaioinkajndjkaaGreatDoor.Ev
open Go
open Classical
variable {c : C} {h : H} {K : AV → H → Prop}
theorem R12Same_ev (hall : ∀ id, id < 10000000 → seen c.vis id = true) {d1 d2 : Dt} {c1 c2 : List AV} (hcx : Cx c h) (hn : h.n + 40404 < 10000000) (r1 : Rp 100 true h ShUnit d1 c1) (r2 : Rp 100 true h ShUnit d2 c2) (k : ∀ h', Grew h h' → h'.n ≤ h.n + 40404 → K (.bool (decide (d1 = d2))) h') :
    Gv Tryz.prog X0 Mx c 31 [.agg c1, .agg c2] h K := by
  have hnt : (47 : Nat) ≤ 1000000 := by decide
  obtain ⟨a5, av5, a7, av7, a9, rfl, rfl, al5, as5, al7, as7⟩ := rpd_Unit r1
  obtain ⟨b5, bv5, b7, bv7, b9, rfl, rfl, bl5, bs5, bl7, bs7⟩ := rpd_Unit r2
  have kf : ¬ Dt.row [.row [.arr a5], .arr a7, .int a9] = Dt.row [.row [.arr b5], .arr b7, .int b9] → ∀ h', Grew h h' → h'.n ≤ h.n + 40404 → K (.bool false) h' := fun q h' g1 g2 => by have := k h' g1 g2; rwa [decide_eq_false q] at this
  have kt : Dt.row [.row [.arr a5], .arr a7, .int a9] = Dt.row [.row [.arr b5], .arr b7, .int b9] → ∀ h', Grew h h' → h'.n ≤ h.n + 40404 → K (.bool true) h' := fun q h' g1 g2 => by have := k h' g1 g2; rwa [decide_eq_true q] at this
  clear k r1 r2
  have hla0 := as7.le
  have hlb0 := bs7.le
  obtain ⟨ia0, ra0, oa0, Aa0, ea0, pa0⟩ := as7.out
  obtain ⟨ib0, rb0, ob0, Ab0, eb0, pb0⟩ := bs7.out
  have hza0 : (ShFunc : Sh).sz = 7 := rfl
  rw [hza0] at Aa0 Ab0
  refine gv_fn x_R12Same (Mx_no rfl _ _ _) (by simp) hnt ?_
  unfold s_R12Same SR.g SR.o SR.p
  refine wc_seq (wc_reg (rg_go hnt rfl rfl (wo_boxA rfl rfl (by omega) fun h1 hn1 hb1 hg1 => ?_)))
  refine rg_go hnt rfl rfl (wo_boxA rfl rfl (by omega) fun h2 hn2 hb2 hg2 => ?_)
  have hb12 : h2.get h.n = some (.cells [av5, av7, .int .i64 a9]) := (hg2.get h.n (by omega)).trans hb1
  have hb22 : h2.get h1.n = some (.cells [bv5, bv7, .int .i64 b9]) := hb2
  have hs1 : seen c.vis h.n = true := hcx.new (Nat.le_refl _) (by omega)
  have hs2 : seen c.vis h1.n = true := hcx.new (by omega) (by omega)
  have hgA := hg1.trans hg2
  have Ba0 := Aa0.grew hgA
  have Bb0 := Ab0.grew hgA
  repeat' (first | refine z0 ?_ | refine z1 ?_ | refine z2 ?_ | refine z3 ?_ | refine z6 ?_ | refine z8 ?_ | refine za ?_ | refine zc ?_ | refine zd ?_ | refine ze ?_ | refine zh ?_ | refine zi ?_ | refine zl ?_ | (refine zm ?_ ?_ <;> intro hc <;> try (exfalso; omega)) | (refine zq ?_ ?_ <;> intro hc <;> try (exfalso; omega)) | refine wg_nil ?_ | refine then_go ?_ | refine wc_seq ?_ | refine wc_reg ?_ | refine wc_dreg ?_ | refine wc_block ?_ | refine zu ?_ | refine zv ?_ | refine wc_skip ?_ | refine wc_exit ?_ | refine wc_ret ?_ | refine then_ret ?_ | refine then_exit ?_ | refine out_go ?_ | refine out_ret ?_ | refine zA ?_ | refine zw ?_ | refine zx ?_ | refine wd_nil ?_)
  · refine wo_call rfl rfl (R10Same_ev (d1 := Dt.row [.arr a5]) (d2 := Dt.row [.arr b5]) hall (hcx.mono (by omega)) (by omega) (Rp.grew hgA (rp_rowM (rpL_consM (rp_arrM al5 as5) rpL_nilM))) (Rp.grew hgA (rp_rowM (rpL_consM (rp_arrM bl5 bs5) rpL_nilM))) fun h5 hg5 hn5 => ?_)
    have hgl5 := hg5.le
    have hbx5 := (hg5.get h.n (by omega)).trans hb12
    have hby5 := (hg5.get h1.n (by omega)).trans hb22
    have hgX5 := hgA.trans hg5
    by_cases hX5 : Dt.row [.arr a5] = Dt.row [.arr b5]
    rotate_left
    · rw [decide_eq_false hX5]
      repeat' (first | refine z0 ?_ | refine z1 ?_ | refine z2 ?_ | refine z3 ?_ | refine z6 ?_ | refine z8 ?_ | refine za ?_ | refine zc ?_ | refine zd ?_ | refine ze ?_ | refine zh ?_ | refine zi ?_ | refine zl ?_ | (refine zm ?_ ?_ <;> intro hc <;> try (exfalso; omega)) | (refine zq ?_ ?_ <;> intro hc <;> try (exfalso; omega)) | refine wg_nil ?_ | refine then_go ?_ | refine wc_seq ?_ | refine wc_reg ?_ | refine wc_dreg ?_ | refine wc_block ?_ | refine zu ?_ | refine zv ?_ | refine wc_skip ?_ | refine wc_exit ?_ | refine wc_ret ?_ | refine then_ret ?_ | refine then_exit ?_ | refine out_go ?_ | refine out_ret ?_ | refine zA ?_ | refine zw ?_ | refine zx ?_ | refine wd_nil ?_)
      exact ⟨Or.inr rfl, _, rfl, kf (fun q => by simp only [Dt.row.injEq, List.cons.injEq, Dt.str.injEq, Dt.int.injEq, Dt.bool.injEq, Dt.arr.injEq, and_true, true_and, and_assoc] at q; obtain ⟨rfl, rfl, rfl⟩ := q; exact hX5 rfl) _ (hgX5) (by omega)⟩
    rw [decide_eq_true hX5]
    simp only [Dt.row.injEq, List.cons.injEq, Dt.str.injEq, Dt.int.injEq, Dt.bool.injEq, Dt.arr.injEq, and_true, true_and, and_assoc] at hX5
    repeat' (first | refine z0 ?_ | refine z1 ?_ | refine z2 ?_ | refine z3 ?_ | refine z6 ?_ | refine z8 ?_ | refine za ?_ | refine zc ?_ | refine zd ?_ | refine ze ?_ | refine zh ?_ | refine zi ?_ | refine zl ?_ | (refine zm ?_ ?_ <;> intro hc <;> try (exfalso; omega)) | (refine zq ?_ ?_ <;> intro hc <;> try (exfalso; omega)) | refine wg_nil ?_ | refine then_go ?_ | refine wc_seq ?_ | refine wc_reg ?_ | refine wc_dreg ?_ | refine wc_block ?_ | refine zu ?_ | refine zv ?_ | refine wc_skip ?_ | refine wc_exit ?_ | refine wc_ret ?_ | refine then_ret ?_ | refine then_exit ?_ | refine out_go ?_ | refine out_ret ?_ | refine zA ?_ | refine zw ?_ | refine zx ?_ | refine wd_nil ?_)
    have hl100_0 : a7.length ≤ 100 := al7.resolve_right (by simp [Sh.cnt, cntL])
    refine wc_loopE (ι := Nat) (fun j => [(2, .ptr h.n 0), (3, .ptr h1.n 0), (5, .int .i64 (j : Int))]) (fun j h' => Grew h2 h' ∧ h'.n ≤ h2.n + 20202 + 202 * j ∧ j ≤ a7.length ∧ (a7 = b7 ↔ a7.drop j = b7.drop j)) (fun j => a7.length - j) ?_ 0 ⟨hg5, by omega, Nat.zero_le _, by simp⟩ (Sub'.cons rfl (Sub'.cons rfl (Sub'.cons rfl (Sub'.nil _))))
    rintro j h0' ⟨hgr0, hle0, hj, hd⟩
    have hgl0 := hgr0.le
    have hll : a7.length = b7.length := by omega
    have hc12 := (hgr0.get h.n (by omega)).trans hb12
    have hc22 := (hgr0.get h1.n (by omega)).trans hb22
    have hgB0 := hgA.trans hgr0
    have Ca := Aa0.grew hgB0
    have Cb := Ab0.grew hgB0
    have hlow := hcx.low
    by_cases hlt : j < a7.length
    · have g1 : ra0[j]? = some (ra0[j]'(by omega)) := List.getElem?_eq_getElem (by omega)
      have g2 : rb0[j]? = some (rb0[j]'(by omega)) := List.getElem?_eq_getElem (by omega)
      have hid1 : ia0 < h.n := by
        rcases Aa0.at_ with ⟨q, _⟩ | ⟨_, _, q, _⟩
        · rw [q] at ea0; simp at ea0; omega
        · exact q
      have hid2 : ib0 < h.n := by
        rcases Ab0.at_ with ⟨q, _⟩ | ⟨_, _, q, _⟩
        · rw [q] at eb0; simp at eb0; omega
        · exact q
      have hs1' := hall ia0 (by omega)
      have hs2' := hall ib0 (by omega)
      have m1 : a7[j]? = some (a7.getD j (.int 0)) := by simp [hlt]
      have m2 : b7[j]? = some (b7.getD j (.int 0)) := by simp [show j < b7.length by omega]
      have t1 := pa0 j _ _ m1 g1
      have t2 := pb0 j _ _ m2 g2
      rw [drop_eq hlt (by omega)] at hd
      generalize ra0[j]'(by omega) = w1 at g1 t1
      generalize rb0[j]'(by omega) = w2 at g2 t2
      generalize a7.getD j (.int 0) = e1 at hd m1 t1
      generalize b7.getD j (.int 0) = e2 at hd m2 t2
      repeat' (first | refine z0 ?_ | refine z1 ?_ | refine z2 ?_ | refine z3 ?_ | refine z6 ?_ | refine z8 ?_ | refine za ?_ | refine zc ?_ | refine zd ?_ | refine ze ?_ | refine zh ?_ | refine zi ?_ | refine zl ?_ | (refine zm ?_ ?_ <;> intro hc <;> try (exfalso; omega)) | (refine zq ?_ ?_ <;> intro hc <;> try (exfalso; omega)) | refine wg_nil ?_ | refine then_go ?_ | refine wc_seq ?_ | refine wc_reg ?_ | refine wc_dreg ?_ | refine wc_block ?_ | refine zu ?_ | refine zv ?_ | refine wc_skip ?_ | refine wc_exit ?_ | refine wc_ret ?_ | refine then_ret ?_ | refine then_exit ?_ | refine out_go ?_ | refine out_ret ?_ | refine zA ?_ | refine zw ?_ | refine zx ?_ | refine wd_nil ?_)
      refine rd_bar hnt rfl rfl (wo_call rfl rfl (R12SameFunc_ev (fun id q => by by_cases z : id < h0'.n; exact seen_old (by repeat (first | exact rs_nil | refine rs_add (by omega) ?_)) (by omega) z (hall id q); exact seen_here (by omega) (by unfold big; omega)) (Cx.mem (by omega)) (by omega) (Rp.grew hgB0 t1) (Rp.grew hgB0 t2) fun h3 hg3 hn3 => ⟨(by repeat (first | exact unchF_nil | refine unchF_cons (by decide) ?_)), ?_⟩))
      have hgl3 := hg3.le
      by_cases hX : e1 = e2
      · rw [decide_eq_true hX]
        repeat' (first | refine z0 ?_ | refine z1 ?_ | refine z2 ?_ | refine z3 ?_ | refine z6 ?_ | refine z8 ?_ | refine za ?_ | refine zc ?_ | refine zd ?_ | refine ze ?_ | refine zh ?_ | refine zi ?_ | refine zl ?_ | (refine zm ?_ ?_ <;> intro hc <;> try (exfalso; omega)) | (refine zq ?_ ?_ <;> intro hc <;> try (exfalso; omega)) | refine wg_nil ?_ | refine then_go ?_ | refine wc_seq ?_ | refine wc_reg ?_ | refine wc_dreg ?_ | refine wc_block ?_ | refine zu ?_ | refine zv ?_ | refine wc_skip ?_ | refine wc_exit ?_ | refine wc_ret ?_ | refine then_ret ?_ | refine then_exit ?_ | refine out_go ?_ | refine out_ret ?_ | refine zA ?_ | refine zw ?_ | refine zx ?_ | refine wd_nil ?_)
        exact ⟨j + 1, by simp; omega, (Sub'.cons rfl (Sub'.cons rfl (Sub'.cons rfl (Sub'.nil _)))), hgr0.trans hg3, by omega, hlt, by rw [hd]; exact ⟨fun q => q.2, fun q => ⟨hX, q⟩⟩⟩
      · rw [decide_eq_false hX]
        repeat' (first | refine z0 ?_ | refine z1 ?_ | refine z2 ?_ | refine z3 ?_ | refine z6 ?_ | refine z8 ?_ | refine za ?_ | refine zc ?_ | refine zd ?_ | refine ze ?_ | refine zh ?_ | refine zi ?_ | refine zl ?_ | (refine zm ?_ ?_ <;> intro hc <;> try (exfalso; omega)) | (refine zq ?_ ?_ <;> intro hc <;> try (exfalso; omega)) | refine wg_nil ?_ | refine then_go ?_ | refine wc_seq ?_ | refine wc_reg ?_ | refine wc_dreg ?_ | refine wc_block ?_ | refine zu ?_ | refine zv ?_ | refine wc_skip ?_ | refine wc_exit ?_ | refine wc_ret ?_ | refine then_ret ?_ | refine then_exit ?_ | refine out_go ?_ | refine out_ret ?_ | refine zA ?_ | refine zw ?_ | refine zx ?_ | refine wd_nil ?_)
        exact ⟨Or.inr rfl, _, rfl, kf (fun q => by simp only [Dt.row.injEq, List.cons.injEq, Dt.str.injEq, Dt.int.injEq, Dt.bool.injEq, Dt.arr.injEq, and_true, true_and, and_assoc] at q; obtain ⟨rfl, rfl, rfl⟩ := q; exact hX (hd.1 rfl).1) _ (hgB0.trans hg3) (by omega)⟩
    · have hq0 := hd.2 (by rw [List.drop_eq_nil_of_le (by omega), List.drop_eq_nil_of_le (by omega)])
      repeat' (first | refine z0 ?_ | refine z1 ?_ | refine z2 ?_ | refine z3 ?_ | refine z6 ?_ | refine z8 ?_ | refine za ?_ | refine zc ?_ | refine zd ?_ | refine ze ?_ | refine zh ?_ | refine zi ?_ | refine zl ?_ | (refine zm ?_ ?_ <;> intro hc <;> try (exfalso; omega)) | (refine zq ?_ ?_ <;> intro hc <;> try (exfalso; omega)) | refine wg_nil ?_ | refine then_go ?_ | refine wc_seq ?_ | refine wc_reg ?_ | refine wc_dreg ?_ | refine wc_block ?_ | refine zu ?_ | refine zv ?_ | refine wc_skip ?_ | refine wc_exit ?_ | refine wc_ret ?_ | refine then_ret ?_ | refine then_exit ?_ | refine out_go ?_ | refine out_ret ?_ | refine zA ?_ | refine zw ?_ | refine zx ?_ | refine wd_nil ?_)
      exact ⟨Or.inr rfl, _, rfl, kt (by congr <;> assumption) _ hgB0 (by omega)⟩
  all_goals exact ⟨Or.inr rfl, _, rfl, kf (fun q => by simp only [Dt.row.injEq, List.cons.injEq, Dt.str.injEq, Dt.int.injEq, Dt.bool.injEq, Dt.arr.injEq, and_true, true_and, and_assoc] at q; obtain ⟨rfl, rfl, rfl⟩ := q; first | exact hc rfl | contradiction | omega) _ hgA (by omega)⟩
theorem R13Same_ev (hall : ∀ id, id < 10000000 → seen c.vis id = true) {d1 d2 : Dt} {c1 c2 : List AV} (hcx : Cx c h) (hn : h.n + 40406 < 10000000) (r1 : Rp 100 true h ShUnit d1 c1) (r2 : Rp 100 true h ShUnit d2 c2) (k : ∀ h', Grew h h' → h'.n ≤ h.n + 40406 → K (.bool (decide (d1 = d2))) h') :
    Gv Tryz.prog X0 Mx c 16 [.agg c1, .agg c2] h K := by
  have hnt : (8 : Nat) ≤ 1000000 := by decide
  obtain ⟨a5, av5, a7, av7, a9, rfl, rfl, al5, as5, al7, as7⟩ := rpd_Unit r1
  obtain ⟨b5, bv5, b7, bv7, b9, rfl, rfl, bl5, bs5, bl7, bs7⟩ := rpd_Unit r2
  have kf : ¬ Dt.row [.row [.arr a5], .arr a7, .int a9] = Dt.row [.row [.arr b5], .arr b7, .int b9] → ∀ h', Grew h h' → h'.n ≤ h.n + 40406 → K (.bool false) h' := fun q h' g1 g2 => by have := k h' g1 g2; rwa [decide_eq_false q] at this
  have kt : Dt.row [.row [.arr a5], .arr a7, .int a9] = Dt.row [.row [.arr b5], .arr b7, .int b9] → ∀ h', Grew h h' → h'.n ≤ h.n + 40406 → K (.bool true) h' := fun q h' g1 g2 => by have := k h' g1 g2; rwa [decide_eq_true q] at this
  clear k r1 r2
  refine gv_fn x_R13Same (Mx_no rfl _ _ _) (by simp) hnt ?_
  unfold s_R13Same SR.o
  refine wc_seq (wc_reg (rg_go hnt rfl rfl (wo_boxA rfl rfl (by omega) fun h1 hn1 hb1 hg1 => ?_)))
  refine rg_go hnt rfl rfl (wo_boxA rfl rfl (by omega) fun h2 hn2 hb2 hg2 => ?_)
  have hb12 : h2.get h.n = some (.cells [av5, av7, .int .i64 a9]) := (hg2.get h.n (by omega)).trans hb1
  have hb22 : h2.get h1.n = some (.cells [bv5, bv7, .int .i64 b9]) := hb2
  have hs1 : seen c.vis h.n = true := hcx.new (Nat.le_refl _) (by omega)
  have hs2 : seen c.vis h1.n = true := hcx.new (by omega) (by omega)
  have hgA := hg1.trans hg2
  repeat' (first | refine z0 ?_ | refine z2 ?_ | refine zi ?_ | refine wg_nil ?_ | refine then_go ?_ | refine wc_seq ?_ | refine wc_reg ?_ | refine wc_ret ?_)
  · refine wo_call rfl rfl (R12Same_ev (d1 := Dt.row [.row [.arr a5], .arr a7, .int a9]) (d2 := Dt.row [.row [.arr b5], .arr b7, .int b9]) hall (hcx.mono (by omega)) (by omega) (Rp.grew hgA (rp_rowM (rpL_consM (rp_rowM (rpL_consM (rp_arrM al5 as5) rpL_nilM)) (rpL_consM (rp_arrM al7 as7) (rpL_consM rp_intM rpL_nilM))))) (Rp.grew hgA (rp_rowM (rpL_consM (rp_rowM (rpL_consM (rp_arrM bl5 bs5) rpL_nilM)) (rpL_consM (rp_arrM bl7 bs7) (rpL_consM rp_intM rpL_nilM))))) fun h5 hg5 hn5 => ?_)
    have hgl5 := hg5.le
    have hbx5 := (hg5.get h.n (by omega)).trans hb12
    have hby5 := (hg5.get h1.n (by omega)).trans hb22
    have hgX5 := hgA.trans hg5
    by_cases hX5 : Dt.row [.row [.arr a5], .arr a7, .int a9] = Dt.row [.row [.arr b5], .arr b7, .int b9]
    rotate_left
    · rw [decide_eq_false hX5]
      repeat' (first | refine z0 ?_ | refine z2 ?_ | refine zi ?_ | refine wg_nil ?_ | refine then_go ?_ | refine wc_seq ?_ | refine wc_reg ?_ | refine wc_ret ?_)
      exact ⟨Or.inr rfl, _, rfl, kf hX5 _ hgX5 (by omega)⟩
    rw [decide_eq_true hX5]
    repeat' (first | refine z0 ?_ | refine z2 ?_ | refine zi ?_ | refine wg_nil ?_ | refine then_go ?_ | refine wc_seq ?_ | refine wc_reg ?_ | refine wc_ret ?_)
    exact ⟨Or.inr rfl, _, rfl, kt hX5 _ hgX5 (by omega)⟩
  all_goals exact ⟨Or.inr rfl, _, rfl, kf (fun q => by simp only [Dt.row.injEq, List.cons.injEq, Dt.str.injEq, Dt.int.injEq, Dt.bool.injEq, Dt.arr.injEq, and_true, true_and, and_assoc] at q; obtain ⟨rfl, rfl, rfl⟩ := q; first | exact hc rfl | contradiction | omega) _ hgA (by omega)⟩
end Go.Proofs.YtaioinkajndjkaaGreatDoor.Ev