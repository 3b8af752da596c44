/- Comparisons of the reference. -/
import Derived.Test.YtaioinkajndjkaaGreatDoorInF
import Derived.Test.YtaioinkajndjkaaGreatDoorSyI
set_option linter.unusedVariables false
set_option linter.unusedSimpArgs false
/- Comparisons of the reference. -/
set_option maxHeartbeats 4000000
namespace Go.Proofs.YtaioinkajndjkaaGreatDoor.Ev
open Go
open Classical
variable {c : C} {h : H} {K : AV → H → Prop}
theorem R12SameFunc_ev (hall : ∀ id, id < 10000000 → seen c.vis id = true) {d1 d2 : Dt} {c1 c2 : List AV} (hcx : Cx c h) (hn : h.n + 202 < 10000000) (r1 : Rp 100 true h ShFunc d1 c1) (r2 : Rp 100 true h ShFunc d2 c2) (k : ∀ h', Grew h h' → h'.n ≤ h.n + 202 → K (.bool (decide (d1 = d2))) h') :
    Gv Tryz.prog X0 Mx c 44 [.agg c1, .agg c2] h K := by
  have hnt : (164 : Nat) ≤ 1000000 := by decide
  obtain ⟨a3, a5, a7, a9, a11, av11, a13, a15, av15, rfl, rfl, al11, as11, al15, as15⟩ := rpd_Func r1
  obtain ⟨b3, b5, b7, b9, b11, bv11, b13, b15, bv15, rfl, rfl, bl11, bs11, bl15, bs15⟩ := rpd_Func r2
  have kf : ¬ Dt.row [.str a3, .str a5, .bool a7, .int a9, .arr a11, .str a13, .arr a15] = Dt.row [.str b3, .str b5, .bool b7, .int b9, .arr b11, .str b13, .arr b15] → ∀ h', Grew h h' → h'.n ≤ h.n + 202 → K (.bool false) h' := fun q h' g1 g2 => by have := k h' g1 g2; rwa [decide_eq_false q] at this
  have kt : Dt.row [.str a3, .str a5, .bool a7, .int a9, .arr a11, .str a13, .arr a15] = Dt.row [.str b3, .str b5, .bool b7, .int b9, .arr b11, .str b13, .arr b15] → ∀ h', Grew h h' → h'.n ≤ h.n + 202 → K (.bool true) h' := fun q h' g1 g2 => by have := k h' g1 g2; rwa [decide_eq_true q] at this
  clear k r1 r2
  have hla0 := as11.le
  have hlb0 := bs11.le
  obtain ⟨ia0, ra0, oa0, Aa0, ea0, pa0⟩ := as11.out
  obtain ⟨ib0, rb0, ob0, Ab0, eb0, pb0⟩ := bs11.out
  have hza0 : (ShField : Sh).sz = 2 := rfl
  rw [hza0] at Aa0 Ab0
  have hla1 := as15.le
  have hlb1 := bs15.le
  obtain ⟨ia1, ra1, oa1, Aa1, ea1, pa1⟩ := as15.out
  obtain ⟨ib1, rb1, ob1, Ab1, eb1, pb1⟩ := bs15.out
  have hza1 : (ShInstr : Sh).sz = 10 := rfl
  rw [hza1] at Aa1 Ab1
  refine gv_fn x_R12SameFunc (Mx_no rfl _ _ _) (by simp) hnt ?_
  unfold s_R12SameFunc SR.g SR.o SR.p
  refine wc_seq (wc_reg (rg_go hnt rfl rfl (wo_boxA rfl rfl (by omega) fun h1 hn1 hb1 hg1 => ?_)))
  refine rg_go hnt rfl rfl (wo_boxA rfl rfl (by omega) fun h2 hn2 hb2 hg2 => ?_)
  have hb12 : h2.get h.n = some (.cells [.str a3, .str a5, .bool a7, .int .i64 a9, av11, .str a13, av15]) := (hg2.get h.n (by omega)).trans hb1
  have hb22 : h2.get h1.n = some (.cells [.str b3, .str b5, .bool b7, .int .i64 b9, bv11, .str b13, bv15]) := hb2
  have hs1 : seen c.vis h.n = true := hcx.new (Nat.le_refl _) (by omega)
  have hs2 : seen c.vis h1.n = true := hcx.new (by omega) (by omega)
  have hgA := hg1.trans hg2
  have Ba0 := Aa0.grew hgA
  have Bb0 := Ab0.grew hgA
  have Ba1 := Aa1.grew hgA
  have Bb1 := Ab1.grew hgA
  repeat' (first | refine z0 ?_ | refine z1 ?_ | refine z2 ?_ | refine z3 ?_ | refine z6 ?_ | refine z8 ?_ | refine za ?_ | refine zc ?_ | refine zd ?_ | refine ze ?_ | refine zh ?_ | refine zl ?_ | (refine zm ?_ ?_ <;> intro hc <;> try (exfalso; omega)) | (refine zq ?_ ?_ <;> intro hc <;> try (exfalso; omega)) | (refine zs ?_ ?_ <;> intro hc) | (refine zt ?_ ?_ <;> intro hc) | refine wg_nil ?_ | refine then_go ?_ | refine wc_seq ?_ | refine wc_reg ?_ | refine wc_dreg ?_ | refine wc_block ?_ | refine zu ?_ | refine zv ?_ | refine wc_skip ?_ | refine wc_exit ?_ | refine wc_ret ?_ | refine then_ret ?_ | refine then_exit ?_ | refine out_go ?_ | refine out_ret ?_ | refine zA ?_ | refine zw ?_ | refine zx ?_ | refine wd_nil ?_)
  · refine wc_loopE (ι := Nat) (fun j => [(2, .ptr h.n 0), (3, .ptr h1.n 0), (5, .int .i64 (j : Int))]) (fun j h' => h' = h2 ∧ j ≤ a11.length ∧ (a11 = b11 ↔ a11.drop j = b11.drop j)) (fun j => a11.length - j) ?_ 0 ⟨rfl, Nat.zero_le _, by simp⟩ (Sub'.cons rfl (Sub'.cons rfl (Sub'.cons rfl (Sub'.nil _))))
    rintro j h' ⟨hh, hj, hd⟩
    have hh2 : h2 = h' := hh.symm
    subst hh2
    have hll : a11.length = b11.length := by omega
    by_cases hlt : j < a11.length
    · have g1 : ra0[j]? = some (ra0[j]'(by omega)) := List.getElem?_eq_getElem (by omega)
      have g2 : rb0[j]? = some (rb0[j]'(by omega)) := List.getElem?_eq_getElem (by omega)
      have hid1 : ia0 < h.n := by
        rcases Aa0.at_ with ⟨q, _⟩ | ⟨_, _, q, _⟩
        · rw [q] at ea0; simp at ea0; omega
        · exact q
      have hid2 : ib0 < h.n := by
        rcases Ab0.at_ with ⟨q, _⟩ | ⟨_, _, q, _⟩
        · rw [q] at eb0; simp at eb0; omega
        · exact q
      have hs1' := hall ia0 (by omega)
      have hs2' := hall ib0 (by omega)
      have m1 : a11[j]? = some (a11.getD j (.int 0)) := by simp [hlt]
      have m2 : b11[j]? = some (b11.getD j (.int 0)) := by simp [show j < b11.length by omega]
      have t1 := pa0 j _ _ m1 g1
      have t2 := pb0 j _ _ m2 g2
      rw [drop_eq hlt (by omega)] at hd
      repeat' (first | refine z0 ?_ | refine z1 ?_ | refine z2 ?_ | refine z3 ?_ | refine z6 ?_ | refine z8 ?_ | refine za ?_ | refine zc ?_ | refine zd ?_ | refine ze ?_ | refine zh ?_ | refine zl ?_ | (refine zm ?_ ?_ <;> intro hc <;> try (exfalso; omega)) | (refine zq ?_ ?_ <;> intro hc <;> try (exfalso; omega)) | (refine zs ?_ ?_ <;> intro hc) | (refine zt ?_ ?_ <;> intro hc) | refine wg_nil ?_ | refine then_go ?_ | refine wc_seq ?_ | refine wc_reg ?_ | refine wc_dreg ?_ | refine wc_block ?_ | refine zu ?_ | refine zv ?_ | refine wc_skip ?_ | refine wc_exit ?_ | refine wc_ret ?_ | refine then_ret ?_ | refine then_exit ?_ | refine out_go ?_ | refine out_ret ?_ | refine zA ?_ | refine zw ?_ | refine zx ?_ | refine wd_nil ?_)
      refine wo_eqRow t1 t2 rfl rfl rfl ?_ ?_ <;> intro hX
      · repeat' (first | refine z0 ?_ | refine z1 ?_ | refine z2 ?_ | refine z3 ?_ | refine z6 ?_ | refine z8 ?_ | refine za ?_ | refine zc ?_ | refine zd ?_ | refine ze ?_ | refine zh ?_ | refine zl ?_ | (refine zm ?_ ?_ <;> intro hc <;> try (exfalso; omega)) | (refine zq ?_ ?_ <;> intro hc <;> try (exfalso; omega)) | (refine zs ?_ ?_ <;> intro hc) | (refine zt ?_ ?_ <;> intro hc) | refine wg_nil ?_ | refine then_go ?_ | refine wc_seq ?_ | refine wc_reg ?_ | refine wc_dreg ?_ | refine wc_block ?_ | refine zu ?_ | refine zv ?_ | refine wc_skip ?_ | refine wc_exit ?_ | refine wc_ret ?_ | refine then_ret ?_ | refine then_exit ?_ | refine out_go ?_ | refine out_ret ?_ | refine zA ?_ | refine zw ?_ | refine zx ?_ | refine wd_nil ?_)
        exact ⟨j + 1, by simp; omega, (Sub'.cons rfl (Sub'.cons rfl (Sub'.cons rfl (Sub'.nil _)))), rfl, hlt, by rw [hd]; exact ⟨fun q => q.2, fun q => ⟨hX, q⟩⟩⟩
      · repeat' (first | refine z0 ?_ | refine z1 ?_ | refine z2 ?_ | refine z3 ?_ | refine z6 ?_ | refine z8 ?_ | refine za ?_ | refine zc ?_ | refine zd ?_ | refine ze ?_ | refine zh ?_ | refine zl ?_ | (refine zm ?_ ?_ <;> intro hc <;> try (exfalso; omega)) | (refine zq ?_ ?_ <;> intro hc <;> try (exfalso; omega)) | (refine zs ?_ ?_ <;> intro hc) | (refine zt ?_ ?_ <;> intro hc) | refine wg_nil ?_ | refine then_go ?_ | refine wc_seq ?_ | refine wc_reg ?_ | refine wc_dreg ?_ | refine wc_block ?_ | refine zu ?_ | refine zv ?_ | refine wc_skip ?_ | refine wc_exit ?_ | refine wc_ret ?_ | refine then_ret ?_ | refine then_exit ?_ | refine out_go ?_ | refine out_ret ?_ | refine zA ?_ | refine zw ?_ | refine zx ?_ | refine wd_nil ?_)
        exact ⟨Or.inr rfl, _, rfl, kf (fun q => by simp only [Dt.row.injEq, List.cons.injEq, Dt.str.injEq, Dt.int.injEq, Dt.bool.injEq, Dt.arr.injEq, and_true, true_and, and_assoc] at q; obtain ⟨rfl, rfl, rfl, rfl, rfl, rfl, rfl⟩ := q; first | exact hX rfl | contradiction | omega) _ hgA (by omega)⟩
    · have hq0 := hd.2 (by rw [List.drop_eq_nil_of_le (by omega), List.drop_eq_nil_of_le (by omega)])
      repeat' (first | refine z0 ?_ | refine z1 ?_ | refine z2 ?_ | refine z3 ?_ | refine z6 ?_ | refine z8 ?_ | refine za ?_ | refine zc ?_ | refine zd ?_ | refine ze ?_ | refine zh ?_ | refine zl ?_ | (refine zm ?_ ?_ <;> intro hc <;> try (exfalso; omega)) | (refine zq ?_ ?_ <;> intro hc <;> try (exfalso; omega)) | (refine zs ?_ ?_ <;> intro hc) | (refine zt ?_ ?_ <;> intro hc) | refine wg_nil ?_ | refine then_go ?_ | refine wc_seq ?_ | refine wc_reg ?_ | refine wc_dreg ?_ | refine wc_block ?_ | refine zu ?_ | refine zv ?_ | refine wc_skip ?_ | refine wc_exit ?_ | refine wc_ret ?_ | refine then_ret ?_ | refine then_exit ?_ | refine out_go ?_ | refine out_ret ?_ | refine zA ?_ | refine zw ?_ | refine zx ?_ | refine wd_nil ?_)
      have hl100 : a15.length ≤ 100 := al15.resolve_right (by simp [Sh.cnt, cntL])
      refine wc_loopE (ι := Nat) (fun j => [(2, .ptr h.n 0), (3, .ptr h1.n 0), (6, .int .i64 (j : Int))]) (fun j h' => Grew h2 h' ∧ h'.n ≤ h2.n + 2 * j ∧ j ≤ a15.length ∧ (a15 = b15 ↔ a15.drop j = b15.drop j)) (fun j => a15.length - j) ?_ 0 ⟨Grew.refl _, by omega, Nat.zero_le _, by simp⟩ (Sub'.cons rfl (Sub'.cons rfl (Sub'.cons rfl (Sub'.nil _))))
      rintro j h' ⟨hgr, hle, hj, hd⟩
      have hgl := hgr.le
      have hll : a15.length = b15.length := by omega
      have hc12 := (hgr.get h.n (by omega)).trans hb12
      have hc22 := (hgr.get h1.n (by omega)).trans hb22
      have hgB := hgA.trans hgr
      have Ca := Aa1.grew hgB
      have Cb := Ab1.grew hgB
      have hlow := hcx.low
      by_cases hlt : j < a15.length
      · have g1 : ra1[j]? = some (ra1[j]'(by omega)) := List.getElem?_eq_getElem (by omega)
        have g2 : rb1[j]? = some (rb1[j]'(by omega)) := List.getElem?_eq_getElem (by omega)
        have hid1 : ia1 < h.n := by
          rcases Aa1.at_ with ⟨q, _⟩ | ⟨_, _, q, _⟩
          · rw [q] at ea1; simp at ea1; omega
          · exact q
        have hid2 : ib1 < h.n := by
          rcases Ab1.at_ with ⟨q, _⟩ | ⟨_, _, q, _⟩
          · rw [q] at eb1; simp at eb1; omega
          · exact q
        have hs1' := hall ia1 (by omega)
        have hs2' := hall ib1 (by omega)
        have m1 : a15[j]? = some (a15.getD j (.int 0)) := by simp [hlt]
        have m2 : b15[j]? = some (b15.getD j (.int 0)) := by simp [show j < b15.length by omega]
        have t1 := pa1 j _ _ m1 g1
        have t2 := pb1 j _ _ m2 g2
        rw [drop_eq hlt (by omega)] at hd
        generalize ra1[j]'(by omega) = w1 at g1 t1
        generalize rb1[j]'(by omega) = w2 at g2 t2
        generalize a15.getD j (.int 0) = e1 at hd m1 t1
        generalize b15.getD j (.int 0) = e2 at hd m2 t2
        have o1 := t1.ones
        have o2 := t2.ones
        obtain ⟨u3, u5, u7, u9, u11, u13, u15, u17, uv17, u19, u21, rfl, rfl, ul17, us17⟩ := rpd_Instr t1
        obtain ⟨v3, v5, v7, v9, v11, v13, v15, v17, vv17, v19, v21, rfl, rfl, vl17, vs17⟩ := rpd_Instr t2
        repeat' (first | refine z0 ?_ | refine z1 ?_ | refine z2 ?_ | refine z3 ?_ | refine z6 ?_ | refine z8 ?_ | refine za ?_ | refine zc ?_ | refine zd ?_ | refine ze ?_ | refine zh ?_ | refine zl ?_ | (refine zm ?_ ?_ <;> intro hc <;> try (exfalso; omega)) | (refine zq ?_ ?_ <;> intro hc <;> try (exfalso; omega)) | (refine zs ?_ ?_ <;> intro hc) | (refine zt ?_ ?_ <;> intro hc) | refine wg_nil ?_ | refine then_go ?_ | refine wc_seq ?_ | refine wc_reg ?_ | refine wc_dreg ?_ | refine wc_block ?_ | refine zu ?_ | refine zv ?_ | refine wc_skip ?_ | refine wc_exit ?_ | refine wc_ret ?_ | refine then_ret ?_ | refine then_exit ?_ | refine out_go ?_ | refine out_ret ?_ | refine zA ?_ | refine zw ?_ | refine zx ?_ | refine wd_nil ?_)
        obtain ⟨_, _, ⟨vsA, hgCa, _⟩, _⟩ := Ca.full (by omega)
        obtain ⟨_, _, ⟨vsB, hgCb, _⟩, _⟩ := Cb.full (by omega)
        refine rd_bs2 hnt rfl (by omega) (by omega) rfl rfl rfl rfl (by rfl) (by rfl) (by rfl) (by rfl) (by rfl) (by rfl) (by exact o1) (by exact o2) (by decide) (by decide) (fun p g1 g2 k1 k2 => by repeat (first | exact unchF_nil | refine unchF_same ((k1 _ (by omega)).trans (by assumption)) ((k2 _ (by omega)).trans (by assumption)) ?_)) fun h3 hn3 hb3 hb4 hg3 => ?_
        clear hgCa hgCb
        have hgC := hgB.trans hg3
        have hs3 : seen c.vis h'.n = true := hcx.new (by omega) (by omega)
        have hs4 : seen c.vis (h'.n + 1) = true := hcx.new (by omega) (by omega)
        repeat' (first | refine z0 ?_ | refine z1 ?_ | refine z2 ?_ | refine z3 ?_ | refine z6 ?_ | refine z8 ?_ | refine za ?_ | refine zc ?_ | refine zd ?_ | refine ze ?_ | refine zh ?_ | refine zl ?_ | (refine zm ?_ ?_ <;> intro hc <;> try (exfalso; omega)) | (refine zq ?_ ?_ <;> intro hc <;> try (exfalso; omega)) | (refine zs ?_ ?_ <;> intro hc) | (refine zt ?_ ?_ <;> intro hc) | refine wg_nil ?_ | refine then_go ?_ | refine wc_seq ?_ | refine wc_reg ?_ | refine wc_dreg ?_ | refine wc_block ?_ | refine zu ?_ | refine zv ?_ | refine wc_skip ?_ | refine wc_exit ?_ | refine wc_ret ?_ | refine then_ret ?_ | refine then_exit ?_ | refine out_go ?_ | refine out_ret ?_ | refine zA ?_ | refine zw ?_ | refine zx ?_ | refine wd_nil ?_)
        · refine wo_call rfl rfl (R12SameInts_ev (hcx.mono (by omega)) (us17.grew hgC) (vs17.grew hgC) (fun id q => hall id (by omega)) (by omega) ?_)
          by_cases hX : u17 = v17
          · rw [decide_eq_true hX]
            repeat' (first | refine z0 ?_ | refine z1 ?_ | refine z2 ?_ | refine z3 ?_ | refine z6 ?_ | refine z8 ?_ | refine za ?_ | refine zc ?_ | refine zd ?_ | refine ze ?_ | refine zh ?_ | refine zl ?_ | (refine zm ?_ ?_ <;> intro hc <;> try (exfalso; omega)) | (refine zq ?_ ?_ <;> intro hc <;> try (exfalso; omega)) | (refine zs ?_ ?_ <;> intro hc) | (refine zt ?_ ?_ <;> intro hc) | refine wg_nil ?_ | refine then_go ?_ | refine wc_seq ?_ | refine wc_reg ?_ | refine wc_dreg ?_ | refine wc_block ?_ | refine zu ?_ | refine zv ?_ | refine wc_skip ?_ | refine wc_exit ?_ | refine wc_ret ?_ | refine then_ret ?_ | refine then_exit ?_ | refine out_go ?_ | refine out_ret ?_ | refine zA ?_ | refine zw ?_ | refine zx ?_ | refine wd_nil ?_)
            exact ⟨j + 1, by simp; omega, (Sub'.cons rfl (Sub'.cons rfl (Sub'.cons rfl (Sub'.nil _)))), hgr.trans hg3, by omega, hlt, by rw [hd]; exact ⟨fun q => q.2, fun q => ⟨by congr <;> assumption, q⟩⟩⟩
          · rw [decide_eq_false hX]
            repeat' (first | refine z0 ?_ | refine z1 ?_ | refine z2 ?_ | refine z3 ?_ | refine z6 ?_ | refine z8 ?_ | refine za ?_ | refine zc ?_ | refine zd ?_ | refine ze ?_ | refine zh ?_ | refine zl ?_ | (refine zm ?_ ?_ <;> intro hc <;> try (exfalso; omega)) | (refine zq ?_ ?_ <;> intro hc <;> try (exfalso; omega)) | (refine zs ?_ ?_ <;> intro hc) | (refine zt ?_ ?_ <;> intro hc) | refine wg_nil ?_ | refine then_go ?_ | refine wc_seq ?_ | refine wc_reg ?_ | refine wc_dreg ?_ | refine wc_block ?_ | refine zu ?_ | refine zv ?_ | refine wc_skip ?_ | refine wc_exit ?_ | refine wc_ret ?_ | refine then_ret ?_ | refine then_exit ?_ | refine out_go ?_ | refine out_ret ?_ | refine zA ?_ | refine zw ?_ | refine zx ?_ | refine wd_nil ?_)
            exact ⟨Or.inr rfl, _, rfl, kf (fun q => by simp only [Dt.row.injEq, List.cons.injEq, Dt.str.injEq, Dt.int.injEq, Dt.bool.injEq, Dt.arr.injEq, and_true, true_and, and_assoc] at q; obtain ⟨rfl, rfl, rfl, rfl, rfl, rfl, rfl⟩ := q; have q := (hd.1 rfl).1; simp only [Dt.row.injEq, List.cons.injEq, Dt.str.injEq, Dt.int.injEq, Dt.bool.injEq, Dt.arr.injEq, and_true, true_and, and_assoc] at q; obtain ⟨rfl, rfl, rfl, rfl, rfl, rfl, rfl, rfl, rfl, rfl⟩ := q; first | exact hX rfl | contradiction | omega) _ (hgB.trans hg3) (by omega)⟩
        all_goals exact ⟨Or.inr rfl, _, rfl, kf (fun q => by simp only [Dt.row.injEq, List.cons.injEq, Dt.str.injEq, Dt.int.injEq, Dt.bool.injEq, Dt.arr.injEq, and_true, true_and, and_assoc] at q; obtain ⟨rfl, rfl, rfl, rfl, rfl, rfl, rfl⟩ := q; have q := (hd.1 rfl).1; simp only [Dt.row.injEq, List.cons.injEq, Dt.str.injEq, Dt.int.injEq, Dt.bool.injEq, Dt.arr.injEq, and_true, true_and, and_assoc] at q; obtain ⟨rfl, rfl, rfl, rfl, rfl, rfl, rfl, rfl, rfl, rfl⟩ := q; first | exact hX rfl | contradiction | omega) _ (hgB.trans hg3) (by omega)⟩
      · have hq1 := hd.2 (by rw [List.drop_eq_nil_of_le (by omega), List.drop_eq_nil_of_le (by omega)])
        repeat' (first | refine z0 ?_ | refine z1 ?_ | refine z2 ?_ | refine z3 ?_ | refine z6 ?_ | refine z8 ?_ | refine za ?_ | refine zc ?_ | refine zd ?_ | refine ze ?_ | refine zh ?_ | refine zl ?_ | (refine zm ?_ ?_ <;> intro hc <;> try (exfalso; omega)) | (refine zq ?_ ?_ <;> intro hc <;> try (exfalso; omega)) | (refine zs ?_ ?_ <;> intro hc) | (refine zt ?_ ?_ <;> intro hc) | refine wg_nil ?_ | refine then_go ?_ | refine wc_seq ?_ | refine wc_reg ?_ | refine wc_dreg ?_ | refine wc_block ?_ | refine zu ?_ | refine zv ?_ | refine wc_skip ?_ | refine wc_exit ?_ | refine wc_ret ?_ | refine then_ret ?_ | refine then_exit ?_ | refine out_go ?_ | refine out_ret ?_ | refine zA ?_ | refine zw ?_ | refine zx ?_ | refine wd_nil ?_)
        exact ⟨Or.inr rfl, _, rfl, kt (by congr <;> assumption) _ hgB (by omega)⟩
  all_goals exact ⟨Or.inr rfl, _, rfl, kf (fun q => by simp only [Dt.row.injEq, List.cons.injEq, Dt.str.injEq, Dt.int.injEq, Dt.bool.injEq, Dt.arr.injEq, and_true, true_and, and_assoc] at q; obtain ⟨rfl, rfl, rfl, rfl, rfl, rfl, rfl⟩ := q; first | exact hc rfl | contradiction | omega) _ hgA (by omega)⟩
end Go.Proofs.YtaioinkajndjkaaGreatDoor.Ev
/- Comparisons of the reference. -/
set_option maxHeartbeats 4000000
namespace Go.Proofs.YtaioinkajndjkaaGreatDoor.Ev
open Go
open Classical
variable {c : C} {h : H} {K : AV → H → Prop}
theorem policies_ev (hall : ∀ id, id < 10000000 → seen c.vis id = true) {d1 d2 : Dt} {c1 c2 : List AV} (hcx : Cx c h) (hn : h.n + 602 < 10000000) (r1 : Rp 100 true h ShPolicy d1 c1) (r2 : Rp 100 true h ShPolicy d2 c2) (k : ∀ h', Grew h h' → h'.n ≤ h.n + 602 → K (.bool (decide (d1 = d2))) h') :
    Gv Tryz.prog X0 Mx c 17 [.agg c1, .agg c2] h K := by
  have hnt : (95 : Nat) ≤ 1000000 := by decide
  obtain ⟨a3, av3, a5, av5, rfl, rfl, al3, as3, al5, as5⟩ := rpd_Policy r1
  obtain ⟨b3, bv3, b5, bv5, rfl, rfl, bl3, bs3, bl5, bs5⟩ := rpd_Policy r2
  have kf : ¬ Dt.row [.arr a3, .arr a5] = Dt.row [.arr b3, .arr b5] → ∀ h', Grew h h' → h'.n ≤ h.n + 602 → K (.bool false) h' := fun q h' g1 g2 => by have := k h' g1 g2; rwa [decide_eq_false q] at this
  have kt : Dt.row [.arr a3, .arr a5] = Dt.row [.arr b3, .arr b5] → ∀ h', Grew h h' → h'.n ≤ h.n + 602 → K (.bool true) h' := fun q h' g1 g2 => by have := k h' g1 g2; rwa [decide_eq_true q] at this
  clear k r1 r2
  have hla0 := as3.le
  have hlb0 := bs3.le
  obtain ⟨ia0, ra0, oa0, Aa0, ea0, pa0⟩ := as3.out
  obtain ⟨ib0, rb0, ob0, Ab0, eb0, pb0⟩ := bs3.out
  have hza0 : (ShRule : Sh).sz = 8 := rfl
  rw [hza0] at Aa0 Ab0
  have hla1 := as5.le
  have hlb1 := bs5.le
  obtain ⟨ia1, ra1, oa1, Aa1, ea1, pa1⟩ := as5.out
  obtain ⟨ib1, rb1, ob1, Ab1, eb1, pb1⟩ := bs5.out
  have hza1 : (ShProto : Sh).sz = 5 := rfl
  rw [hza1] at Aa1 Ab1
  refine gv_fn x_policies (Mx_no rfl _ _ _) (by simp) hnt ?_
  unfold s_policies SR.g SR.o SR.p
  refine wc_seq (wc_reg (rg_go hnt rfl rfl (wo_boxA rfl rfl (by omega) fun h1 hn1 hb1 hg1 => ?_)))
  refine rg_go hnt rfl rfl (wo_boxA rfl rfl (by omega) fun h2 hn2 hb2 hg2 => ?_)
  have hb12 : h2.get h.n = some (.cells [av3, av5]) := (hg2.get h.n (by omega)).trans hb1
  have hb22 : h2.get h1.n = some (.cells [bv3, bv5]) := hb2
  have hs1 : seen c.vis h.n = true := hcx.new (Nat.le_refl _) (by omega)
  have hs2 : seen c.vis h1.n = true := hcx.new (by omega) (by omega)
  have hgA := hg1.trans hg2
  have Ba0 := Aa0.grew hgA
  have Bb0 := Ab0.grew hgA
  have Ba1 := Aa1.grew hgA
  have Bb1 := Ab1.grew hgA
  repeat' (first | refine z0 ?_ | refine z1 ?_ | refine z2 ?_ | refine z3 ?_ | refine z6 ?_ | refine z8 ?_ | refine za ?_ | refine zc ?_ | refine zd ?_ | refine ze ?_ | refine zh ?_ | refine zi ?_ | refine zl ?_ | (refine zm ?_ ?_ <;> intro hc <;> try (exfalso; omega)) | (refine zq ?_ ?_ <;> intro hc <;> try (exfalso; omega)) | (refine zs ?_ ?_ <;> intro hc) | refine wg_nil ?_ | refine then_go ?_ | refine wc_seq ?_ | refine wc_reg ?_ | refine wc_dreg ?_ | refine wc_block ?_ | refine zu ?_ | refine zv ?_ | refine wc_skip ?_ | refine wc_exit ?_ | refine wc_ret ?_ | refine then_ret ?_ | refine then_exit ?_ | refine out_go ?_ | refine out_ret ?_ | refine zA ?_ | refine zw ?_ | refine zx ?_ | refine wd_nil ?_)
  · have hl100_0 : a3.length ≤ 100 := al3.resolve_right (by simp [Sh.cnt, cntL])
    refine wc_loopE (ι := Nat) (fun j => [(2, .ptr h.n 0), (3, .ptr h1.n 0), (5, .int .i64 (j : Int))]) (fun j h' => Grew h2 h' ∧ h'.n ≤ h2.n + 0 + 4 * j ∧ j ≤ a3.length ∧ (a3 = b3 ↔ a3.drop j = b3.drop j)) (fun j => a3.length - j) ?_ 0 ⟨Grew.refl _, by omega, Nat.zero_le _, by simp⟩ (Sub'.cons rfl (Sub'.cons rfl (Sub'.cons rfl (Sub'.nil _))))
    rintro j h0' ⟨hgr0, hle0, hj, hd⟩
    have hgl0 := hgr0.le
    have hll : a3.length = b3.length := by omega
    have hc12 := (hgr0.get h.n (by omega)).trans hb12
    have hc22 := (hgr0.get h1.n (by omega)).trans hb22
    have hgB0 := hgA.trans hgr0
    have Ca := Aa0.grew hgB0
    have Cb := Ab0.grew hgB0
    have hlow := hcx.low
    by_cases hlt : j < a3.length
    · have g1 : ra0[j]? = some (ra0[j]'(by omega)) := List.getElem?_eq_getElem (by omega)
      have g2 : rb0[j]? = some (rb0[j]'(by omega)) := List.getElem?_eq_getElem (by omega)
      have hid1 : ia0 < h.n := by
        rcases Aa0.at_ with ⟨q, _⟩ | ⟨_, _, q, _⟩
        · rw [q] at ea0; simp at ea0; omega
        · exact q
      have hid2 : ib0 < h.n := by
        rcases Ab0.at_ with ⟨q, _⟩ | ⟨_, _, q, _⟩
        · rw [q] at eb0; simp at eb0; omega
        · exact q
      have hs1' := hall ia0 (by omega)
      have hs2' := hall ib0 (by omega)
      have m1 : a3[j]? = some (a3.getD j (.int 0)) := by simp [hlt]
      have m2 : b3[j]? = some (b3.getD j (.int 0)) := by simp [show j < b3.length by omega]
      have t1 := pa0 j _ _ m1 g1
      have t2 := pb0 j _ _ m2 g2
      rw [drop_eq hlt (by omega)] at hd
      generalize ra0[j]'(by omega) = w1 at g1 t1
      generalize rb0[j]'(by omega) = w2 at g2 t2
      generalize a3.getD j (.int 0) = e1 at hd m1 t1
      generalize b3.getD j (.int 0) = e2 at hd m2 t2
      have o1 := t1.ones
      have o2 := t2.ones
      obtain ⟨u3, u5, u7, u11, u13, u15, uv15, u17, u19, rfl, rfl, ul15, us15⟩ := rpd_Rule t1
      obtain ⟨v3, v5, v7, v11, v13, v15, vv15, v17, v19, rfl, rfl, vl15, vs15⟩ := rpd_Rule t2
      repeat' (first | refine z0 ?_ | refine z1 ?_ | refine z2 ?_ | refine z3 ?_ | refine z6 ?_ | refine z8 ?_ | refine za ?_ | refine zc ?_ | refine zd ?_ | refine ze ?_ | refine zh ?_ | refine zi ?_ | refine zl ?_ | (refine zm ?_ ?_ <;> intro hc <;> try (exfalso; omega)) | (refine zq ?_ ?_ <;> intro hc <;> try (exfalso; omega)) | (refine zs ?_ ?_ <;> intro hc) | refine wg_nil ?_ | refine then_go ?_ | refine wc_seq ?_ | refine wc_reg ?_ | refine wc_dreg ?_ | refine wc_block ?_ | refine zu ?_ | refine zv ?_ | refine wc_skip ?_ | refine wc_exit ?_ | refine wc_ret ?_ | refine then_ret ?_ | refine then_exit ?_ | refine out_go ?_ | refine out_ret ?_ | refine zA ?_ | refine zw ?_ | refine zx ?_ | refine wd_nil ?_)
      refine rg_bs hnt (hcx.mono (by omega)) (by omega) rfl rfl rfl rfl (by rfl) (by exact o1) fun h3 hn3 hb3 hg3 => ?_
      have Cb3 := Cb.grew hg3
      have hc32 := (hg3.get h1.n (by omega)).trans hc22
      have hs3 : seen c.vis h0'.n = true := hcx.new (by omega) (by omega)
      repeat' (first | refine z0 ?_ | refine z1 ?_ | refine z2 ?_ | refine z3 ?_ | refine z6 ?_ | refine z8 ?_ | refine za ?_ | refine zc ?_ | refine zd ?_ | refine ze ?_ | refine zh ?_ | refine zi ?_ | refine zl ?_ | (refine zm ?_ ?_ <;> intro hc <;> try (exfalso; omega)) | (refine zq ?_ ?_ <;> intro hc <;> try (exfalso; omega)) | (refine zs ?_ ?_ <;> intro hc) | refine wg_nil ?_ | refine then_go ?_ | refine wc_seq ?_ | refine wc_reg ?_ | refine wc_dreg ?_ | refine wc_block ?_ | refine zu ?_ | refine zv ?_ | refine wc_skip ?_ | refine wc_exit ?_ | refine wc_ret ?_ | refine then_ret ?_ | refine then_exit ?_ | refine out_go ?_ | refine out_ret ?_ | refine zA ?_ | refine zw ?_ | refine zx ?_ | refine wd_nil ?_)
      refine rg_bs hnt (hcx.mono (by omega)) (by omega) rfl rfl rfl rfl (by rfl) (by exact o2) fun h4 hn4 hb4 hg4 => ?_
      have hb34 := (hg4.get h0'.n (by omega)).trans hb3
      have hs4 : seen c.vis h3.n = true := hcx.new (by omega) (by omega)
      have hgC := hgB0.trans (hg3.trans hg4)
      repeat' (first | refine z0 ?_ | refine z1 ?_ | refine z2 ?_ | refine z3 ?_ | refine z6 ?_ | refine z8 ?_ | refine za ?_ | refine zc ?_ | refine zd ?_ | refine ze ?_ | refine zh ?_ | refine zi ?_ | refine zl ?_ | (refine zm ?_ ?_ <;> intro hc <;> try (exfalso; omega)) | (refine zq ?_ ?_ <;> intro hc <;> try (exfalso; omega)) | (refine zs ?_ ?_ <;> intro hc) | refine wg_nil ?_ | refine then_go ?_ | refine wc_seq ?_ | refine wc_reg ?_ | refine wc_dreg ?_ | refine wc_block ?_ | refine zu ?_ | refine zv ?_ | refine wc_skip ?_ | refine wc_exit ?_ | refine wc_ret ?_ | refine then_ret ?_ | refine then_exit ?_ | refine out_go ?_ | refine out_ret ?_ | refine zA ?_ | refine zw ?_ | refine zx ?_ | refine wd_nil ?_)
      · refine wo_call rfl rfl (paths_ev (d1 := Dt.row [.int u11, .int u13, .arr u15, .bool u17]) (d2 := Dt.row [.int v11, .int v13, .arr v15, .bool v17]) hall (hcx.mono (by omega)) (by omega) (Rp.grew hgC (rp_rowM (rpL_consM rp_intM (rpL_consM rp_intM (rpL_consM (rp_arrM ul15 us15) (rpL_consM rp_boolM rpL_nilM)))))) (Rp.grew hgC (rp_rowM (rpL_consM rp_intM (rpL_consM rp_intM (rpL_consM (rp_arrM vl15 vs15) (rpL_consM rp_boolM rpL_nilM)))))) fun h5 hg5 hn5 => ?_)
        have hgl5 := hg5.le
        by_cases hX : Dt.row [.int u11, .int u13, .arr u15, .bool u17] = Dt.row [.int v11, .int v13, .arr v15, .bool v17]
        · rw [decide_eq_true hX]
          repeat' (first | refine z0 ?_ | refine z1 ?_ | refine z2 ?_ | refine z3 ?_ | refine z6 ?_ | refine z8 ?_ | refine za ?_ | refine zc ?_ | refine zd ?_ | refine ze ?_ | refine zh ?_ | refine zi ?_ | refine zl ?_ | (refine zm ?_ ?_ <;> intro hc <;> try (exfalso; omega)) | (refine zq ?_ ?_ <;> intro hc <;> try (exfalso; omega)) | (refine zs ?_ ?_ <;> intro hc) | refine wg_nil ?_ | refine then_go ?_ | refine wc_seq ?_ | refine wc_reg ?_ | refine wc_dreg ?_ | refine wc_block ?_ | refine zu ?_ | refine zv ?_ | refine wc_skip ?_ | refine wc_exit ?_ | refine wc_ret ?_ | refine then_ret ?_ | refine then_exit ?_ | refine out_go ?_ | refine out_ret ?_ | refine zA ?_ | refine zw ?_ | refine zx ?_ | refine wd_nil ?_)
          simp only [Dt.row.injEq, List.cons.injEq, Dt.str.injEq, Dt.int.injEq, Dt.bool.injEq, Dt.arr.injEq, and_true, true_and, and_assoc] at hX
          exact ⟨j + 1, by simp; omega, (Sub'.cons rfl (Sub'.cons rfl (Sub'.cons rfl (Sub'.nil _)))), hgr0.trans ((hg3.trans hg4).trans hg5), by omega, hlt, by rw [hd]; exact ⟨fun q => q.2, fun q => ⟨by obtain ⟨x0, x1, x2, x3⟩ := hX; congr <;> assumption, q⟩⟩⟩
        · rw [decide_eq_false hX]
          repeat' (first | refine z0 ?_ | refine z1 ?_ | refine z2 ?_ | refine z3 ?_ | refine z6 ?_ | refine z8 ?_ | refine za ?_ | refine zc ?_ | refine zd ?_ | refine ze ?_ | refine zh ?_ | refine zi ?_ | refine zl ?_ | (refine zm ?_ ?_ <;> intro hc <;> try (exfalso; omega)) | (refine zq ?_ ?_ <;> intro hc <;> try (exfalso; omega)) | (refine zs ?_ ?_ <;> intro hc) | refine wg_nil ?_ | refine then_go ?_ | refine wc_seq ?_ | refine wc_reg ?_ | refine wc_dreg ?_ | refine wc_block ?_ | refine zu ?_ | refine zv ?_ | refine wc_skip ?_ | refine wc_exit ?_ | refine wc_ret ?_ | refine then_ret ?_ | refine then_exit ?_ | refine out_go ?_ | refine out_ret ?_ | refine zA ?_ | refine zw ?_ | refine zx ?_ | refine wd_nil ?_)
          exact ⟨Or.inr rfl, _, rfl, kf (fun q => by simp only [Dt.row.injEq, List.cons.injEq, Dt.str.injEq, Dt.int.injEq, Dt.bool.injEq, Dt.arr.injEq, and_true, true_and, and_assoc] at q; obtain ⟨rfl, rfl⟩ := q; have q := (hd.1 rfl).1; simp only [Dt.row.injEq, List.cons.injEq, Dt.str.injEq, Dt.int.injEq, Dt.bool.injEq, Dt.arr.injEq, and_true, true_and, and_assoc] at q; obtain ⟨rfl, rfl, rfl, rfl, rfl, rfl, rfl, rfl⟩ := q; first | exact hX rfl | contradiction | omega) _ (hgC.trans hg5) (by omega)⟩
      all_goals exact ⟨Or.inr rfl, _, rfl, kf (fun q => by simp only [Dt.row.injEq, List.cons.injEq, Dt.str.injEq, Dt.int.injEq, Dt.bool.injEq, Dt.arr.injEq, and_true, true_and, and_assoc] at q; obtain ⟨rfl, rfl⟩ := q; have q := (hd.1 rfl).1; simp only [Dt.row.injEq, List.cons.injEq, Dt.str.injEq, Dt.int.injEq, Dt.bool.injEq, Dt.arr.injEq, and_true, true_and, and_assoc] at q; obtain ⟨rfl, rfl, rfl, rfl, rfl, rfl, rfl, rfl⟩ := q; first | exact hX rfl | contradiction | omega) _ (hgB0.trans (hg3.trans hg4)) (by omega)⟩
    · have hq0 := hd.2 (by rw [List.drop_eq_nil_of_le (by omega), List.drop_eq_nil_of_le (by omega)])
      repeat' (first | refine z0 ?_ | refine z1 ?_ | refine z2 ?_ | refine z3 ?_ | refine z6 ?_ | refine z8 ?_ | refine za ?_ | refine zc ?_ | refine zd ?_ | refine ze ?_ | refine zh ?_ | refine zi ?_ | refine zl ?_ | (refine zm ?_ ?_ <;> intro hc <;> try (exfalso; omega)) | (refine zq ?_ ?_ <;> intro hc <;> try (exfalso; omega)) | (refine zs ?_ ?_ <;> intro hc) | refine wg_nil ?_ | refine then_go ?_ | refine wc_seq ?_ | refine wc_reg ?_ | refine wc_dreg ?_ | refine wc_block ?_ | refine zu ?_ | refine zv ?_ | refine wc_skip ?_ | refine wc_exit ?_ | refine wc_ret ?_ | refine then_ret ?_ | refine then_exit ?_ | refine out_go ?_ | refine out_ret ?_ | refine zA ?_ | refine zw ?_ | refine zx ?_ | refine wd_nil ?_)
      have hl100_1 : a5.length ≤ 100 := al5.resolve_right (by simp [Sh.cnt, cntL])
      refine wc_loopE (ι := Nat) (fun j => [(2, .ptr h.n 0), (3, .ptr h1.n 0), (8, .int .i64 (j : Int))]) (fun j h' => Grew h2 h' ∧ h'.n ≤ h2.n + 400 + 2 * j ∧ j ≤ a5.length ∧ (a5 = b5 ↔ a5.drop j = b5.drop j)) (fun j => a5.length - j) ?_ 0 ⟨hgr0, by omega, Nat.zero_le _, by simp⟩ (Sub'.cons rfl (Sub'.cons rfl (Sub'.cons rfl (Sub'.nil _))))
      rintro j h1' ⟨hgr1, hle1, hj, hd⟩
      have hgl1 := hgr1.le
      have hll : a5.length = b5.length := by omega
      have hc12 := (hgr1.get h.n (by omega)).trans hb12
      have hc22 := (hgr1.get h1.n (by omega)).trans hb22
      have hgB1 := hgA.trans hgr1
      have Ca := Aa1.grew hgB1
      have Cb := Ab1.grew hgB1
      have hlow := hcx.low
      by_cases hlt : j < a5.length
      · have g1 : ra1[j]? = some (ra1[j]'(by omega)) := List.getElem?_eq_getElem (by omega)
        have g2 : rb1[j]? = some (rb1[j]'(by omega)) := List.getElem?_eq_getElem (by omega)
        have hid1 : ia1 < h.n := by
          rcases Aa1.at_ with ⟨q, _⟩ | ⟨_, _, q, _⟩
          · rw [q] at ea1; simp at ea1; omega
          · exact q
        have hid2 : ib1 < h.n := by
          rcases Ab1.at_ with ⟨q, _⟩ | ⟨_, _, q, _⟩
          · rw [q] at eb1; simp at eb1; omega
          · exact q
        have hs1' := hall ia1 (by omega)
        have hs2' := hall ib1 (by omega)
        have m1 : a5[j]? = some (a5.getD j (.int 0)) := by simp [hlt]
        have m2 : b5[j]? = some (b5.getD j (.int 0)) := by simp [show j < b5.length by omega]
        have t1 := pa1 j _ _ m1 g1
        have t2 := pb1 j _ _ m2 g2
        rw [drop_eq hlt (by omega)] at hd
        generalize ra1[j]'(by omega) = w1 at g1 t1
        generalize rb1[j]'(by omega) = w2 at g2 t2
        generalize a5.getD j (.int 0) = e1 at hd m1 t1
        generalize b5.getD j (.int 0) = e2 at hd m2 t2
        repeat' (first | refine z0 ?_ | refine z1 ?_ | refine z2 ?_ | refine z3 ?_ | refine z6 ?_ | refine z8 ?_ | refine za ?_ | refine zc ?_ | refine zd ?_ | refine ze ?_ | refine zh ?_ | refine zi ?_ | refine zl ?_ | (refine zm ?_ ?_ <;> intro hc <;> try (exfalso; omega)) | (refine zq ?_ ?_ <;> intro hc <;> try (exfalso; omega)) | (refine zs ?_ ?_ <;> intro hc) | refine wg_nil ?_ | refine then_go ?_ | refine wc_seq ?_ | refine wc_reg ?_ | refine wc_dreg ?_ | refine wc_block ?_ | refine zu ?_ | refine zv ?_ | refine wc_skip ?_ | refine wc_exit ?_ | refine wc_ret ?_ | refine then_ret ?_ | refine then_exit ?_ | refine out_go ?_ | refine out_ret ?_ | refine zA ?_ | refine zw ?_ | refine zx ?_ | refine wd_nil ?_)
        refine rd_bar hnt rfl rfl (wo_call rfl rfl (protocols_ev (fun id q => by by_cases z : id < h1'.n; exact seen_old (by repeat (first | exact rs_nil | refine rs_add (by omega) ?_)) (by omega) z (hall id q); exact seen_here (by omega) (by unfold big; omega)) (Cx.mem (by omega)) (by omega) (Rp.grew hgB1 t1) (Rp.grew hgB1 t2) fun h3 hg3 hn3 => ⟨(by repeat (first | exact unchF_nil | refine unchF_cons (by decide) ?_)), ?_⟩))
        have hgl3 := hg3.le
        by_cases hX : e1 = e2
        · rw [decide_eq_true hX]
          repeat' (first | refine z0 ?_ | refine z1 ?_ | refine z2 ?_ | refine z3 ?_ | refine z6 ?_ | refine z8 ?_ | refine za ?_ | refine zc ?_ | refine zd ?_ | refine ze ?_ | refine zh ?_ | refine zi ?_ | refine zl ?_ | (refine zm ?_ ?_ <;> intro hc <;> try (exfalso; omega)) | (refine zq ?_ ?_ <;> intro hc <;> try (exfalso; omega)) | (refine zs ?_ ?_ <;> intro hc) | refine wg_nil ?_ | refine then_go ?_ | refine wc_seq ?_ | refine wc_reg ?_ | refine wc_dreg ?_ | refine wc_block ?_ | refine zu ?_ | refine zv ?_ | refine wc_skip ?_ | refine wc_exit ?_ | refine wc_ret ?_ | refine then_ret ?_ | refine then_exit ?_ | refine out_go ?_ | refine out_ret ?_ | refine zA ?_ | refine zw ?_ | refine zx ?_ | refine wd_nil ?_)
          exact ⟨j + 1, by simp; omega, (Sub'.cons rfl (Sub'.cons rfl (Sub'.cons rfl (Sub'.nil _)))), hgr1.trans hg3, by omega, hlt, by rw [hd]; exact ⟨fun q => q.2, fun q => ⟨hX, q⟩⟩⟩
        · rw [decide_eq_false hX]
          repeat' (first | refine z0 ?_ | refine z1 ?_ | refine z2 ?_ | refine z3 ?_ | refine z6 ?_ | refine z8 ?_ | refine za ?_ | refine zc ?_ | refine zd ?_ | refine ze ?_ | refine zh ?_ | refine zi ?_ | refine zl ?_ | (refine zm ?_ ?_ <;> intro hc <;> try (exfalso; omega)) | (refine zq ?_ ?_ <;> intro hc <;> try (exfalso; omega)) | (refine zs ?_ ?_ <;> intro hc) | refine wg_nil ?_ | refine then_go ?_ | refine wc_seq ?_ | refine wc_reg ?_ | refine wc_dreg ?_ | refine wc_block ?_ | refine zu ?_ | refine zv ?_ | refine wc_skip ?_ | refine wc_exit ?_ | refine wc_ret ?_ | refine then_ret ?_ | refine then_exit ?_ | refine out_go ?_ | refine out_ret ?_ | refine zA ?_ | refine zw ?_ | refine zx ?_ | refine wd_nil ?_)
          exact ⟨Or.inr rfl, _, rfl, kf (fun q => by simp only [Dt.row.injEq, List.cons.injEq, Dt.str.injEq, Dt.int.injEq, Dt.bool.injEq, Dt.arr.injEq, and_true, true_and, and_assoc] at q; obtain ⟨rfl, rfl⟩ := q; exact hX (hd.1 rfl).1) _ (hgB1.trans hg3) (by omega)⟩
      · have hq1 := hd.2 (by rw [List.drop_eq_nil_of_le (by omega), List.drop_eq_nil_of_le (by omega)])
        repeat' (first | refine z0 ?_ | refine z1 ?_ | refine z2 ?_ | refine z3 ?_ | refine z6 ?_ | refine z8 ?_ | refine za ?_ | refine zc ?_ | refine zd ?_ | refine ze ?_ | refine zh ?_ | refine zi ?_ | refine zl ?_ | (refine zm ?_ ?_ <;> intro hc <;> try (exfalso; omega)) | (refine zq ?_ ?_ <;> intro hc <;> try (exfalso; omega)) | (refine zs ?_ ?_ <;> intro hc) | refine wg_nil ?_ | refine then_go ?_ | refine wc_seq ?_ | refine wc_reg ?_ | refine wc_dreg ?_ | refine wc_block ?_ | refine zu ?_ | refine zv ?_ | refine wc_skip ?_ | refine wc_exit ?_ | refine wc_ret ?_ | refine then_ret ?_ | refine then_exit ?_ | refine out_go ?_ | refine out_ret ?_ | refine zA ?_ | refine zw ?_ | refine zx ?_ | refine wd_nil ?_)
        exact ⟨Or.inr rfl, _, rfl, kt (by congr <;> assumption) _ hgB1 (by omega)⟩
  all_goals exact ⟨Or.inr rfl, _, rfl, kf (fun q => by simp only [Dt.row.injEq, List.cons.injEq, Dt.str.injEq, Dt.int.injEq, Dt.bool.injEq, Dt.arr.injEq, and_true, true_and, and_assoc] at q; obtain ⟨rfl, rfl⟩ := q; first | exact hc rfl | contradiction | omega) _ hgA (by omega)⟩
end Go.Proofs.YtaioinkajndjkaaGreatDoor.Ev