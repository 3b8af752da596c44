/- Comparisons of the reference. -/
import Derived.Test.YtaioinkajndjkaaGreatDoorInS
set_option linter.unusedVariables false
set_option linter.unusedSimpArgs false
/- Comparisons of the reference. -/
set_option maxHeartbeats 4000000
namespace Go.Proofs.YtaioinkajndjkaaGreatDoor.Ev
open Go
open Classical
variable {c : C} {h : H} {K : AV → H → Prop}
theorem R12SameInts_ev {B : Nat} {fl : Bool} {l1 l2 : List Dt} {s1 s2 : AV} (hcx : Cx c h) (a : Sl B fl h (.int .i64) l1 s1) (b : Sl B fl h (.int .i64) l2 s2) (hsee : ∀ id, id < h.n → seen c.vis id = true) (hn : h.n < 10000000)
    (k : K (.bool (decide (l1 = l2))) h) : Gv Tryz.prog X0 Mx c 78 [s1, s2] h K := by
  have hnt : (26 : Nat) ≤ 1000000 := by decide
  have hl1 := a.le
  have hl2 := b.le
  obtain ⟨i1, r1, o1, A1, e1, p1⟩ := a.out
  obtain ⟨i2, r2, o2, A2, e2, p2⟩ := b.out
  have hsz : ((.int .i64) : Sh).sz = 1 := rfl
  rw [hsz] at A1 A2
  have kf : ¬ l1 = l2 → K (.bool false) h := fun q => by rwa [decide_eq_false q] at k
  have kt : l1 = l2 → K (.bool true) h := fun q => by rwa [decide_eq_true q] at k
  clear k
  refine gv_fn x_R12SameInts (Mx_no rfl _ _ _) (by simp) hnt ?_
  unfold s_R12SameInts SR.o SR.p
  repeat' (first | refine z0 ?_ | refine z2 ?_ | refine z6 ?_ | refine z8 ?_ | refine za ?_ | refine zk ?_ | (refine zm ?_ ?_ <;> intro hc <;> try (exfalso; omega)) | (refine zq ?_ ?_ <;> intro hc <;> try (exfalso; omega)) | refine wg_nil ?_ | refine then_go ?_ | refine wc_seq ?_ | refine wc_reg ?_ | refine wc_dreg ?_ | refine wc_block ?_ | refine zu ?_ | refine zv ?_ | refine wc_skip ?_ | refine wc_exit ?_ | refine wc_ret ?_ | refine then_ret ?_ | refine then_exit ?_ | refine out_go ?_ | refine out_ret ?_ | refine zA ?_ | refine zw ?_ | refine zx ?_ | refine wd_nil ?_)
  · refine wc_loopE (ι := Nat) (fun j => [(0, s1), (1, s2), (5, .int .i64 (j : Int))]) (fun j h' => h' = h ∧ j ≤ l1.length ∧ (l1 = l2 ↔ l1.drop j = l2.drop j)) (fun j => l1.length - j) ?_ 0 ⟨rfl, Nat.zero_le _, by simp⟩ (Sub'.cons rfl (Sub'.cons rfl (Sub'.cons rfl (Sub'.nil _))))
    rintro j h' ⟨rfl, hj, hd⟩
    have hll : l1.length = l2.length := by omega
    by_cases hlt : j < l1.length
    · have g1 : r1[j]? = some (r1[j]'(by omega)) := List.getElem?_eq_getElem (by omega)
      have g2 : r2[j]? = some (r2[j]'(by omega)) := List.getElem?_eq_getElem (by omega)
      have hid1 : i1 < h'.n := by
        rcases A1.at_ with ⟨q, _⟩ | ⟨_, _, q, _⟩
        · rw [q] at e1; simp at e1; omega
        · exact q
      have hid2 : i2 < h'.n := by
        rcases A2.at_ with ⟨q, _⟩ | ⟨_, _, q, _⟩
        · rw [q] at e2; simp at e2; omega
        · exact q
      have hs1 := hsee i1 hid1
      have hs2 := hsee i2 hid2
      have m1 : l1[j]? = some (l1.getD j (.int 0)) := by simp [hlt]
      have m2 : l2[j]? = some (l2.getD j (.int 0)) := by simp [show j < l2.length by omega]
      have t1 := p1 j _ _ m1 g1
      have t2 := p2 j _ _ m2 g2
      obtain ⟨v1, v2, pb, w1, w2, q1, q2⟩ := sb_eq (by rfl) t1 t2
      rw [w1] at g1
      rw [w2] at g2
      rw [drop_eq hlt (by omega)] at hd
      repeat' (first | refine z0 ?_ | refine z2 ?_ | refine z6 ?_ | refine z8 ?_ | refine za ?_ | refine zk ?_ | (refine zm ?_ ?_ <;> intro hc <;> try (exfalso; omega)) | (refine zq ?_ ?_ <;> intro hc <;> try (exfalso; omega)) | refine wg_nil ?_ | refine then_go ?_ | refine wc_seq ?_ | refine wc_reg ?_ | refine wc_dreg ?_ | refine wc_block ?_ | refine zu ?_ | refine zv ?_ | refine wc_skip ?_ | refine wc_exit ?_ | refine wc_ret ?_ | refine then_ret ?_ | refine then_exit ?_ | refine out_go ?_ | refine out_ret ?_ | refine zA ?_ | refine zw ?_ | refine zx ?_ | refine wd_nil ?_)
      refine wo_eql rfl rfl q1 ?_
      cases pb with
      | true =>
        have hc := q2.1 rfl
        repeat' (first | refine z0 ?_ | refine z2 ?_ | refine z6 ?_ | refine z8 ?_ | refine za ?_ | refine zk ?_ | (refine zm ?_ ?_ <;> intro hc <;> try (exfalso; omega)) | (refine zq ?_ ?_ <;> intro hc <;> try (exfalso; omega)) | refine wg_nil ?_ | refine then_go ?_ | refine wc_seq ?_ | refine wc_reg ?_ | refine wc_dreg ?_ | refine wc_block ?_ | refine zu ?_ | refine zv ?_ | refine wc_skip ?_ | refine wc_exit ?_ | refine wc_ret ?_ | refine then_ret ?_ | refine then_exit ?_ | refine out_go ?_ | refine out_ret ?_ | refine zA ?_ | refine zw ?_ | refine zx ?_ | refine wd_nil ?_)
        exact ⟨j + 1, by simp; omega, (Sub'.cons rfl (Sub'.cons rfl (Sub'.cons rfl (Sub'.nil _)))), rfl, hlt, by rw [hd]; exact ⟨fun q => q.2, fun q => ⟨hc, q⟩⟩⟩
      | false =>
        have hc : ¬ l1.getD j (.int 0) = l2.getD j (.int 0) := fun q => absurd (q2.2 q) (by simp)
        repeat' (first | refine z0 ?_ | refine z2 ?_ | refine z6 ?_ | refine z8 ?_ | refine za ?_ | refine zk ?_ | (refine zm ?_ ?_ <;> intro hc <;> try (exfalso; omega)) | (refine zq ?_ ?_ <;> intro hc <;> try (exfalso; omega)) | refine wg_nil ?_ | refine then_go ?_ | refine wc_seq ?_ | refine wc_reg ?_ | refine wc_dreg ?_ | refine wc_block ?_ | refine zu ?_ | refine zv ?_ | refine wc_skip ?_ | refine wc_exit ?_ | refine wc_ret ?_ | refine then_ret ?_ | refine then_exit ?_ | refine out_go ?_ | refine out_ret ?_ | refine zA ?_ | refine zw ?_ | refine zx ?_ | refine wd_nil ?_)
        exact ⟨Or.inr rfl, _, rfl, kf fun q => hc (hd.1 q).1⟩
    · repeat' (first | refine z0 ?_ | refine z2 ?_ | refine z6 ?_ | refine z8 ?_ | refine za ?_ | refine zk ?_ | (refine zm ?_ ?_ <;> intro hc <;> try (exfalso; omega)) | (refine zq ?_ ?_ <;> intro hc <;> try (exfalso; omega)) | refine wg_nil ?_ | refine then_go ?_ | refine wc_seq ?_ | refine wc_reg ?_ | refine wc_dreg ?_ | refine wc_block ?_ | refine zu ?_ | refine zv ?_ | refine wc_skip ?_ | refine wc_exit ?_ | refine wc_ret ?_ | refine then_ret ?_ | refine then_exit ?_ | refine out_go ?_ | refine out_ret ?_ | refine zA ?_ | refine zw ?_ | refine zx ?_ | refine wd_nil ?_)
      exact ⟨Or.inr rfl, _, rfl, kt (hd.2 (by rw [List.drop_eq_nil_of_le (by omega), List.drop_eq_nil_of_le (by omega)]))⟩
  · exact ⟨Or.inr rfl, _, rfl, kf fun q => by rw [q] at e1; omega⟩
theorem pairs_ev {B : Nat} {fl : Bool} {l1 l2 : List Dt} {s1 s2 : AV} (hcx : Cx c h) (a : Sl B fl h ShNP l1 s1) (b : Sl B fl h ShNP l2 s2) (hsee : ∀ id, id < h.n → seen c.vis id = true) (hn : h.n < 10000000)
    (k : K (.bool (decide (l1 = l2))) h) : Gv Tryz.prog X0 Mx c 18 [s1, s2] h K := by
  have hnt : (26 : Nat) ≤ 1000000 := by decide
  have hl1 := a.le
  have hl2 := b.le
  obtain ⟨i1, r1, o1, A1, e1, p1⟩ := a.out
  obtain ⟨i2, r2, o2, A2, e2, p2⟩ := b.out
  have hsz : (ShNP : Sh).sz = 2 := rfl
  rw [hsz] at A1 A2
  have kf : ¬ l1 = l2 → K (.bool false) h := fun q => by rwa [decide_eq_false q] at k
  have kt : l1 = l2 → K (.bool true) h := fun q => by rwa [decide_eq_true q] at k
  clear k
  refine gv_fn x_pairs (Mx_no rfl _ _ _) (by simp) hnt ?_
  unfold s_pairs SR.o SR.p
  repeat' (first | refine z0 ?_ | refine z2 ?_ | refine z6 ?_ | refine z8 ?_ | refine za ?_ | refine zl ?_ | (refine zm ?_ ?_ <;> intro hc <;> try (exfalso; omega)) | (refine zq ?_ ?_ <;> intro hc <;> try (exfalso; omega)) | refine wg_nil ?_ | refine then_go ?_ | refine wc_seq ?_ | refine wc_reg ?_ | refine wc_dreg ?_ | refine wc_block ?_ | refine zu ?_ | refine zv ?_ | refine wc_skip ?_ | refine wc_exit ?_ | refine wc_ret ?_ | refine then_ret ?_ | refine then_exit ?_ | refine out_go ?_ | refine out_ret ?_ | refine zA ?_ | refine zw ?_ | refine zx ?_ | refine wd_nil ?_)
  · refine wc_loopE (ι := Nat) (fun j => [(0, s1), (1, s2), (5, .int .i64 (j : Int))]) (fun j h' => h' = h ∧ j ≤ l1.length ∧ (l1 = l2 ↔ l1.drop j = l2.drop j)) (fun j => l1.length - j) ?_ 0 ⟨rfl, Nat.zero_le _, by simp⟩ (Sub'.cons rfl (Sub'.cons rfl (Sub'.cons rfl (Sub'.nil _))))
    rintro j h' ⟨rfl, hj, hd⟩
    have hll : l1.length = l2.length := by omega
    by_cases hlt : j < l1.length
    · have g1 : r1[j]? = some (r1[j]'(by omega)) := List.getElem?_eq_getElem (by omega)
      have g2 : r2[j]? = some (r2[j]'(by omega)) := List.getElem?_eq_getElem (by omega)
      have hid1 : i1 < h'.n := by
        rcases A1.at_ with ⟨q, _⟩ | ⟨_, _, q, _⟩
        · rw [q] at e1; simp at e1; omega
        · exact q
      have hid2 : i2 < h'.n := by
        rcases A2.at_ with ⟨q, _⟩ | ⟨_, _, q, _⟩
        · rw [q] at e2; simp at e2; omega
        · exact q
      have hs1 := hsee i1 hid1
      have hs2 := hsee i2 hid2
      have m1 : l1[j]? = some (l1.getD j (.int 0)) := by simp [hlt]
      have m2 : l2[j]? = some (l2.getD j (.int 0)) := by simp [show j < l2.length by omega]
      have t1 := p1 j _ _ m1 g1
      have t2 := p2 j _ _ m2 g2
      rw [drop_eq hlt (by omega)] at hd
      repeat' (first | refine z0 ?_ | refine z2 ?_ | refine z6 ?_ | refine z8 ?_ | refine za ?_ | refine zl ?_ | (refine zm ?_ ?_ <;> intro hc <;> try (exfalso; omega)) | (refine zq ?_ ?_ <;> intro hc <;> try (exfalso; omega)) | refine wg_nil ?_ | refine then_go ?_ | refine wc_seq ?_ | refine wc_reg ?_ | refine wc_dreg ?_ | refine wc_block ?_ | refine zu ?_ | refine zv ?_ | refine wc_skip ?_ | refine wc_exit ?_ | refine wc_ret ?_ | refine then_ret ?_ | refine then_exit ?_ | refine out_go ?_ | refine out_ret ?_ | refine zA ?_ | refine zw ?_ | refine zx ?_ | refine wd_nil ?_)
      refine wo_eqRow t1 t2 rfl rfl rfl ?_ ?_ <;> intro hc
      · repeat' (first | refine z0 ?_ | refine z2 ?_ | refine z6 ?_ | refine z8 ?_ | refine za ?_ | refine zl ?_ | (refine zm ?_ ?_ <;> intro hc <;> try (exfalso; omega)) | (refine zq ?_ ?_ <;> intro hc <;> try (exfalso; omega)) | refine wg_nil ?_ | refine then_go ?_ | refine wc_seq ?_ | refine wc_reg ?_ | refine wc_dreg ?_ | refine wc_block ?_ | refine zu ?_ | refine zv ?_ | refine wc_skip ?_ | refine wc_exit ?_ | refine wc_ret ?_ | refine then_ret ?_ | refine then_exit ?_ | refine out_go ?_ | refine out_ret ?_ | refine zA ?_ | refine zw ?_ | refine zx ?_ | refine wd_nil ?_)
        exact ⟨j + 1, by simp; omega, (Sub'.cons rfl (Sub'.cons rfl (Sub'.cons rfl (Sub'.nil _)))), rfl, hlt, by rw [hd]; exact ⟨fun q => q.2, fun q => ⟨hc, q⟩⟩⟩
      · repeat' (first | refine z0 ?_ | refine z2 ?_ | refine z6 ?_ | refine z8 ?_ | refine za ?_ | refine zl ?_ | (refine zm ?_ ?_ <;> intro hc <;> try (exfalso; omega)) | (refine zq ?_ ?_ <;> intro hc <;> try (exfalso; omega)) | refine wg_nil ?_ | refine then_go ?_ | refine wc_seq ?_ | refine wc_reg ?_ | refine wc_dreg ?_ | refine wc_block ?_ | refine zu ?_ | refine zv ?_ | refine wc_skip ?_ | refine wc_exit ?_ | refine wc_ret ?_ | refine then_ret ?_ | refine then_exit ?_ | refine out_go ?_ | refine out_ret ?_ | refine zA ?_ | refine zw ?_ | refine zx ?_ | refine wd_nil ?_)
        exact ⟨Or.inr rfl, _, rfl, kf fun q => hc (hd.1 q).1⟩
    · repeat' (first | refine z0 ?_ | refine z2 ?_ | refine z6 ?_ | refine z8 ?_ | refine za ?_ | refine zl ?_ | (refine zm ?_ ?_ <;> intro hc <;> try (exfalso; omega)) | (refine zq ?_ ?_ <;> intro hc <;> try (exfalso; omega)) | refine wg_nil ?_ | refine then_go ?_ | refine wc_seq ?_ | refine wc_reg ?_ | refine wc_dreg ?_ | refine wc_block ?_ | refine zu ?_ | refine zv ?_ | refine wc_skip ?_ | refine wc_exit ?_ | refine wc_ret ?_ | refine then_ret ?_ | refine then_exit ?_ | refine out_go ?_ | refine out_ret ?_ | refine zA ?_ | refine zw ?_ | refine zx ?_ | refine wd_nil ?_)
      exact ⟨Or.inr rfl, _, rfl, kt (hd.2 (by rw [List.drop_eq_nil_of_le (by omega), List.drop_eq_nil_of_le (by omega)]))⟩
  · exact ⟨Or.inr rfl, _, rfl, kf fun q => by rw [q] at e1; omega⟩
end Go.Proofs.YtaioinkajndjkaaGreatDoor.Ev
/- Comparisons of the reference. -/
set_option maxHeartbeats 4000000
namespace Go.Proofs.YtaioinkajndjkaaGreatDoor.Ev
open Go
open Classical
variable {c : C} {h : H} {K : AV → H → Prop}
theorem paths_ev (hall : ∀ id, id < 10000000 → seen c.vis id = true) {d1 d2 : Dt} {c1 c2 : List AV} (hcx : Cx c h) (hn : h.n + 2 < 10000000) (r1 : Rp 100 true h ShAP d1 c1) (r2 : Rp 100 true h ShAP d2 c2) (k : ∀ h', Grew h h' → h'.n ≤ h.n + 2 → K (.bool (decide (d1 = d2))) h') :
    Gv Tryz.prog X0 Mx c 32 [.agg c1, .agg c2] h K := by
  have hnt : (52 : Nat) ≤ 1000000 := by decide
  obtain ⟨a3, a5, a7, av7, a9, rfl, rfl, al7, as7⟩ := rpd_AP r1
  obtain ⟨b3, b5, b7, bv7, b9, rfl, rfl, bl7, bs7⟩ := rpd_AP r2
  have kf : ¬ Dt.row [.int a3, .int a5, .arr a7, .bool a9] = Dt.row [.int b3, .int b5, .arr b7, .bool b9] → ∀ h', Grew h h' → h'.n ≤ h.n + 2 → K (.bool false) h' := fun q h' g1 g2 => by have := k h' g1 g2; rwa [decide_eq_false q] at this
  have kt : Dt.row [.int a3, .int a5, .arr a7, .bool a9] = Dt.row [.int b3, .int b5, .arr b7, .bool b9] → ∀ h', Grew h h' → h'.n ≤ h.n + 2 → K (.bool true) h' := fun q h' g1 g2 => by have := k h' g1 g2; rwa [decide_eq_true q] at this
  clear k r1 r2
  have hla0 := as7.le
  have hlb0 := bs7.le
  obtain ⟨ia0, ra0, oa0, Aa0, ea0, pa0⟩ := as7.out
  obtain ⟨ib0, rb0, ob0, Ab0, eb0, pb0⟩ := bs7.out
  have hza0 : (.str : Sh).sz = 1 := rfl
  rw [hza0] at Aa0 Ab0
  refine gv_fn x_paths (Mx_no rfl _ _ _) (by simp) hnt ?_
  unfold s_paths SR.g SR.o SR.p
  refine wc_seq (wc_reg (rg_go hnt rfl rfl (wo_boxA rfl rfl (by omega) fun h1 hn1 hb1 hg1 => ?_)))
  refine rg_go hnt rfl rfl (wo_boxA rfl rfl (by omega) fun h2 hn2 hb2 hg2 => ?_)
  have hb12 : h2.get h.n = some (.cells [.int .i64 a3, .int .i64 a5, av7, .bool a9]) := (hg2.get h.n (by omega)).trans hb1
  have hb22 : h2.get h1.n = some (.cells [.int .i64 b3, .int .i64 b5, bv7, .bool b9]) := hb2
  have hs1 : seen c.vis h.n = true := hcx.new (Nat.le_refl _) (by omega)
  have hs2 : seen c.vis h1.n = true := hcx.new (by omega) (by omega)
  have hgA := hg1.trans hg2
  have Ba0 := Aa0.grew hgA
  have Bb0 := Ab0.grew hgA
  repeat' (first | refine z0 ?_ | refine z1 ?_ | refine z2 ?_ | refine z3 ?_ | refine z6 ?_ | refine z8 ?_ | refine za ?_ | refine zc ?_ | refine zd ?_ | refine zh ?_ | refine zk ?_ | (refine zm ?_ ?_ <;> intro hc <;> try (exfalso; omega)) | (refine zq ?_ ?_ <;> intro hc <;> try (exfalso; omega)) | (refine zt ?_ ?_ <;> intro hc) | refine wg_nil ?_ | refine then_go ?_ | refine wc_seq ?_ | refine wc_reg ?_ | refine wc_dreg ?_ | refine wc_block ?_ | refine zu ?_ | refine zv ?_ | refine wc_skip ?_ | refine wc_exit ?_ | refine wc_ret ?_ | refine then_ret ?_ | refine then_exit ?_ | refine out_go ?_ | refine out_ret ?_ | refine zA ?_ | refine zw ?_ | refine zx ?_ | refine wd_nil ?_)
  · refine wc_loopE (ι := Nat) (fun j => [(2, .ptr h.n 0), (3, .ptr h1.n 0), (5, .int .i64 (j : Int))]) (fun j h' => h' = h2 ∧ j ≤ a7.length ∧ (a7 = b7 ↔ a7.drop j = b7.drop j)) (fun j => a7.length - j) ?_ 0 ⟨rfl, Nat.zero_le _, by simp⟩ (Sub'.cons rfl (Sub'.cons rfl (Sub'.cons rfl (Sub'.nil _))))
    rintro j h' ⟨hh, hj, hd⟩
    have hh2 : h2 = h' := hh.symm
    subst hh2
    have hll : a7.length = b7.length := by omega
    by_cases hlt : j < a7.length
    · have g1 : ra0[j]? = some (ra0[j]'(by omega)) := List.getElem?_eq_getElem (by omega)
      have g2 : rb0[j]? = some (rb0[j]'(by omega)) := List.getElem?_eq_getElem (by omega)
      have hid1 : ia0 < h.n := by
        rcases Aa0.at_ with ⟨q, _⟩ | ⟨_, _, q, _⟩
        · rw [q] at ea0; simp at ea0; omega
        · exact q
      have hid2 : ib0 < h.n := by
        rcases Ab0.at_ with ⟨q, _⟩ | ⟨_, _, q, _⟩
        · rw [q] at eb0; simp at eb0; omega
        · exact q
      have hs1' := hall ia0 (by omega)
      have hs2' := hall ib0 (by omega)
      have m1 : a7[j]? = some (a7.getD j (.int 0)) := by simp [hlt]
      have m2 : b7[j]? = some (b7.getD j (.int 0)) := by simp [show j < b7.length by omega]
      have t1 := pa0 j _ _ m1 g1
      have t2 := pb0 j _ _ m2 g2
      rw [drop_eq hlt (by omega)] at hd
      obtain ⟨v1, v2, pb, w1, w2, q1, q2⟩ := sb_eq (by rfl) t1 t2
      rw [w1] at g1
      rw [w2] at g2
      repeat' (first | refine z0 ?_ | refine z1 ?_ | refine z2 ?_ | refine z3 ?_ | refine z6 ?_ | refine z8 ?_ | refine za ?_ | refine zc ?_ | refine zd ?_ | refine zh ?_ | refine zk ?_ | (refine zm ?_ ?_ <;> intro hc <;> try (exfalso; omega)) | (refine zq ?_ ?_ <;> intro hc <;> try (exfalso; omega)) | (refine zt ?_ ?_ <;> intro hc) | refine wg_nil ?_ | refine then_go ?_ | refine wc_seq ?_ | refine wc_reg ?_ | refine wc_dreg ?_ | refine wc_block ?_ | refine zu ?_ | refine zv ?_ | refine wc_skip ?_ | refine wc_exit ?_ | refine wc_ret ?_ | refine then_ret ?_ | refine then_exit ?_ | refine out_go ?_ | refine out_ret ?_ | refine zA ?_ | refine zw ?_ | refine zx ?_ | refine wd_nil ?_)
      refine wo_eql rfl rfl q1 ?_
      cases pb with
      | true =>
        have hX := q2.1 rfl
        repeat' (first | refine z0 ?_ | refine z1 ?_ | refine z2 ?_ | refine z3 ?_ | refine z6 ?_ | refine z8 ?_ | refine za ?_ | refine zc ?_ | refine zd ?_ | refine zh ?_ | refine zk ?_ | (refine zm ?_ ?_ <;> intro hc <;> try (exfalso; omega)) | (refine zq ?_ ?_ <;> intro hc <;> try (exfalso; omega)) | (refine zt ?_ ?_ <;> intro hc) | refine wg_nil ?_ | refine then_go ?_ | refine wc_seq ?_ | refine wc_reg ?_ | refine wc_dreg ?_ | refine wc_block ?_ | refine zu ?_ | refine zv ?_ | refine wc_skip ?_ | refine wc_exit ?_ | refine wc_ret ?_ | refine then_ret ?_ | refine then_exit ?_ | refine out_go ?_ | refine out_ret ?_ | refine zA ?_ | refine zw ?_ | refine zx ?_ | refine wd_nil ?_)
        exact ⟨j + 1, by simp; omega, (Sub'.cons rfl (Sub'.cons rfl (Sub'.cons rfl (Sub'.nil _)))), rfl, hlt, by rw [hd]; exact ⟨fun q => q.2, fun q => ⟨hX, q⟩⟩⟩
      | false =>
        have hX : ¬ a7.getD j (.int 0) = b7.getD j (.int 0) := fun q => absurd (q2.2 q) (by simp)
        repeat' (first | refine z0 ?_ | refine z1 ?_ | refine z2 ?_ | refine z3 ?_ | refine z6 ?_ | refine z8 ?_ | refine za ?_ | refine zc ?_ | refine zd ?_ | refine zh ?_ | refine zk ?_ | (refine zm ?_ ?_ <;> intro hc <;> try (exfalso; omega)) | (refine zq ?_ ?_ <;> intro hc <;> try (exfalso; omega)) | (refine zt ?_ ?_ <;> intro hc) | refine wg_nil ?_ | refine then_go ?_ | refine wc_seq ?_ | refine wc_reg ?_ | refine wc_dreg ?_ | refine wc_block ?_ | refine zu ?_ | refine zv ?_ | refine wc_skip ?_ | refine wc_exit ?_ | refine wc_ret ?_ | refine then_ret ?_ | refine then_exit ?_ | refine out_go ?_ | refine out_ret ?_ | refine zA ?_ | refine zw ?_ | refine zx ?_ | refine wd_nil ?_)
        exact ⟨Or.inr rfl, _, rfl, kf (fun q => by simp only [Dt.row.injEq, List.cons.injEq, Dt.str.injEq, Dt.int.injEq, Dt.bool.injEq, Dt.arr.injEq, and_true, true_and, and_assoc] at q; obtain ⟨rfl, rfl, rfl, rfl⟩ := q; first | exact hX rfl | omega) _ hgA (by omega)⟩
    · have hq0 := hd.2 (by rw [List.drop_eq_nil_of_le (by omega), List.drop_eq_nil_of_le (by omega)])
      repeat' (first | refine z0 ?_ | refine z1 ?_ | refine z2 ?_ | refine z3 ?_ | refine z6 ?_ | refine z8 ?_ | refine za ?_ | refine zc ?_ | refine zd ?_ | refine zh ?_ | refine zk ?_ | (refine zm ?_ ?_ <;> intro hc <;> try (exfalso; omega)) | (refine zq ?_ ?_ <;> intro hc <;> try (exfalso; omega)) | (refine zt ?_ ?_ <;> intro hc) | refine wg_nil ?_ | refine then_go ?_ | refine wc_seq ?_ | refine wc_reg ?_ | refine wc_dreg ?_ | refine wc_block ?_ | refine zu ?_ | refine zv ?_ | refine wc_skip ?_ | refine wc_exit ?_ | refine wc_ret ?_ | refine then_ret ?_ | refine then_exit ?_ | refine out_go ?_ | refine out_ret ?_ | refine zA ?_ | refine zw ?_ | refine zx ?_ | refine wd_nil ?_)
      exact ⟨Or.inr rfl, _, rfl, kt (by congr <;> assumption) _ hgA (by omega)⟩
  all_goals exact ⟨Or.inr rfl, _, rfl, kf (fun q => by simp only [Dt.row.injEq, List.cons.injEq, Dt.str.injEq, Dt.int.injEq, Dt.bool.injEq, Dt.arr.injEq, and_true, true_and, and_assoc] at q; obtain ⟨rfl, rfl, rfl, rfl⟩ := q; first | exact hc rfl | omega) _ hgA (by omega)⟩
end Go.Proofs.YtaioinkajndjkaaGreatDoor.Ev
/- Comparisons of the reference. -/
set_option maxHeartbeats 4000000
namespace Go.Proofs.YtaioinkajndjkaaGreatDoor.Ev
open Go
open Classical
variable {c : C} {h : H} {K : AV → H → Prop}
theorem protocols_ev (hall : ∀ id, id < 10000000 → seen c.vis id = true) {d1 d2 : Dt} {c1 c2 : List AV} (hcx : Cx c h) (hn : h.n + 2 < 10000000) (r1 : Rp 100 true h ShProto d1 c1) (r2 : Rp 100 true h ShProto d2 c2) (k : ∀ h', Grew h h' → h'.n ≤ h.n + 2 → K (.bool (decide (d1 = d2))) h') :
    Gv Tryz.prog X0 Mx c 33 [.agg c1, .agg c2] h K := by
  have hnt : (80 : Nat) ≤ 1000000 := by decide
  obtain ⟨a3, a5, av5, a7, a9, a11, av11, rfl, rfl, al5, as5, al11, as11⟩ := rpd_Proto r1
  obtain ⟨b3, b5, bv5, b7, b9, b11, bv11, rfl, rfl, bl5, bs5, bl11, bs11⟩ := rpd_Proto r2
  have kf : ¬ Dt.row [.str a3, .arr a5, .int a7, .int a9, .arr a11] = Dt.row [.str b3, .arr b5, .int b7, .int b9, .arr b11] → ∀ h', Grew h h' → h'.n ≤ h.n + 2 → K (.bool false) h' := fun q h' g1 g2 => by have := k h' g1 g2; rwa [decide_eq_false q] at this
  have kt : Dt.row [.str a3, .arr a5, .int a7, .int a9, .arr a11] = Dt.row [.str b3, .arr b5, .int b7, .int b9, .arr b11] → ∀ h', Grew h h' → h'.n ≤ h.n + 2 → K (.bool true) h' := fun q h' g1 g2 => by have := k h' g1 g2; rwa [decide_eq_true q] at this
  clear k r1 r2
  have hla0 := as5.le
  have hlb0 := bs5.le
  obtain ⟨ia0, ra0, oa0, Aa0, ea0, pa0⟩ := as5.out
  obtain ⟨ib0, rb0, ob0, Ab0, eb0, pb0⟩ := bs5.out
  have hza0 : (.str : Sh).sz = 1 := rfl
  rw [hza0] at Aa0 Ab0
  have hla1 := as11.le
  have hlb1 := bs11.le
  obtain ⟨ia1, ra1, oa1, Aa1, ea1, pa1⟩ := as11.out
  obtain ⟨ib1, rb1, ob1, Ab1, eb1, pb1⟩ := bs11.out
  have hza1 : (ShMove : Sh).sz = 3 := rfl
  rw [hza1] at Aa1 Ab1
  refine gv_fn x_protocols (Mx_no rfl _ _ _) (by simp) hnt ?_
  unfold s_protocols SR.g SR.o SR.p
  refine wc_seq (wc_reg (rg_go hnt rfl rfl (wo_boxA rfl rfl (by omega) fun h1 hn1 hb1 hg1 => ?_)))
  refine rg_go hnt rfl rfl (wo_boxA rfl rfl (by omega) fun h2 hn2 hb2 hg2 => ?_)
  have hb12 : h2.get h.n = some (.cells [.str a3, av5, .int .i64 a7, .int .i64 a9, av11]) := (hg2.get h.n (by omega)).trans hb1
  have hb22 : h2.get h1.n = some (.cells [.str b3, bv5, .int .i64 b7, .int .i64 b9, bv11]) := hb2
  have hs1 : seen c.vis h.n = true := hcx.new (Nat.le_refl _) (by omega)
  have hs2 : seen c.vis h1.n = true := hcx.new (by omega) (by omega)
  have hgA := hg1.trans hg2
  have Ba0 := Aa0.grew hgA
  have Bb0 := Ab0.grew hgA
  have Ba1 := Aa1.grew hgA
  have Bb1 := Ab1.grew hgA
  repeat' (first | refine z0 ?_ | refine z1 ?_ | refine z2 ?_ | refine z3 ?_ | refine z6 ?_ | refine z8 ?_ | refine za ?_ | refine zc ?_ | refine zd ?_ | refine zh ?_ | refine zk ?_ | refine zl ?_ | (refine zm ?_ ?_ <;> intro hc <;> try (exfalso; omega)) | (refine zq ?_ ?_ <;> intro hc <;> try (exfalso; omega)) | (refine zs ?_ ?_ <;> intro hc) | refine wg_nil ?_ | refine then_go ?_ | refine wc_seq ?_ | refine wc_reg ?_ | refine wc_dreg ?_ | refine wc_block ?_ | refine zu ?_ | refine zv ?_ | refine wc_skip ?_ | refine wc_exit ?_ | refine wc_ret ?_ | refine then_ret ?_ | refine then_exit ?_ | refine out_go ?_ | refine out_ret ?_ | refine zA ?_ | refine zw ?_ | refine zx ?_ | refine wd_nil ?_)
  · refine wc_loopE (ι := Nat) (fun j => [(2, .ptr h.n 0), (3, .ptr h1.n 0), (5, .int .i64 (j : Int))]) (fun j h' => h' = h2 ∧ j ≤ a5.length ∧ (a5 = b5 ↔ a5.drop j = b5.drop j)) (fun j => a5.length - j) ?_ 0 ⟨rfl, Nat.zero_le _, by simp⟩ (Sub'.cons rfl (Sub'.cons rfl (Sub'.cons rfl (Sub'.nil _))))
    rintro j h' ⟨hh, hj, hd⟩
    have hh2 : h2 = h' := hh.symm
    subst hh2
    have hll : a5.length = b5.length := by omega
    by_cases hlt : j < a5.length
    · have g1 : ra0[j]? = some (ra0[j]'(by omega)) := List.getElem?_eq_getElem (by omega)
      have g2 : rb0[j]? = some (rb0[j]'(by omega)) := List.getElem?_eq_getElem (by omega)
      have hid1 : ia0 < h.n := by
        rcases Aa0.at_ with ⟨q, _⟩ | ⟨_, _, q, _⟩
        · rw [q] at ea0; simp at ea0; omega
        · exact q
      have hid2 : ib0 < h.n := by
        rcases Ab0.at_ with ⟨q, _⟩ | ⟨_, _, q, _⟩
        · rw [q] at eb0; simp at eb0; omega
        · exact q
      have hs1' := hall ia0 (by omega)
      have hs2' := hall ib0 (by omega)
      have m1 : a5[j]? = some (a5.getD j (.int 0)) := by simp [hlt]
      have m2 : b5[j]? = some (b5.getD j (.int 0)) := by simp [show j < b5.length by omega]
      have t1 := pa0 j _ _ m1 g1
      have t2 := pb0 j _ _ m2 g2
      rw [drop_eq hlt (by omega)] at hd
      obtain ⟨v1, v2, pb, w1, w2, q1, q2⟩ := sb_eq (by rfl) t1 t2
      rw [w1] at g1
      rw [w2] at g2
      repeat' (first | refine z0 ?_ | refine z1 ?_ | refine z2 ?_ | refine z3 ?_ | refine z6 ?_ | refine z8 ?_ | refine za ?_ | refine zc ?_ | refine zd ?_ | refine zh ?_ | refine zk ?_ | refine zl ?_ | (refine zm ?_ ?_ <;> intro hc <;> try (exfalso; omega)) | (refine zq ?_ ?_ <;> intro hc <;> try (exfalso; omega)) | (refine zs ?_ ?_ <;> intro hc) | refine wg_nil ?_ | refine then_go ?_ | refine wc_seq ?_ | refine wc_reg ?_ | refine wc_dreg ?_ | refine wc_block ?_ | refine zu ?_ | refine zv ?_ | refine wc_skip ?_ | refine wc_exit ?_ | refine wc_ret ?_ | refine then_ret ?_ | refine then_exit ?_ | refine out_go ?_ | refine out_ret ?_ | refine zA ?_ | refine zw ?_ | refine zx ?_ | refine wd_nil ?_)
      refine wo_eql rfl rfl q1 ?_
      cases pb with
      | true =>
        have hX := q2.1 rfl
        repeat' (first | refine z0 ?_ | refine z1 ?_ | refine z2 ?_ | refine z3 ?_ | refine z6 ?_ | refine z8 ?_ | refine za ?_ | refine zc ?_ | refine zd ?_ | refine zh ?_ | refine zk ?_ | refine zl ?_ | (refine zm ?_ ?_ <;> intro hc <;> try (exfalso; omega)) | (refine zq ?_ ?_ <;> intro hc <;> try (exfalso; omega)) | (refine zs ?_ ?_ <;> intro hc) | refine wg_nil ?_ | refine then_go ?_ | refine wc_seq ?_ | refine wc_reg ?_ | refine wc_dreg ?_ | refine wc_block ?_ | refine zu ?_ | refine zv ?_ | refine wc_skip ?_ | refine wc_exit ?_ | refine wc_ret ?_ | refine then_ret ?_ | refine then_exit ?_ | refine out_go ?_ | refine out_ret ?_ | refine zA ?_ | refine zw ?_ | refine zx ?_ | refine wd_nil ?_)
        exact ⟨j + 1, by simp; omega, (Sub'.cons rfl (Sub'.cons rfl (Sub'.cons rfl (Sub'.nil _)))), rfl, hlt, by rw [hd]; exact ⟨fun q => q.2, fun q => ⟨hX, q⟩⟩⟩
      | false =>
        have hX : ¬ a5.getD j (.int 0) = b5.getD j (.int 0) := fun q => absurd (q2.2 q) (by simp)
        repeat' (first | refine z0 ?_ | refine z1 ?_ | refine z2 ?_ | refine z3 ?_ | refine z6 ?_ | refine z8 ?_ | refine za ?_ | refine zc ?_ | refine zd ?_ | refine zh ?_ | refine zk ?_ | refine zl ?_ | (refine zm ?_ ?_ <;> intro hc <;> try (exfalso; omega)) | (refine zq ?_ ?_ <;> intro hc <;> try (exfalso; omega)) | (refine zs ?_ ?_ <;> intro hc) | refine wg_nil ?_ | refine then_go ?_ | refine wc_seq ?_ | refine wc_reg ?_ | refine wc_dreg ?_ | refine wc_block ?_ | refine zu ?_ | refine zv ?_ | refine wc_skip ?_ | refine wc_exit ?_ | refine wc_ret ?_ | refine then_ret ?_ | refine then_exit ?_ | refine out_go ?_ | refine out_ret ?_ | refine zA ?_ | refine zw ?_ | refine zx ?_ | refine wd_nil ?_)
        exact ⟨Or.inr rfl, _, rfl, kf (fun q => by simp only [Dt.row.injEq, List.cons.injEq, Dt.str.injEq, Dt.int.injEq, Dt.bool.injEq, Dt.arr.injEq, and_true, true_and, and_assoc] at q; obtain ⟨rfl, rfl, rfl, rfl, rfl⟩ := q; first | exact hX rfl | omega) _ hgA (by omega)⟩
    · have hq0 := hd.2 (by rw [List.drop_eq_nil_of_le (by omega), List.drop_eq_nil_of_le (by omega)])
      repeat' (first | refine z0 ?_ | refine z1 ?_ | refine z2 ?_ | refine z3 ?_ | refine z6 ?_ | refine z8 ?_ | refine za ?_ | refine zc ?_ | refine zd ?_ | refine zh ?_ | refine zk ?_ | refine zl ?_ | (refine zm ?_ ?_ <;> intro hc <;> try (exfalso; omega)) | (refine zq ?_ ?_ <;> intro hc <;> try (exfalso; omega)) | (refine zs ?_ ?_ <;> intro hc) | refine wg_nil ?_ | refine then_go ?_ | refine wc_seq ?_ | refine wc_reg ?_ | refine wc_dreg ?_ | refine wc_block ?_ | refine zu ?_ | refine zv ?_ | refine wc_skip ?_ | refine wc_exit ?_ | refine wc_ret ?_ | refine then_ret ?_ | refine then_exit ?_ | refine out_go ?_ | refine out_ret ?_ | refine zA ?_ | refine zw ?_ | refine zx ?_ | refine wd_nil ?_)
      refine wc_loopE (ι := Nat) (fun j => [(2, .ptr h.n 0), (3, .ptr h1.n 0), (6, .int .i64 (j : Int))]) (fun j h' => h' = h2 ∧ j ≤ a11.length ∧ (a11 = b11 ↔ a11.drop j = b11.drop j)) (fun j => a11.length - j) ?_ 0 ⟨rfl, Nat.zero_le _, by simp⟩ (Sub'.cons rfl (Sub'.cons rfl (Sub'.cons rfl (Sub'.nil _))))
      rintro j h' ⟨hh, hj, hd⟩
      have hh2 : h2 = h' := hh.symm
      subst hh2
      have hll : a11.length = b11.length := by omega
      by_cases hlt : j < a11.length
      · have g1 : ra1[j]? = some (ra1[j]'(by omega)) := List.getElem?_eq_getElem (by omega)
        have g2 : rb1[j]? = some (rb1[j]'(by omega)) := List.getElem?_eq_getElem (by omega)
        have hid1 : ia1 < h.n := by
          rcases Aa1.at_ with ⟨q, _⟩ | ⟨_, _, q, _⟩
          · rw [q] at ea1; simp at ea1; omega
          · exact q
        have hid2 : ib1 < h.n := by
          rcases Ab1.at_ with ⟨q, _⟩ | ⟨_, _, q, _⟩
          · rw [q] at eb1; simp at eb1; omega
          · exact q
        have hs1' := hall ia1 (by omega)
        have hs2' := hall ib1 (by omega)
        have m1 : a11[j]? = some (a11.getD j (.int 0)) := by simp [hlt]
        have m2 : b11[j]? = some (b11.getD j (.int 0)) := by simp [show j < b11.length by omega]
        have t1 := pa1 j _ _ m1 g1
        have t2 := pb1 j _ _ m2 g2
        rw [drop_eq hlt (by omega)] at hd
        repeat' (first | refine z0 ?_ | refine z1 ?_ | refine z2 ?_ | refine z3 ?_ | refine z6 ?_ | refine z8 ?_ | refine za ?_ | refine zc ?_ | refine zd ?_ | refine zh ?_ | refine zk ?_ | refine zl ?_ | (refine zm ?_ ?_ <;> intro hc <;> try (exfalso; omega)) | (refine zq ?_ ?_ <;> intro hc <;> try (exfalso; omega)) | (refine zs ?_ ?_ <;> intro hc) | refine wg_nil ?_ | refine then_go ?_ | refine wc_seq ?_ | refine wc_reg ?_ | refine wc_dreg ?_ | refine wc_block ?_ | refine zu ?_ | refine zv ?_ | refine wc_skip ?_ | refine wc_exit ?_ | refine wc_ret ?_ | refine then_ret ?_ | refine then_exit ?_ | refine out_go ?_ | refine out_ret ?_ | refine zA ?_ | refine zw ?_ | refine zx ?_ | refine wd_nil ?_)
        refine wo_eqRow t1 t2 rfl rfl rfl ?_ ?_ <;> intro hX
        · repeat' (first | refine z0 ?_ | refine z1 ?_ | refine z2 ?_ | refine z3 ?_ | refine z6 ?_ | refine z8 ?_ | refine za ?_ | refine zc ?_ | refine zd ?_ | refine zh ?_ | refine zk ?_ | refine zl ?_ | (refine zm ?_ ?_ <;> intro hc <;> try (exfalso; omega)) | (refine zq ?_ ?_ <;> intro hc <;> try (exfalso; omega)) | (refine zs ?_ ?_ <;> intro hc) | refine wg_nil ?_ | refine then_go ?_ | refine wc_seq ?_ | refine wc_reg ?_ | refine wc_dreg ?_ | refine wc_block ?_ | refine zu ?_ | refine zv ?_ | refine wc_skip ?_ | refine wc_exit ?_ | refine wc_ret ?_ | refine then_ret ?_ | refine then_exit ?_ | refine out_go ?_ | refine out_ret ?_ | refine zA ?_ | refine zw ?_ | refine zx ?_ | refine wd_nil ?_)
          exact ⟨j + 1, by simp; omega, (Sub'.cons rfl (Sub'.cons rfl (Sub'.cons rfl (Sub'.nil _)))), rfl, hlt, by rw [hd]; exact ⟨fun q => q.2, fun q => ⟨hX, q⟩⟩⟩
        · repeat' (first | refine z0 ?_ | refine z1 ?_ | refine z2 ?_ | refine z3 ?_ | refine z6 ?_ | refine z8 ?_ | refine za ?_ | refine zc ?_ | refine zd ?_ | refine zh ?_ | refine zk ?_ | refine zl ?_ | (refine zm ?_ ?_ <;> intro hc <;> try (exfalso; omega)) | (refine zq ?_ ?_ <;> intro hc <;> try (exfalso; omega)) | (refine zs ?_ ?_ <;> intro hc) | refine wg_nil ?_ | refine then_go ?_ | refine wc_seq ?_ | refine wc_reg ?_ | refine wc_dreg ?_ | refine wc_block ?_ | refine zu ?_ | refine zv ?_ | refine wc_skip ?_ | refine wc_exit ?_ | refine wc_ret ?_ | refine then_ret ?_ | refine then_exit ?_ | refine out_go ?_ | refine out_ret ?_ | refine zA ?_ | refine zw ?_ | refine zx ?_ | refine wd_nil ?_)
          exact ⟨Or.inr rfl, _, rfl, kf (fun q => by simp only [Dt.row.injEq, List.cons.injEq, Dt.str.injEq, Dt.int.injEq, Dt.bool.injEq, Dt.arr.injEq, and_true, true_and, and_assoc] at q; obtain ⟨rfl, rfl, rfl, rfl, rfl⟩ := q; first | exact hX rfl | omega) _ hgA (by omega)⟩
      · have hq1 := hd.2 (by rw [List.drop_eq_nil_of_le (by omega), List.drop_eq_nil_of_le (by omega)])
        repeat' (first | refine z0 ?_ | refine z1 ?_ | refine z2 ?_ | refine z3 ?_ | refine z6 ?_ | refine z8 ?_ | refine za ?_ | refine zc ?_ | refine zd ?_ | refine zh ?_ | refine zk ?_ | refine zl ?_ | (refine zm ?_ ?_ <;> intro hc <;> try (exfalso; omega)) | (refine zq ?_ ?_ <;> intro hc <;> try (exfalso; omega)) | (refine zs ?_ ?_ <;> intro hc) | refine wg_nil ?_ | refine then_go ?_ | refine wc_seq ?_ | refine wc_reg ?_ | refine wc_dreg ?_ | refine wc_block ?_ | refine zu ?_ | refine zv ?_ | refine wc_skip ?_ | refine wc_exit ?_ | refine wc_ret ?_ | refine then_ret ?_ | refine then_exit ?_ | refine out_go ?_ | refine out_ret ?_ | refine zA ?_ | refine zw ?_ | refine zx ?_ | refine wd_nil ?_)
        exact ⟨Or.inr rfl, _, rfl, kt (by congr <;> assumption) _ hgA (by omega)⟩
  all_goals exact ⟨Or.inr rfl, _, rfl, kf (fun q => by simp only [Dt.row.injEq, List.cons.injEq, Dt.str.injEq, Dt.int.injEq, Dt.bool.injEq, Dt.arr.injEq, and_true, true_and, and_assoc] at q; obtain ⟨rfl, rfl, rfl, rfl, rfl⟩ := q; first | exact hc rfl | omega) _ hgA (by omega)⟩
end Go.Proofs.YtaioinkajndjkaaGreatDoor.Ev
/- Comparisons of the reference. -/
set_option maxHeartbeats 4000000
namespace Go.Proofs.YtaioinkajndjkaaGreatDoor.Ev
open Go
open Classical
variable {c : C} {h : H} {K : AV → H → Prop}
theorem R10SameSig_ev (hall : ∀ id, id < 10000000 → seen c.vis id = true) {d1 d2 : Dt} {c1 c2 : List AV} (hcx : Cx c h) (hn : h.n + 2 < 10000000) (r1 : Rp 100 true h ShSig d1 c1) (r2 : Rp 100 true h ShSig d2 c2) (hsame : ∀ n s p x n' s' p' x', d1 = .row [.str n, .bool s, .arr p, .str x] → d2 = .row [.str n', .bool s', .arr p', .str x'] → n = n' ∧ s = s') (k : ∀ h', Grew h h' → h'.n ≤ h.n + 2 → K (.bool (decide (d1 = d2))) h') :
    Gv Tryz.prog X0 Mx c 77 [.agg c1, .agg c2] h K := by
  have hnt : (38 : Nat) ≤ 1000000 := by decide
  obtain ⟨a3, a5, a7, av7, a9, rfl, rfl, al7, as7⟩ := rpd_Sig r1
  obtain ⟨b3, b5, b7, bv7, b9, rfl, rfl, bl7, bs7⟩ := rpd_Sig r2
  have kf : ¬ Dt.row [.str a3, .bool a5, .arr a7, .str a9] = Dt.row [.str b3, .bool b5, .arr b7, .str b9] → ∀ h', Grew h h' → h'.n ≤ h.n + 2 → K (.bool false) h' := fun q h' g1 g2 => by have := k h' g1 g2; rwa [decide_eq_false q] at this
  have kt : Dt.row [.str a3, .bool a5, .arr a7, .str a9] = Dt.row [.str b3, .bool b5, .arr b7, .str b9] → ∀ h', Grew h h' → h'.n ≤ h.n + 2 → K (.bool true) h' := fun q h' g1 g2 => by have := k h' g1 g2; rwa [decide_eq_true q] at this
  clear k r1 r2
  obtain ⟨hN, hS⟩ := hsame _ _ _ _ _ _ _ _ rfl rfl
  have hla0 := as7.le
  have hlb0 := bs7.le
  obtain ⟨ia0, ra0, oa0, Aa0, ea0, pa0⟩ := as7.out
  obtain ⟨ib0, rb0, ob0, Ab0, eb0, pb0⟩ := bs7.out
  have hza0 : (.str : Sh).sz = 1 := rfl
  rw [hza0] at Aa0 Ab0
  refine gv_fn x_R10SameSig (Mx_no rfl _ _ _) (by simp) hnt ?_
  unfold s_R10SameSig SR.g SR.o SR.p
  refine wc_seq (wc_reg (rg_go hnt rfl rfl (wo_boxA rfl rfl (by omega) fun h1 hn1 hb1 hg1 => ?_)))
  refine rg_go hnt rfl rfl (wo_boxA rfl rfl (by omega) fun h2 hn2 hb2 hg2 => ?_)
  have hb12 : h2.get h.n = some (.cells [.str a3, .bool a5, av7, .str a9]) := (hg2.get h.n (by omega)).trans hb1
  have hb22 : h2.get h1.n = some (.cells [.str b3, .bool b5, bv7, .str b9]) := hb2
  have hs1 : seen c.vis h.n = true := hcx.new (Nat.le_refl _) (by omega)
  have hs2 : seen c.vis h1.n = true := hcx.new (by omega) (by omega)
  have hgA := hg1.trans hg2
  have Ba0 := Aa0.grew hgA
  have Bb0 := Ab0.grew hgA
  repeat' (first | refine z0 ?_ | refine z1 ?_ | refine z2 ?_ | refine z3 ?_ | refine z6 ?_ | refine z8 ?_ | refine za ?_ | refine zc ?_ | refine zd ?_ | refine zh ?_ | refine zk ?_ | (refine zm ?_ ?_ <;> intro hc <;> try (exfalso; omega)) | (refine zq ?_ ?_ <;> intro hc <;> try (exfalso; omega)) | (refine zs ?_ ?_ <;> intro hc) | refine wg_nil ?_ | refine then_go ?_ | refine wc_seq ?_ | refine wc_reg ?_ | refine wc_dreg ?_ | refine wc_block ?_ | refine zu ?_ | refine zv ?_ | refine wc_skip ?_ | refine wc_exit ?_ | refine wc_ret ?_ | refine then_ret ?_ | refine then_exit ?_ | refine out_go ?_ | refine out_ret ?_ | refine zA ?_ | refine zw ?_ | refine zx ?_ | refine wd_nil ?_)
  · refine wc_loopE (ι := Nat) (fun j => [(2, .ptr h.n 0), (3, .ptr h1.n 0), (5, .int .i64 (j : Int))]) (fun j h' => h' = h2 ∧ j ≤ a7.length ∧ (a7 = b7 ↔ a7.drop j = b7.drop j)) (fun j => a7.length - j) ?_ 0 ⟨rfl, Nat.zero_le _, by simp⟩ (Sub'.cons rfl (Sub'.cons rfl (Sub'.cons rfl (Sub'.nil _))))
    rintro j h' ⟨hh, hj, hd⟩
    have hh2 : h2 = h' := hh.symm
    subst hh2
    have hll : a7.length = b7.length := by omega
    by_cases hlt : j < a7.length
    · have g1 : ra0[j]? = some (ra0[j]'(by omega)) := List.getElem?_eq_getElem (by omega)
      have g2 : rb0[j]? = some (rb0[j]'(by omega)) := List.getElem?_eq_getElem (by omega)
      have hid1 : ia0 < h.n := by
        rcases Aa0.at_ with ⟨q, _⟩ | ⟨_, _, q, _⟩
        · rw [q] at ea0; simp at ea0; omega
        · exact q
      have hid2 : ib0 < h.n := by
        rcases Ab0.at_ with ⟨q, _⟩ | ⟨_, _, q, _⟩
        · rw [q] at eb0; simp at eb0; omega
        · exact q
      have hs1' := hall ia0 (by omega)
      have hs2' := hall ib0 (by omega)
      have m1 : a7[j]? = some (a7.getD j (.int 0)) := by simp [hlt]
      have m2 : b7[j]? = some (b7.getD j (.int 0)) := by simp [show j < b7.length by omega]
      have t1 := pa0 j _ _ m1 g1
      have t2 := pb0 j _ _ m2 g2
      rw [drop_eq hlt (by omega)] at hd
      obtain ⟨v1, v2, pb, w1, w2, q1, q2⟩ := sb_eq (by rfl) t1 t2
      rw [w1] at g1
      rw [w2] at g2
      repeat' (first | refine z0 ?_ | refine z1 ?_ | refine z2 ?_ | refine z3 ?_ | refine z6 ?_ | refine z8 ?_ | refine za ?_ | refine zc ?_ | refine zd ?_ | refine zh ?_ | refine zk ?_ | (refine zm ?_ ?_ <;> intro hc <;> try (exfalso; omega)) | (refine zq ?_ ?_ <;> intro hc <;> try (exfalso; omega)) | (refine zs ?_ ?_ <;> intro hc) | refine wg_nil ?_ | refine then_go ?_ | refine wc_seq ?_ | refine wc_reg ?_ | refine wc_dreg ?_ | refine wc_block ?_ | refine zu ?_ | refine zv ?_ | refine wc_skip ?_ | refine wc_exit ?_ | refine wc_ret ?_ | refine then_ret ?_ | refine then_exit ?_ | refine out_go ?_ | refine out_ret ?_ | refine zA ?_ | refine zw ?_ | refine zx ?_ | refine wd_nil ?_)
      refine wo_eql rfl rfl q1 ?_
      cases pb with
      | true =>
        have hX := q2.1 rfl
        repeat' (first | refine z0 ?_ | refine z1 ?_ | refine z2 ?_ | refine z3 ?_ | refine z6 ?_ | refine z8 ?_ | refine za ?_ | refine zc ?_ | refine zd ?_ | refine zh ?_ | refine zk ?_ | (refine zm ?_ ?_ <;> intro hc <;> try (exfalso; omega)) | (refine zq ?_ ?_ <;> intro hc <;> try (exfalso; omega)) | (refine zs ?_ ?_ <;> intro hc) | refine wg_nil ?_ | refine then_go ?_ | refine wc_seq ?_ | refine wc_reg ?_ | refine wc_dreg ?_ | refine wc_block ?_ | refine zu ?_ | refine zv ?_ | refine wc_skip ?_ | refine wc_exit ?_ | refine wc_ret ?_ | refine then_ret ?_ | refine then_exit ?_ | refine out_go ?_ | refine out_ret ?_ | refine zA ?_ | refine zw ?_ | refine zx ?_ | refine wd_nil ?_)
        exact ⟨j + 1, by simp; omega, (Sub'.cons rfl (Sub'.cons rfl (Sub'.cons rfl (Sub'.nil _)))), rfl, hlt, by rw [hd]; exact ⟨fun q => q.2, fun q => ⟨hX, q⟩⟩⟩
      | false =>
        have hX : ¬ a7.getD j (.int 0) = b7.getD j (.int 0) := fun q => absurd (q2.2 q) (by simp)
        repeat' (first | refine z0 ?_ | refine z1 ?_ | refine z2 ?_ | refine z3 ?_ | refine z6 ?_ | refine z8 ?_ | refine za ?_ | refine zc ?_ | refine zd ?_ | refine zh ?_ | refine zk ?_ | (refine zm ?_ ?_ <;> intro hc <;> try (exfalso; omega)) | (refine zq ?_ ?_ <;> intro hc <;> try (exfalso; omega)) | (refine zs ?_ ?_ <;> intro hc) | refine wg_nil ?_ | refine then_go ?_ | refine wc_seq ?_ | refine wc_reg ?_ | refine wc_dreg ?_ | refine wc_block ?_ | refine zu ?_ | refine zv ?_ | refine wc_skip ?_ | refine wc_exit ?_ | refine wc_ret ?_ | refine then_ret ?_ | refine then_exit ?_ | refine out_go ?_ | refine out_ret ?_ | refine zA ?_ | refine zw ?_ | refine zx ?_ | refine wd_nil ?_)
        exact ⟨Or.inr rfl, _, rfl, kf (fun q => by simp only [Dt.row.injEq, List.cons.injEq, Dt.str.injEq, Dt.int.injEq, Dt.bool.injEq, Dt.arr.injEq, and_true, true_and, and_assoc] at q; obtain ⟨rfl, rfl, rfl, rfl⟩ := q; first | exact hX rfl | omega) _ hgA (by omega)⟩
    · have hq0 := hd.2 (by rw [List.drop_eq_nil_of_le (by omega), List.drop_eq_nil_of_le (by omega)])
      repeat' (first | refine z0 ?_ | refine z1 ?_ | refine z2 ?_ | refine z3 ?_ | refine z6 ?_ | refine z8 ?_ | refine za ?_ | refine zc ?_ | refine zd ?_ | refine zh ?_ | refine zk ?_ | (refine zm ?_ ?_ <;> intro hc <;> try (exfalso; omega)) | (refine zq ?_ ?_ <;> intro hc <;> try (exfalso; omega)) | (refine zs ?_ ?_ <;> intro hc) | refine wg_nil ?_ | refine then_go ?_ | refine wc_seq ?_ | refine wc_reg ?_ | refine wc_dreg ?_ | refine wc_block ?_ | refine zu ?_ | refine zv ?_ | refine wc_skip ?_ | refine wc_exit ?_ | refine wc_ret ?_ | refine then_ret ?_ | refine then_exit ?_ | refine out_go ?_ | refine out_ret ?_ | refine zA ?_ | refine zw ?_ | refine zx ?_ | refine wd_nil ?_)
      exact ⟨Or.inr rfl, _, rfl, kt (by congr <;> assumption) _ hgA (by omega)⟩
  all_goals exact ⟨Or.inr rfl, _, rfl, kf (fun q => by simp only [Dt.row.injEq, List.cons.injEq, Dt.str.injEq, Dt.int.injEq, Dt.bool.injEq, Dt.arr.injEq, and_true, true_and, and_assoc] at q; obtain ⟨rfl, rfl, rfl, rfl⟩ := q; first | exact hc rfl | omega) _ hgA (by omega)⟩
end Go.Proofs.YtaioinkajndjkaaGreatDoor.Ev