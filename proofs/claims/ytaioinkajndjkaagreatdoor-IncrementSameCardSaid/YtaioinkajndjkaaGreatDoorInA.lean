/- slices.Equal and slices.EqualFunc; shapes. -/
import Derived.Test.YtaioinkajndjkaaGreatDoorSyI
set_option linter.unusedVariables false
set_option linter.unusedSimpArgs false
/- slices.Equal and slices.EqualFunc, whatever the elements. -/
set_option maxHeartbeats 4000000
namespace Go.Proofs.YtaioinkajndjkaaGreatDoor.Ev
open Go
def eqCodeN (esz : Nat) (q : SQ) : SC := (.seq (.reg [
   ⟨(some 4), .mv (.const (.bool false)), none, 0, false, false, none⟩])
 (.seq (.seq (.reg [
   ⟨(some 6), .mv (.tmp 0), none, 0, false, false, none⟩,
   ⟨(some 7), .lenL (.tmp 6), none, 0, false, false, none⟩,
   ⟨(some 8), .mv (.tmp 1), none, 0, false, false, none⟩,
   ⟨(some 9), .lenL (.tmp 8), none, 0, false, false, none⟩,
   ⟨(some 10), .eql (.b .int) true (.tmp 7) (.tmp 9), none, 0, false, false, none⟩])
 (.cond (.tmp 10)
  (.seq (.reg [
     ⟨(some 4), .mv (.const (.bool false)), none, 0, false, false, none⟩])
   .ret)
  .skip))
 (.seq (.seq (.reg [
   ⟨(some 11), .mv (.tmp 0), none, 0, false, false, none⟩,
   ⟨(some 12), .lenL (.tmp 11), none, 0, false, false, none⟩,
   ⟨(some 13), .mv (.const (.int .i64 0)), none, 0, false, false, none⟩])
 (.block 0
  (.loop
   (.seq (.reg [
     ⟨(some 14), .ints .lss (.tmp 13) (.tmp 12), none, 0, false, false, none⟩])
   (.seq (.cond (.tmp 14)
    .skip
    (.exit 0))
   (.seq (.block 1
    (.seq (.reg [
      ⟨(some 15), .mv (.tmp 13), none, 0, false, false, none⟩,
      ⟨(some 5), .mv (.tmp 15), none, 0, false, false, none⟩])
    (.seq (.dreg [
      ⟨(some 16), .mv (.tmp 0), none, 0, false, false, none⟩,
      ⟨(some 17), .mv (.tmp 5), none, 0, false, false, none⟩,
      ⟨(some 18), .iaddr esz (.tmp 16) (.tmp 17), none, 3, false, false, none⟩,
      ⟨(some 19), .loadN esz (.tmp 18), none, 7, false, false, (some (.tmp 18))⟩,
      ⟨(some 20), .mv (.tmp 1), none, 0, false, false, none⟩,
      ⟨(some 21), .mv (.tmp 5), none, 0, false, false, none⟩,
      ⟨(some 22), .iaddr esz (.tmp 20) (.tmp 21), none, 48, false, false, none⟩,
      ⟨(some 23), .loadN esz (.tmp 22), none, 112, false, false, (some (.tmp 22))⟩,
      ⟨(some 24), .eql q true (.tmp 19) (.tmp 23), none, 255, false, false, none⟩])
    (.cond (.tmp 24)
     (.seq (.reg [
        ⟨(some 4), .mv (.const (.bool false)), none, 0, false, false, none⟩])
      .ret)
     .skip))))
   (.reg [
     ⟨(some 25), .ints .add (.tmp 13) (.const (.int .i64 1)), none, 0, false, false, none⟩,
     ⟨(some 13), .mv (.tmp 25), none, 0, false, false, none⟩])))))))
 (.seq (.reg [
   ⟨(some 4), .mv (.const (.bool true)), none, 0, false, false, none⟩])
 .ret))))
def efCode (esz : Nat) (zs : List AV) : SC := (.seq (.reg [
   ⟨(some 6), .mv (.const (.bool false)), none, 0, false, false, none⟩])
 (.seq (.seq (.reg [
   ⟨(some 10), .mv (.tmp 0), none, 0, false, false, none⟩,
   ⟨(some 11), .lenL (.tmp 10), none, 0, false, false, none⟩,
   ⟨(some 12), .mv (.tmp 1), none, 0, false, false, none⟩,
   ⟨(some 13), .lenL (.tmp 12), none, 0, false, false, none⟩,
   ⟨(some 14), .eql (.b .int) true (.tmp 11) (.tmp 13), none, 0, false, false, none⟩])
 (.cond (.tmp 14)
  (.seq (.reg [
     ⟨(some 6), .mv (.const (.bool false)), none, 0, false, false, none⟩])
   .ret)
  .skip))
 (.seq (.seq (.reg [
   ⟨(some 15), .mv (.tmp 0), none, 0, false, false, none⟩,
   ⟨(some 16), .lenL (.tmp 15), none, 0, false, false, none⟩,
   ⟨(some 17), .mv (.const (.int .i64 0)), none, 0, false, false, none⟩])
 (.block 0
  (.loop
   (.seq (.reg [
     ⟨(some 18), .ints .lss (.tmp 17) (.tmp 16), none, 0, false, false, none⟩])
   (.seq (.cond (.tmp 18)
    .skip
    (.exit 0))
   (.seq (.block 1
    (.seq (.reg [
      ⟨(some 19), .mv (.tmp 17), none, 0, false, false, none⟩,
      ⟨(some 20), .iaddr esz (.tmp 15) (.tmp 17), none, 0, false, false, none⟩,
      ⟨(some 21), .loadN esz (.tmp 20), none, 0, false, false, none⟩,
      ⟨(some 8), .box (.const (.agg zs)), none, 0, false, false, none⟩,
      ⟨(some 7), .mv (.tmp 19), none, 0, false, false, none⟩,
      ⟨none, .store esz (.tmp 8) (.tmp 21), none, 0, true, false, none⟩])
    (.seq (.reg [
      ⟨(some 22), .mv (.tmp 1), none, 0, false, false, none⟩,
      ⟨(some 23), .mv (.tmp 7), none, 0, false, false, none⟩,
      ⟨(some 24), .iaddr esz (.tmp 22) (.tmp 23), none, 0, false, false, none⟩,
      ⟨(some 25), .loadN esz (.tmp 24), none, 0, false, false, none⟩,
      ⟨(some 9), .box (.const (.agg zs)), none, 0, false, false, none⟩,
      ⟨none, .store esz (.tmp 9) (.tmp 25), none, 0, true, false, none⟩])
    (.seq (.reg [
      ⟨(some 26), .mv (.tmp 2), none, 0, false, false, none⟩,
      ⟨(some 27), .loadN esz (.tmp 8), none, 0, false, false, none⟩,
      ⟨(some 28), .loadN esz (.tmp 9), none, 0, false, false, none⟩,
      ⟨(some 29), .call (.tmp 26) [(.tmp 27), (.tmp 28)], none, 0, true, false, none⟩,
      ⟨(some 30), .not (.tmp 29), none, 0, false, false, none⟩])
    (.cond (.tmp 30)
     (.seq (.reg [
        ⟨(some 6), .mv (.const (.bool false)), none, 0, false, false, none⟩])
      .ret)
     .skip)))))
   (.reg [
     ⟨(some 31), .ints .add (.tmp 17) (.const (.int .i64 1)), none, 0, false, false, none⟩,
     ⟨(some 17), .mv (.tmp 31), none, 0, false, false, none⟩])))))))
 (.seq (.reg [
   ⟨(some 6), .mv (.const (.bool true)), none, 0, false, false, none⟩])
 .ret))))
def eqCode1 (q : SB) : SC := (.seq (.reg [
   ⟨(some 4), .mv (.const (.bool false)), none, 0, false, false, none⟩])
 (.seq (.seq (.reg [
   ⟨(some 6), .mv (.tmp 0), none, 0, false, false, none⟩,
   ⟨(some 7), .lenL (.tmp 6), none, 0, false, false, none⟩,
   ⟨(some 8), .mv (.tmp 1), none, 0, false, false, none⟩,
   ⟨(some 9), .lenL (.tmp 8), none, 0, false, false, none⟩,
   ⟨(some 10), .eql (.b .int) true (.tmp 7) (.tmp 9), none, 0, false, false, none⟩])
 (.cond (.tmp 10)
  (.seq (.reg [
     ⟨(some 4), .mv (.const (.bool false)), none, 0, false, false, none⟩])
   .ret)
  .skip))
 (.seq (.seq (.reg [
   ⟨(some 11), .mv (.tmp 0), none, 0, false, false, none⟩,
   ⟨(some 12), .lenL (.tmp 11), none, 0, false, false, none⟩,
   ⟨(some 13), .mv (.const (.int .i64 0)), none, 0, false, false, none⟩])
 (.block 0
  (.loop
   (.seq (.reg [
     ⟨(some 14), .ints .lss (.tmp 13) (.tmp 12), none, 0, false, false, none⟩])
   (.seq (.cond (.tmp 14)
    .skip
    (.exit 0))
   (.seq (.block 1
    (.seq (.reg [
      ⟨(some 15), .mv (.tmp 13), none, 0, false, false, none⟩,
      ⟨(some 5), .mv (.tmp 15), none, 0, false, false, none⟩])
    (.seq (.dreg [
      ⟨(some 16), .mv (.tmp 0), none, 0, false, false, none⟩,
      ⟨(some 17), .mv (.tmp 5), none, 0, false, false, none⟩,
      ⟨(some 18), .iaddr 1 (.tmp 16) (.tmp 17), none, 3, false, false, none⟩,
      ⟨(some 19), .load1 (.tmp 18), none, 7, false, false, (some (.tmp 18))⟩,
      ⟨(some 20), .mv (.tmp 1), none, 0, false, false, none⟩,
      ⟨(some 21), .mv (.tmp 5), none, 0, false, false, none⟩,
      ⟨(some 22), .iaddr 1 (.tmp 20) (.tmp 21), none, 48, false, false, none⟩,
      ⟨(some 23), .load1 (.tmp 22), none, 112, false, false, (some (.tmp 22))⟩,
      ⟨(some 24), .eql (.b q) true (.tmp 19) (.tmp 23), none, 255, false, false, none⟩])
    (.cond (.tmp 24)
     (.seq (.reg [
        ⟨(some 4), .mv (.const (.bool false)), none, 0, false, false, none⟩])
      .ret)
     .skip))))
   (.reg [
     ⟨(some 25), .ints .add (.tmp 13) (.const (.int .i64 1)), none, 0, false, false, none⟩,
     ⟨(some 13), .mv (.tmp 25), none, 0, false, false, none⟩])))))))
 (.seq (.reg [
   ⟨(some 4), .mv (.const (.bool true)), none, 0, false, false, none⟩])
 .ret))))
section
variable {P : Program} {X : Exts} {M : Mf} {c : C} {h : H} {K : AV → H → Prop}
open Classical in
theorem eqN_ev {f esz B : Nat} {fl : Bool} {shs : List Sh} {bs : List SB} {l1 l2 : List Dt} {s1 s2 : AV} (hx : tblX P X f = some (.fn ⟨26, [(4, none)], (eqCodeN esz (.st bs)).den⟩)) (hM : ∀ args c h, M f args c h = none) (hcx : Cx c h) (hbs : sbsOf shs = some bs) (hz : szL shs = esz) (a : Sl B fl h (.row shs) l1 s1) (b : Sl B fl h (.row shs) l2 s2) (hsee : ∀ id, id < h.n → seen c.vis id = true) (hn : h.n < 10000000)
    (k : K (.bool (decide (l1 = l2))) h) : Gv P X M c f [s1, s2] h K := by
  have hnt : (26 : Nat) ≤ 1000000 := by decide
  have hl1 := a.le
  have hl2 := b.le
  obtain ⟨i1, r1, o1, A1, e1, p1⟩ := a.out
  obtain ⟨i2, r2, o2, A2, e2, p2⟩ := b.out
  have hsz : (Sh.row shs).sz = esz := hz
  rw [hsz] at A1 A2
  have kf : ¬ l1 = l2 → K (.bool false) h := fun q => by rwa [decide_eq_false q] at k
  have kt : l1 = l2 → K (.bool true) h := fun q => by rwa [decide_eq_true q] at k
  clear k
  refine gv_fn hx (hM _ _ _) (by simp) hnt ?_
  unfold eqCodeN
  repeat' (first | refine z0 ?_ | refine z2 ?_ | refine z6 ?_ | refine z8 ?_ | refine za ?_ | refine zl ?_ | (refine zm ?_ ?_ <;> intro hc <;> try (exfalso; omega)) | (refine zq ?_ ?_ <;> intro hc <;> try (exfalso; omega)) | refine wg_nil ?_ | refine then_go ?_ | refine wc_seq ?_ | refine wc_reg ?_ | refine wc_dreg ?_ | refine wc_block ?_ | refine zu ?_ | refine zv ?_ | refine wc_skip ?_ | refine wc_exit ?_ | refine wc_ret ?_ | refine then_ret ?_ | refine then_exit ?_ | refine out_go ?_ | refine out_ret ?_ | refine zA ?_ | refine zw ?_ | refine zx ?_ | refine wd_nil ?_)
  · refine wc_loopE (ι := Nat) (fun j => [(0, s1), (1, s2), (12, .int .i64 (r1.length : Int)), (13, .int .i64 (j : Int))]) (fun j h' => h' = h ∧ j ≤ l1.length ∧ (l1 = l2 ↔ l1.drop j = l2.drop j)) (fun j => l1.length - j) ?_ 0 ⟨rfl, Nat.zero_le _, by simp⟩ (Sub'.cons rfl (Sub'.cons rfl (Sub'.cons rfl (Sub'.cons rfl (Sub'.nil _)))))
    rintro j h' ⟨rfl, hj, hd⟩
    have hll : l1.length = l2.length := by omega
    by_cases hlt : j < l1.length
    · have g1 : r1[j]? = some (r1[j]'(by omega)) := List.getElem?_eq_getElem (by omega)
      have g2 : r2[j]? = some (r2[j]'(by omega)) := List.getElem?_eq_getElem (by omega)
      have hid1 : i1 < h'.n := by
        rcases A1.at_ with ⟨q, _⟩ | ⟨_, _, q, _⟩
        · rw [q] at e1; simp at e1; omega
        · exact q
      have hid2 : i2 < h'.n := by
        rcases A2.at_ with ⟨q, _⟩ | ⟨_, _, q, _⟩
        · rw [q] at e2; simp at e2; omega
        · exact q
      have hs1 := hsee i1 hid1
      have hs2 := hsee i2 hid2
      have m1 : l1[j]? = some (l1.getD j (.int 0)) := by simp [hlt]
      have m2 : l2[j]? = some (l2.getD j (.int 0)) := by simp [show j < l2.length by omega]
      have t1 := p1 j _ _ m1 g1
      have t2 := p2 j _ _ m2 g2
      rw [drop_eq hlt (by omega)] at hd
      repeat' (first | refine z0 ?_ | refine z2 ?_ | refine z6 ?_ | refine z8 ?_ | refine za ?_ | refine zl ?_ | (refine zm ?_ ?_ <;> intro hc <;> try (exfalso; omega)) | (refine zq ?_ ?_ <;> intro hc <;> try (exfalso; omega)) | refine wg_nil ?_ | refine then_go ?_ | refine wc_seq ?_ | refine wc_reg ?_ | refine wc_dreg ?_ | refine wc_block ?_ | refine zu ?_ | refine zv ?_ | refine wc_skip ?_ | refine wc_exit ?_ | refine wc_ret ?_ | refine then_ret ?_ | refine then_exit ?_ | refine out_go ?_ | refine out_ret ?_ | refine zA ?_ | refine zw ?_ | refine zx ?_ | refine wd_nil ?_)
      refine wo_eqRow t1 t2 hbs rfl rfl ?_ ?_ <;> intro hc
      · repeat' (first | refine z0 ?_ | refine z2 ?_ | refine z6 ?_ | refine z8 ?_ | refine za ?_ | refine zl ?_ | (refine zm ?_ ?_ <;> intro hc <;> try (exfalso; omega)) | (refine zq ?_ ?_ <;> intro hc <;> try (exfalso; omega)) | refine wg_nil ?_ | refine then_go ?_ | refine wc_seq ?_ | refine wc_reg ?_ | refine wc_dreg ?_ | refine wc_block ?_ | refine zu ?_ | refine zv ?_ | refine wc_skip ?_ | refine wc_exit ?_ | refine wc_ret ?_ | refine then_ret ?_ | refine then_exit ?_ | refine out_go ?_ | refine out_ret ?_ | refine zA ?_ | refine zw ?_ | refine zx ?_ | refine wd_nil ?_)
        exact ⟨j + 1, by simp; omega, (Sub'.cons rfl (Sub'.cons rfl (Sub'.cons rfl (Sub'.cons rfl (Sub'.nil _))))), rfl, hlt, by rw [hd]; exact ⟨fun q => q.2, fun q => ⟨hc, q⟩⟩⟩
      · repeat' (first | refine z0 ?_ | refine z2 ?_ | refine z6 ?_ | refine z8 ?_ | refine za ?_ | refine zl ?_ | (refine zm ?_ ?_ <;> intro hc <;> try (exfalso; omega)) | (refine zq ?_ ?_ <;> intro hc <;> try (exfalso; omega)) | refine wg_nil ?_ | refine then_go ?_ | refine wc_seq ?_ | refine wc_reg ?_ | refine wc_dreg ?_ | refine wc_block ?_ | refine zu ?_ | refine zv ?_ | refine wc_skip ?_ | refine wc_exit ?_ | refine wc_ret ?_ | refine then_ret ?_ | refine then_exit ?_ | refine out_go ?_ | refine out_ret ?_ | refine zA ?_ | refine zw ?_ | refine zx ?_ | refine wd_nil ?_)
        exact ⟨Or.inr rfl, _, rfl, kf fun q => hc (hd.1 q).1⟩
    · repeat' (first | refine z0 ?_ | refine z2 ?_ | refine z6 ?_ | refine z8 ?_ | refine za ?_ | refine zl ?_ | (refine zm ?_ ?_ <;> intro hc <;> try (exfalso; omega)) | (refine zq ?_ ?_ <;> intro hc <;> try (exfalso; omega)) | refine wg_nil ?_ | refine then_go ?_ | refine wc_seq ?_ | refine wc_reg ?_ | refine wc_dreg ?_ | refine wc_block ?_ | refine zu ?_ | refine zv ?_ | refine wc_skip ?_ | refine wc_exit ?_ | refine wc_ret ?_ | refine then_ret ?_ | refine then_exit ?_ | refine out_go ?_ | refine out_ret ?_ | refine zA ?_ | refine zw ?_ | refine zx ?_ | refine wd_nil ?_)
      exact ⟨Or.inr rfl, _, rfl, kt (hd.2 (by rw [List.drop_eq_nil_of_le (by omega), List.drop_eq_nil_of_le (by omega)]))⟩
  · exact ⟨Or.inr rfl, _, rfl, kf fun q => by rw [q] at e1; omega⟩
open Classical in
theorem eq1_ev {f B : Nat} {fl : Bool} {e : Sh} {sb : SB} {l1 l2 : List Dt} {s1 s2 : AV} (hx : tblX P X f = some (.fn ⟨26, [(4, none)], (eqCode1 sb).den⟩)) (hM : ∀ args c h, M f args c h = none) (hcx : Cx c h) (hbs : sbOf e = some sb) (a : Sl B fl h e l1 s1) (b : Sl B fl h e l2 s2) (hsee : ∀ id, id < h.n → seen c.vis id = true) (hn : h.n < 10000000)
    (k : K (.bool (decide (l1 = l2))) h) : Gv P X M c f [s1, s2] h K := by
  have hnt : (26 : Nat) ≤ 1000000 := by decide
  have hl1 := a.le
  have hl2 := b.le
  obtain ⟨i1, r1, o1, A1, e1, p1⟩ := a.out
  obtain ⟨i2, r2, o2, A2, e2, p2⟩ := b.out
  have hsz : e.sz = 1 := by cases e <;> first | rfl | cases hbs
  rw [hsz] at A1 A2
  have kf : ¬ l1 = l2 → K (.bool false) h := fun q => by rwa [decide_eq_false q] at k
  have kt : l1 = l2 → K (.bool true) h := fun q => by rwa [decide_eq_true q] at k
  clear k
  refine gv_fn hx (hM _ _ _) (by simp) hnt ?_
  unfold eqCode1
  repeat' (first | refine z0 ?_ | refine z2 ?_ | refine z6 ?_ | refine z8 ?_ | refine za ?_ | refine zk ?_ | (refine zm ?_ ?_ <;> intro hc <;> try (exfalso; omega)) | (refine zq ?_ ?_ <;> intro hc <;> try (exfalso; omega)) | refine wg_nil ?_ | refine then_go ?_ | refine wc_seq ?_ | refine wc_reg ?_ | refine wc_dreg ?_ | refine wc_block ?_ | refine zu ?_ | refine zv ?_ | refine wc_skip ?_ | refine wc_exit ?_ | refine wc_ret ?_ | refine then_ret ?_ | refine then_exit ?_ | refine out_go ?_ | refine out_ret ?_ | refine zA ?_ | refine zw ?_ | refine zx ?_ | refine wd_nil ?_)
  · refine wc_loopE (ι := Nat) (fun j => [(0, s1), (1, s2), (12, .int .i64 (r1.length : Int)), (13, .int .i64 (j : Int))]) (fun j h' => h' = h ∧ j ≤ l1.length ∧ (l1 = l2 ↔ l1.drop j = l2.drop j)) (fun j => l1.length - j) ?_ 0 ⟨rfl, Nat.zero_le _, by simp⟩ (Sub'.cons rfl (Sub'.cons rfl (Sub'.cons rfl (Sub'.cons rfl (Sub'.nil _)))))
    rintro j h' ⟨rfl, hj, hd⟩
    have hll : l1.length = l2.length := by omega
    by_cases hlt : j < l1.length
    · have g1 : r1[j]? = some (r1[j]'(by omega)) := List.getElem?_eq_getElem (by omega)
      have g2 : r2[j]? = some (r2[j]'(by omega)) := List.getElem?_eq_getElem (by omega)
      have hid1 : i1 < h'.n := by
        rcases A1.at_ with ⟨q, _⟩ | ⟨_, _, q, _⟩
        · rw [q] at e1; simp at e1; omega
        · exact q
      have hid2 : i2 < h'.n := by
        rcases A2.at_ with ⟨q, _⟩ | ⟨_, _, q, _⟩
        · rw [q] at e2; simp at e2; omega
        · exact q
      have hs1 := hsee i1 hid1
      have hs2 := hsee i2 hid2
      have m1 : l1[j]? = some (l1.getD j (.int 0)) := by simp [hlt]
      have m2 : l2[j]? = some (l2.getD j (.int 0)) := by simp [show j < l2.length by omega]
      have t1 := p1 j _ _ m1 g1
      have t2 := p2 j _ _ m2 g2
      obtain ⟨v1, v2, pb, w1, w2, q1, q2⟩ := sb_eq hbs t1 t2
      rw [w1] at g1
      rw [w2] at g2
      rw [drop_eq hlt (by omega)] at hd
      repeat' (first | refine z0 ?_ | refine z2 ?_ | refine z6 ?_ | refine z8 ?_ | refine za ?_ | refine zk ?_ | (refine zm ?_ ?_ <;> intro hc <;> try (exfalso; omega)) | (refine zq ?_ ?_ <;> intro hc <;> try (exfalso; omega)) | refine wg_nil ?_ | refine then_go ?_ | refine wc_seq ?_ | refine wc_reg ?_ | refine wc_dreg ?_ | refine wc_block ?_ | refine zu ?_ | refine zv ?_ | refine wc_skip ?_ | refine wc_exit ?_ | refine wc_ret ?_ | refine then_ret ?_ | refine then_exit ?_ | refine out_go ?_ | refine out_ret ?_ | refine zA ?_ | refine zw ?_ | refine zx ?_ | refine wd_nil ?_)
      refine wo_eql rfl rfl q1 ?_
      cases pb with
      | true =>
        have hc := q2.1 rfl
        repeat' (first | refine z0 ?_ | refine z2 ?_ | refine z6 ?_ | refine z8 ?_ | refine za ?_ | refine zk ?_ | (refine zm ?_ ?_ <;> intro hc <;> try (exfalso; omega)) | (refine zq ?_ ?_ <;> intro hc <;> try (exfalso; omega)) | refine wg_nil ?_ | refine then_go ?_ | refine wc_seq ?_ | refine wc_reg ?_ | refine wc_dreg ?_ | refine wc_block ?_ | refine zu ?_ | refine zv ?_ | refine wc_skip ?_ | refine wc_exit ?_ | refine wc_ret ?_ | refine then_ret ?_ | refine then_exit ?_ | refine out_go ?_ | refine out_ret ?_ | refine zA ?_ | refine zw ?_ | refine zx ?_ | refine wd_nil ?_)
        exact ⟨j + 1, by simp; omega, (Sub'.cons rfl (Sub'.cons rfl (Sub'.cons rfl (Sub'.cons rfl (Sub'.nil _))))), rfl, hlt, by rw [hd]; exact ⟨fun q => q.2, fun q => ⟨hc, q⟩⟩⟩
      | false =>
        have hc : ¬ l1.getD j (.int 0) = l2.getD j (.int 0) := fun q => absurd (q2.2 q) (by simp)
        repeat' (first | refine z0 ?_ | refine z2 ?_ | refine z6 ?_ | refine z8 ?_ | refine za ?_ | refine zk ?_ | (refine zm ?_ ?_ <;> intro hc <;> try (exfalso; omega)) | (refine zq ?_ ?_ <;> intro hc <;> try (exfalso; omega)) | refine wg_nil ?_ | refine then_go ?_ | refine wc_seq ?_ | refine wc_reg ?_ | refine wc_dreg ?_ | refine wc_block ?_ | refine zu ?_ | refine zv ?_ | refine wc_skip ?_ | refine wc_exit ?_ | refine wc_ret ?_ | refine then_ret ?_ | refine then_exit ?_ | refine out_go ?_ | refine out_ret ?_ | refine zA ?_ | refine zw ?_ | refine zx ?_ | refine wd_nil ?_)
        exact ⟨Or.inr rfl, _, rfl, kf fun q => hc (hd.1 q).1⟩
    · repeat' (first | refine z0 ?_ | refine z2 ?_ | refine z6 ?_ | refine z8 ?_ | refine za ?_ | refine zk ?_ | (refine zm ?_ ?_ <;> intro hc <;> try (exfalso; omega)) | (refine zq ?_ ?_ <;> intro hc <;> try (exfalso; omega)) | refine wg_nil ?_ | refine then_go ?_ | refine wc_seq ?_ | refine wc_reg ?_ | refine wc_dreg ?_ | refine wc_block ?_ | refine zu ?_ | refine zv ?_ | refine wc_skip ?_ | refine wc_exit ?_ | refine wc_ret ?_ | refine then_ret ?_ | refine then_exit ?_ | refine out_go ?_ | refine out_ret ?_ | refine zA ?_ | refine zw ?_ | refine zx ?_ | refine wd_nil ?_)
      exact ⟨Or.inr rfl, _, rfl, kt (hd.2 (by rw [List.drop_eq_nil_of_le (by omega), List.drop_eq_nil_of_le (by omega)]))⟩
  · exact ⟨Or.inr rfl, _, rfl, kf fun q => by rw [q] at e1; omega⟩
open Classical in
theorem ef_ev {f g esz m B : Nat} {shs : List Sh} {zs : List AV} {l1 l2 : List Dt} {s1 s2 : AV} (hx : tblX P X f = some (.fn ⟨32, [(6, none)], (efCode esz zs).den⟩)) (hM : ∀ args c h, M f args c h = none) (hcx : Cx c h) (hz : szL shs = esz) (hzs : zs.length = esz) (a : Sl B true h (.row shs) l1 s1) (b : Sl B true h (.row shs) l2 s2) (hsee : ∀ id, id < h.n → seen c.vis id = true) (hn : h.n + l1.length * (m + 2) < 10000000)
    (hg : ∀ (h' : H) (d1 d2 : Dt) (c1 c2 : List AV) (K : AV → H → Prop), Grew h h' → h'.n + m ≤ h.n + l1.length * (m + 2) → d1 ∈ l1 → d2 ∈ l2 → Rp B true h' (.row shs) d1 c1 → Rp B true h' (.row shs) d2 c2 → (∀ h'', Grew h' h'' → h''.n ≤ h'.n + m → K (.bool (decide (d1 = d2))) h'') → Gv P X M c g [.agg c1, .agg c2] h' K)
    (k : ∀ h', Grew h h' → h'.n ≤ h.n + l1.length * (m + 2) → K (.bool (decide (l1 = l2))) h') : Gv P X M c f [s1, s2, .fn g []] h K := by
  have hnt : (32 : Nat) ≤ 1000000 := by decide
  have hl1 := a.le
  have hl2 := b.le
  obtain ⟨i1, r1, o1, A1, e1, p1⟩ := a.out
  obtain ⟨i2, r2, o2, A2, e2, p2⟩ := b.out
  have hsz : (Sh.row shs).sz = esz := hz
  rw [hsz] at A1 A2
  have kf : ¬ l1 = l2 → ∀ h', Grew h h' → h'.n ≤ h.n + l1.length * (m + 2) → K (.bool false) h' := fun q h' g1 g2 => by have := k h' g1 g2; rwa [decide_eq_false q] at this
  have kt : l1 = l2 → ∀ h', Grew h h' → h'.n ≤ h.n + l1.length * (m + 2) → K (.bool true) h' := fun q h' g1 g2 => by have := k h' g1 g2; rwa [decide_eq_true q] at this
  clear k
  refine gv_fn hx (hM _ _ _) (by simp) hnt ?_
  unfold efCode
  repeat' (first | refine z0 ?_ | refine z2 ?_ | refine z6 ?_ | refine z8 ?_ | refine za ?_ | refine ze ?_ | refine zl ?_ | (refine zm ?_ ?_ <;> intro hc <;> try (exfalso; omega)) | (refine zq ?_ ?_ <;> intro hc <;> try (exfalso; omega)) | refine wg_nil ?_ | refine then_go ?_ | refine wc_seq ?_ | refine wc_reg ?_ | refine wc_block ?_ | refine zu ?_ | refine zv ?_ | refine wc_skip ?_ | refine wc_exit ?_ | refine wc_ret ?_ | refine then_ret ?_ | refine then_exit ?_ | refine out_go ?_ | refine out_ret ?_ | refine zA ?_)
  · refine wc_loopE (ι := Nat) (fun j => [(1, s2), (2, .fn g []), (15, s1), (16, .int .i64 (r1.length : Int)), (17, .int .i64 (j : Int))]) (fun j h' => Grew h h' ∧ h'.n ≤ h.n + j * (m + 2) ∧ j ≤ l1.length ∧ (l1 = l2 ↔ l1.drop j = l2.drop j)) (fun j => l1.length - j) ?_ 0 ⟨Grew.refl _, by omega, Nat.zero_le _, by simp⟩ (Sub'.cons rfl (Sub'.cons rfl (Sub'.cons rfl (Sub'.cons rfl (Sub'.cons rfl (Sub'.nil _))))))
    rintro j h' ⟨hgr, hle, hj, hd⟩
    have hll : l1.length = l2.length := by omega
    have hgl := hgr.le
    have hjm : j * (m + 2) ≤ l1.length * (m + 2) := Nat.mul_le_mul_right _ hj
    by_cases hlt : j < l1.length
    · have hjm1 : (j + 1) * (m + 2) ≤ l1.length * (m + 2) := Nat.mul_le_mul_right _ hlt
      rw [Nat.succ_mul] at hjm1
      have g1 : r1[j]? = some (r1[j]'(by omega)) := List.getElem?_eq_getElem (by omega)
      have g2 : r2[j]? = some (r2[j]'(by omega)) := List.getElem?_eq_getElem (by omega)
      have hid1 : i1 < h.n := by
        rcases A1.at_ with ⟨q, _⟩ | ⟨_, _, q, _⟩
        · rw [q] at e1; simp at e1; omega
        · exact q
      have hid2 : i2 < h.n := by
        rcases A2.at_ with ⟨q, _⟩ | ⟨_, _, q, _⟩
        · rw [q] at e2; simp at e2; omega
        · exact q
      have hs1 := hsee i1 hid1
      have hs2 := hsee i2 hid2
      have m1 : l1[j]? = some (l1.getD j (.int 0)) := by simp [hlt]
      have m2 : l2[j]? = some (l2.getD j (.int 0)) := by simp [show j < l2.length by omega]
      have t1 := p1 j _ _ m1 g1
      have t2 := p2 j _ _ m2 g2
      rw [drop_eq hlt (by omega)] at hd
      generalize r1[j]'(by omega) = w1 at g1 t1
      generalize r2[j]'(by omega) = w2 at g2 t2
      have B1 := A1.grew hgr
      repeat' (first | refine z0 ?_ | refine z2 ?_ | refine z6 ?_ | refine z8 ?_ | refine za ?_ | refine ze ?_ | refine zl ?_ | (refine zm ?_ ?_ <;> intro hc <;> try (exfalso; omega)) | (refine zq ?_ ?_ <;> intro hc <;> try (exfalso; omega)) | refine wg_nil ?_ | refine then_go ?_ | refine wc_seq ?_ | refine wc_reg ?_ | refine wc_block ?_ | refine zu ?_ | refine zv ?_ | refine wc_skip ?_ | refine wc_exit ?_ | refine wc_ret ?_ | refine then_ret ?_ | refine then_exit ?_ | refine out_go ?_ | refine out_ret ?_ | refine zA ?_)
      refine rg_bs1 hnt rfl (hcx.mono hgl) (by omega) rfl rfl rfl rfl hzs (t1.len.trans hz) t1.ones fun h1 hn1 hb1 hg1 => ?_
      have B2 := A2.grew (hgr.trans hg1)
      have hsb1 : seen c.vis h'.n = true := hcx.new (by omega) (by omega)
      repeat' (first | refine z0 ?_ | refine z2 ?_ | refine z6 ?_ | refine z8 ?_ | refine za ?_ | refine ze ?_ | refine zl ?_ | (refine zm ?_ ?_ <;> intro hc <;> try (exfalso; omega)) | (refine zq ?_ ?_ <;> intro hc <;> try (exfalso; omega)) | refine wg_nil ?_ | refine then_go ?_ | refine wc_seq ?_ | refine wc_reg ?_ | refine wc_block ?_ | refine zu ?_ | refine zv ?_ | refine wc_skip ?_ | refine wc_exit ?_ | refine wc_ret ?_ | refine then_ret ?_ | refine then_exit ?_ | refine out_go ?_ | refine out_ret ?_ | refine zA ?_)
      refine rg_bs hnt (hcx.mono (by omega)) (by omega) rfl rfl rfl hzs (t2.len.trans hz) t2.ones fun h2 hn2 hb2 hg2 => ?_
      have hsb2 : seen c.vis h1.n = true := hcx.new (by omega) (by omega)
      have hb12 : h2.get h'.n = some (.cells w1) := (hg2.get h'.n (by omega)).trans hb1
      have hb22 : h2.get h1.n = some (.cells w2) := hb2
      have hgA := (hgr.trans hg1).trans hg2
      have l1' : w1.length = esz := t1.len.trans hz
      have l2' : w2.length = esz := t2.len.trans hz
      repeat' (first | refine z0 ?_ | refine z2 ?_ | refine z6 ?_ | refine z8 ?_ | refine za ?_ | refine ze ?_ | refine zl ?_ | (refine zm ?_ ?_ <;> intro hc <;> try (exfalso; omega)) | (refine zq ?_ ?_ <;> intro hc <;> try (exfalso; omega)) | refine wg_nil ?_ | refine then_go ?_ | refine wc_seq ?_ | refine wc_reg ?_ | refine wc_block ?_ | refine zu ?_ | refine zv ?_ | refine wc_skip ?_ | refine wc_exit ?_ | refine wc_ret ?_ | refine then_ret ?_ | refine then_exit ?_ | refine out_go ?_ | refine out_ret ?_ | refine zA ?_)
      refine wo_loadN (us := w1) rfl hsb1 hb12 (by omega) (by rw [List.drop_zero, List.take_of_length_le (by omega)]) ?_
      repeat' (first | refine z0 ?_ | refine z2 ?_ | refine z6 ?_ | refine z8 ?_ | refine za ?_ | refine ze ?_ | refine zl ?_ | (refine zm ?_ ?_ <;> intro hc <;> try (exfalso; omega)) | (refine zq ?_ ?_ <;> intro hc <;> try (exfalso; omega)) | refine wg_nil ?_ | refine then_go ?_ | refine wc_seq ?_ | refine wc_reg ?_ | refine wc_block ?_ | refine zu ?_ | refine zv ?_ | refine wc_skip ?_ | refine wc_exit ?_ | refine wc_ret ?_ | refine then_ret ?_ | refine then_exit ?_ | refine out_go ?_ | refine out_ret ?_ | refine zA ?_)
      refine wo_loadN (us := w2) rfl hsb2 hb22 (by omega) (by rw [List.drop_zero, List.take_of_length_le (by omega)]) ?_
      repeat' (first | refine z0 ?_ | refine z2 ?_ | refine z6 ?_ | refine z8 ?_ | refine za ?_ | refine ze ?_ | refine zl ?_ | (refine zm ?_ ?_ <;> intro hc <;> try (exfalso; omega)) | (refine zq ?_ ?_ <;> intro hc <;> try (exfalso; omega)) | refine wg_nil ?_ | refine then_go ?_ | refine wc_seq ?_ | refine wc_reg ?_ | refine wc_block ?_ | refine zu ?_ | refine zv ?_ | refine wc_skip ?_ | refine wc_exit ?_ | refine wc_ret ?_ | refine then_ret ?_ | refine then_exit ?_ | refine out_go ?_ | refine out_ret ?_ | refine zA ?_)
      refine wo_call rfl rfl (hg h2 _ _ _ _ _ hgA (by omega) (List.mem_of_getElem? m1) (List.mem_of_getElem? m2) (t1.grew hgA) (t2.grew hgA) fun h3 hg3 hn3 => ?_)
      have hg3l := hg3.le
      by_cases hc : l1.getD j (.int 0) = l2.getD j (.int 0)
      · rw [decide_eq_true hc]
        repeat' (first | refine z0 ?_ | refine z2 ?_ | refine z6 ?_ | refine z8 ?_ | refine za ?_ | refine ze ?_ | refine zl ?_ | (refine zm ?_ ?_ <;> intro hc <;> try (exfalso; omega)) | (refine zq ?_ ?_ <;> intro hc <;> try (exfalso; omega)) | refine wg_nil ?_ | refine then_go ?_ | refine wc_seq ?_ | refine wc_reg ?_ | refine wc_block ?_ | refine zu ?_ | refine zv ?_ | refine wc_skip ?_ | refine wc_exit ?_ | refine wc_ret ?_ | refine then_ret ?_ | refine then_exit ?_ | refine out_go ?_ | refine out_ret ?_ | refine zA ?_)
        exact ⟨j + 1, by simp; omega, (Sub'.cons rfl (Sub'.cons rfl (Sub'.cons rfl (Sub'.cons rfl (Sub'.cons rfl (Sub'.nil _)))))), hgA.trans hg3, by rw [Nat.succ_mul]; omega, hlt, by rw [hd]; exact ⟨fun q => q.2, fun q => ⟨hc, q⟩⟩⟩
      · rw [decide_eq_false hc]
        repeat' (first | refine z0 ?_ | refine z2 ?_ | refine z6 ?_ | refine z8 ?_ | refine za ?_ | refine ze ?_ | refine zl ?_ | (refine zm ?_ ?_ <;> intro hc <;> try (exfalso; omega)) | (refine zq ?_ ?_ <;> intro hc <;> try (exfalso; omega)) | refine wg_nil ?_ | refine then_go ?_ | refine wc_seq ?_ | refine wc_reg ?_ | refine wc_block ?_ | refine zu ?_ | refine zv ?_ | refine wc_skip ?_ | refine wc_exit ?_ | refine wc_ret ?_ | refine then_ret ?_ | refine then_exit ?_ | refine out_go ?_ | refine out_ret ?_ | refine zA ?_)
        exact ⟨Or.inr rfl, _, rfl, kf (fun q => hc (hd.1 q).1) _ (hgA.trans hg3) (by omega)⟩
    · repeat' (first | refine z0 ?_ | refine z2 ?_ | refine z6 ?_ | refine z8 ?_ | refine za ?_ | refine ze ?_ | refine zl ?_ | (refine zm ?_ ?_ <;> intro hc <;> try (exfalso; omega)) | (refine zq ?_ ?_ <;> intro hc <;> try (exfalso; omega)) | refine wg_nil ?_ | refine then_go ?_ | refine wc_seq ?_ | refine wc_reg ?_ | refine wc_block ?_ | refine zu ?_ | refine zv ?_ | refine wc_skip ?_ | refine wc_exit ?_ | refine wc_ret ?_ | refine then_ret ?_ | refine then_exit ?_ | refine out_go ?_ | refine out_ret ?_ | refine zA ?_)
      exact ⟨Or.inr rfl, _, rfl, kt (hd.2 (by rw [List.drop_eq_nil_of_le (by omega), List.drop_eq_nil_of_le (by omega)])) _ hgr (by omega)⟩
  · exact ⟨Or.inr rfl, _, rfl, kf (fun q => by rw [q] at e1; omega) _ (Grew.refl _) (by omega)⟩
end
end Go.Proofs.YtaioinkajndjkaaGreatDoor.Ev
/- The shapes of states. -/
set_option maxHeartbeats 4000000
namespace Go.Proofs.YtaioinkajndjkaaGreatDoor.Ev
open Go
abbrev ShField : Sh := .row [.str, .str]
abbrev ShSig : Sh := .row [.str, .bool, (.arr .str), .str]
abbrev ShClass : Sh := .row [.str, .str, (.arr ShField), (.arr ShSig)]
abbrev ShHier : Sh := .row [(.arr ShClass)]
abbrev ShInstr : Sh := .row [(.int .i64), (.int .i64), (.int .i64), (.int .i64), (.int .i64), .str, .str, (.arr (.int .i64)), (.int .i64), (.int .i64)]
abbrev ShFunc : Sh := .row [.str, .str, .bool, (.int .i64), (.arr ShField), .str, (.arr ShInstr)]
abbrev ShUnit : Sh := .row [ShHier, (.arr ShFunc), (.int .i64)]
abbrev ShAP : Sh := .row [(.int .i64), (.int .i64), (.arr .str), .bool]
abbrev ShRule : Sh := .row [(.int .i64), .str, .str, ShAP, .str]
abbrev ShMove : Sh := .row [(.int .i64), .str, (.int .i64)]
abbrev ShProto : Sh := .row [.str, (.arr .str), (.int .i64), (.int .i64), (.arr ShMove)]
abbrev ShPolicy : Sh := .row [(.arr ShRule), (.arr ShProto)]
abbrev ShKey : Sh := .row [.str, .str]
abbrev ShNP : Sh := .row [.str, .str]
abbrev ShMemo : Sh := .row [ShKey, .str, (.arr ShNP), (.arr ShNP)]
abbrev ShState : Sh := .row [ShUnit, ShPolicy, (.arr ShMemo)]
theorem rpd_Sig {B : Nat} {h : H} {d : Dt} {cs : List AV} (q : Rp B true h ShSig d cs) : ∃ a3 : List Nat, ∃ a5 : Bool, ∃ a7 : List Dt, ∃ av7 : AV, ∃ a9 : List Nat, d = .row [.str a3, .bool a5, .arr a7, .str a9] ∧ cs = [.str a3, .bool a5, av7, .str a9] ∧ (a7.length ≤ B ∨ Sh.cnt B .str = 0) ∧ Sl B true h .str a7 av7 := by
  obtain ⟨_, rfl, qr1⟩ := rp_row q
  obtain ⟨_, _, _, _, rfl, rfl, qe2, qt2⟩ := rpL_cons qr1
  obtain ⟨a3, rfl, rfl⟩ := rp_str qe2
  obtain ⟨_, _, _, _, rfl, rfl, qe4, qt4⟩ := rpL_cons qt2
  obtain ⟨a5, rfl, rfl⟩ := rp_bool qe4
  obtain ⟨_, _, _, _, rfl, rfl, qe6, qt6⟩ := rpL_cons qt4
  obtain ⟨a7, av7, rfl, rfl, al7, as7⟩ := rp_arrT qe6
  obtain ⟨_, _, _, _, rfl, rfl, qe8, qt8⟩ := rpL_cons qt6
  obtain ⟨a9, rfl, rfl⟩ := rp_str qe8
  obtain ⟨rfl, rfl⟩ := rpL_nil qt8
  exact ⟨a3, a5, a7, av7, a9, rfl, rfl, al7, as7⟩
theorem rpd_Class {B : Nat} {h : H} {d : Dt} {cs : List AV} (q : Rp B true h ShClass d cs) : ∃ a3 : List Nat, ∃ a5 : List Nat, ∃ a7 : List Dt, ∃ av7 : AV, ∃ a9 : List Dt, ∃ av9 : AV, d = .row [.str a3, .str a5, .arr a7, .arr a9] ∧ cs = [.str a3, .str a5, av7, av9] ∧ (a7.length ≤ B ∨ Sh.cnt B ShField = 0) ∧ Sl B true h ShField a7 av7 ∧ (a9.length ≤ B ∨ Sh.cnt B ShSig = 0) ∧ Sl B true h ShSig a9 av9 := by
  obtain ⟨_, rfl, qr1⟩ := rp_row q
  obtain ⟨_, _, _, _, rfl, rfl, qe2, qt2⟩ := rpL_cons qr1
  obtain ⟨a3, rfl, rfl⟩ := rp_str qe2
  obtain ⟨_, _, _, _, rfl, rfl, qe4, qt4⟩ := rpL_cons qt2
  obtain ⟨a5, rfl, rfl⟩ := rp_str qe4
  obtain ⟨_, _, _, _, rfl, rfl, qe6, qt6⟩ := rpL_cons qt4
  obtain ⟨a7, av7, rfl, rfl, al7, as7⟩ := rp_arrT qe6
  obtain ⟨_, _, _, _, rfl, rfl, qe8, qt8⟩ := rpL_cons qt6
  obtain ⟨a9, av9, rfl, rfl, al9, as9⟩ := rp_arrT qe8
  obtain ⟨rfl, rfl⟩ := rpL_nil qt8
  exact ⟨a3, a5, a7, av7, a9, av9, rfl, rfl, al7, as7, al9, as9⟩
theorem rpd_Hier {B : Nat} {h : H} {d : Dt} {cs : List AV} (q : Rp B true h ShHier d cs) : ∃ a3 : List Dt, ∃ av3 : AV, d = .row [.arr a3] ∧ cs = [av3] ∧ (a3.length ≤ B ∨ Sh.cnt B ShClass = 0) ∧ Sl B true h ShClass a3 av3 := by
  obtain ⟨_, rfl, qr1⟩ := rp_row q
  obtain ⟨_, _, _, _, rfl, rfl, qe2, qt2⟩ := rpL_cons qr1
  obtain ⟨a3, av3, rfl, rfl, al3, as3⟩ := rp_arrT qe2
  obtain ⟨rfl, rfl⟩ := rpL_nil qt2
  exact ⟨a3, av3, rfl, rfl, al3, as3⟩
theorem rpd_Instr {B : Nat} {h : H} {d : Dt} {cs : List AV} (q : Rp B true h ShInstr d cs) : ∃ a3 : Int, ∃ a5 : Int, ∃ a7 : Int, ∃ a9 : Int, ∃ a11 : Int, ∃ a13 : List Nat, ∃ a15 : List Nat, ∃ a17 : List Dt, ∃ av17 : AV, ∃ a19 : Int, ∃ a21 : Int, d = .row [.int a3, .int a5, .int a7, .int a9, .int a11, .str a13, .str a15, .arr a17, .int a19, .int a21] ∧ cs = [.int .i64 a3, .int .i64 a5, .int .i64 a7, .int .i64 a9, .int .i64 a11, .str a13, .str a15, av17, .int .i64 a19, .int .i64 a21] ∧ (a17.length ≤ B ∨ Sh.cnt B (.int .i64) = 0) ∧ Sl B true h (.int .i64) a17 av17 := by
  obtain ⟨_, rfl, qr1⟩ := rp_row q
  obtain ⟨_, _, _, _, rfl, rfl, qe2, qt2⟩ := rpL_cons qr1
  obtain ⟨a3, rfl, rfl⟩ := rp_int qe2
  obtain ⟨_, _, _, _, rfl, rfl, qe4, qt4⟩ := rpL_cons qt2
  obtain ⟨a5, rfl, rfl⟩ := rp_int qe4
  obtain ⟨_, _, _, _, rfl, rfl, qe6, qt6⟩ := rpL_cons qt4
  obtain ⟨a7, rfl, rfl⟩ := rp_int qe6
  obtain ⟨_, _, _, _, rfl, rfl, qe8, qt8⟩ := rpL_cons qt6
  obtain ⟨a9, rfl, rfl⟩ := rp_int qe8
  obtain ⟨_, _, _, _, rfl, rfl, qe10, qt10⟩ := rpL_cons qt8
  obtain ⟨a11, rfl, rfl⟩ := rp_int qe10
  obtain ⟨_, _, _, _, rfl, rfl, qe12, qt12⟩ := rpL_cons qt10
  obtain ⟨a13, rfl, rfl⟩ := rp_str qe12
  obtain ⟨_, _, _, _, rfl, rfl, qe14, qt14⟩ := rpL_cons qt12
  obtain ⟨a15, rfl, rfl⟩ := rp_str qe14
  obtain ⟨_, _, _, _, rfl, rfl, qe16, qt16⟩ := rpL_cons qt14
  obtain ⟨a17, av17, rfl, rfl, al17, as17⟩ := rp_arrT qe16
  obtain ⟨_, _, _, _, rfl, rfl, qe18, qt18⟩ := rpL_cons qt16
  obtain ⟨a19, rfl, rfl⟩ := rp_int qe18
  obtain ⟨_, _, _, _, rfl, rfl, qe20, qt20⟩ := rpL_cons qt18
  obtain ⟨a21, rfl, rfl⟩ := rp_int qe20
  obtain ⟨rfl, rfl⟩ := rpL_nil qt20
  exact ⟨a3, a5, a7, a9, a11, a13, a15, a17, av17, a19, a21, rfl, rfl, al17, as17⟩
theorem rpd_Func {B : Nat} {h : H} {d : Dt} {cs : List AV} (q : Rp B true h ShFunc d cs) : ∃ a3 : List Nat, ∃ a5 : List Nat, ∃ a7 : Bool, ∃ a9 : Int, ∃ a11 : List Dt, ∃ av11 : AV, ∃ a13 : List Nat, ∃ a15 : List Dt, ∃ av15 : AV, d = .row [.str a3, .str a5, .bool a7, .int a9, .arr a11, .str a13, .arr a15] ∧ cs = [.str a3, .str a5, .bool a7, .int .i64 a9, av11, .str a13, av15] ∧ (a11.length ≤ B ∨ Sh.cnt B ShField = 0) ∧ Sl B true h ShField a11 av11 ∧ (a15.length ≤ B ∨ Sh.cnt B ShInstr = 0) ∧ Sl B true h ShInstr a15 av15 := by
  obtain ⟨_, rfl, qr1⟩ := rp_row q
  obtain ⟨_, _, _, _, rfl, rfl, qe2, qt2⟩ := rpL_cons qr1
  obtain ⟨a3, rfl, rfl⟩ := rp_str qe2
  obtain ⟨_, _, _, _, rfl, rfl, qe4, qt4⟩ := rpL_cons qt2
  obtain ⟨a5, rfl, rfl⟩ := rp_str qe4
  obtain ⟨_, _, _, _, rfl, rfl, qe6, qt6⟩ := rpL_cons qt4
  obtain ⟨a7, rfl, rfl⟩ := rp_bool qe6
  obtain ⟨_, _, _, _, rfl, rfl, qe8, qt8⟩ := rpL_cons qt6
  obtain ⟨a9, rfl, rfl⟩ := rp_int qe8
  obtain ⟨_, _, _, _, rfl, rfl, qe10, qt10⟩ := rpL_cons qt8
  obtain ⟨a11, av11, rfl, rfl, al11, as11⟩ := rp_arrT qe10
  obtain ⟨_, _, _, _, rfl, rfl, qe12, qt12⟩ := rpL_cons qt10
  obtain ⟨a13, rfl, rfl⟩ := rp_str qe12
  obtain ⟨_, _, _, _, rfl, rfl, qe14, qt14⟩ := rpL_cons qt12
  obtain ⟨a15, av15, rfl, rfl, al15, as15⟩ := rp_arrT qe14
  obtain ⟨rfl, rfl⟩ := rpL_nil qt14
  exact ⟨a3, a5, a7, a9, a11, av11, a13, a15, av15, rfl, rfl, al11, as11, al15, as15⟩
theorem rpd_Unit {B : Nat} {h : H} {d : Dt} {cs : List AV} (q : Rp B true h ShUnit d cs) : ∃ a5 : List Dt, ∃ av5 : AV, ∃ a7 : List Dt, ∃ av7 : AV, ∃ a9 : Int, d = .row [.row [.arr a5], .arr a7, .int a9] ∧ cs = [av5, av7, .int .i64 a9] ∧ (a5.length ≤ B ∨ Sh.cnt B ShClass = 0) ∧ Sl B true h ShClass a5 av5 ∧ (a7.length ≤ B ∨ Sh.cnt B ShFunc = 0) ∧ Sl B true h ShFunc a7 av7 := by
  obtain ⟨_, rfl, qr1⟩ := rp_row q
  obtain ⟨_, _, _, _, rfl, rfl, qe2, qt2⟩ := rpL_cons qr1
  obtain ⟨_, rfl, qe2r3⟩ := rp_row qe2
  obtain ⟨_, _, _, _, rfl, rfl, qe2e4, qe2t4⟩ := rpL_cons qe2r3
  obtain ⟨a5, av5, rfl, rfl, al5, as5⟩ := rp_arrT qe2e4
  obtain ⟨rfl, rfl⟩ := rpL_nil qe2t4
  obtain ⟨_, _, _, _, rfl, rfl, qe6, qt6⟩ := rpL_cons qt2
  obtain ⟨a7, av7, rfl, rfl, al7, as7⟩ := rp_arrT qe6
  obtain ⟨_, _, _, _, rfl, rfl, qe8, qt8⟩ := rpL_cons qt6
  obtain ⟨a9, rfl, rfl⟩ := rp_int qe8
  obtain ⟨rfl, rfl⟩ := rpL_nil qt8
  exact ⟨a5, av5, a7, av7, a9, rfl, rfl, al5, as5, al7, as7⟩
theorem rpd_AP {B : Nat} {h : H} {d : Dt} {cs : List AV} (q : Rp B true h ShAP d cs) : ∃ a3 : Int, ∃ a5 : Int, ∃ a7 : List Dt, ∃ av7 : AV, ∃ a9 : Bool, d = .row [.int a3, .int a5, .arr a7, .bool a9] ∧ cs = [.int .i64 a3, .int .i64 a5, av7, .bool a9] ∧ (a7.length ≤ B ∨ Sh.cnt B .str = 0) ∧ Sl B true h .str a7 av7 := by
  obtain ⟨_, rfl, qr1⟩ := rp_row q
  obtain ⟨_, _, _, _, rfl, rfl, qe2, qt2⟩ := rpL_cons qr1
  obtain ⟨a3, rfl, rfl⟩ := rp_int qe2
  obtain ⟨_, _, _, _, rfl, rfl, qe4, qt4⟩ := rpL_cons qt2
  obtain ⟨a5, rfl, rfl⟩ := rp_int qe4
  obtain ⟨_, _, _, _, rfl, rfl, qe6, qt6⟩ := rpL_cons qt4
  obtain ⟨a7, av7, rfl, rfl, al7, as7⟩ := rp_arrT qe6
  obtain ⟨_, _, _, _, rfl, rfl, qe8, qt8⟩ := rpL_cons qt6
  obtain ⟨a9, rfl, rfl⟩ := rp_bool qe8
  obtain ⟨rfl, rfl⟩ := rpL_nil qt8
  exact ⟨a3, a5, a7, av7, a9, rfl, rfl, al7, as7⟩
theorem rpd_Rule {B : Nat} {h : H} {d : Dt} {cs : List AV} (q : Rp B true h ShRule d cs) : ∃ a3 : Int, ∃ a5 : List Nat, ∃ a7 : List Nat, ∃ a11 : Int, ∃ a13 : Int, ∃ a15 : List Dt, ∃ av15 : AV, ∃ a17 : Bool, ∃ a19 : List Nat, d = .row [.int a3, .str a5, .str a7, .row [.int a11, .int a13, .arr a15, .bool a17], .str a19] ∧ cs = [.int .i64 a3, .str a5, .str a7, .int .i64 a11, .int .i64 a13, av15, .bool a17, .str a19] ∧ (a15.length ≤ B ∨ Sh.cnt B .str = 0) ∧ Sl B true h .str a15 av15 := by
  obtain ⟨_, rfl, qr1⟩ := rp_row q
  obtain ⟨_, _, _, _, rfl, rfl, qe2, qt2⟩ := rpL_cons qr1
  obtain ⟨a3, rfl, rfl⟩ := rp_int qe2
  obtain ⟨_, _, _, _, rfl, rfl, qe4, qt4⟩ := rpL_cons qt2
  obtain ⟨a5, rfl, rfl⟩ := rp_str qe4
  obtain ⟨_, _, _, _, rfl, rfl, qe6, qt6⟩ := rpL_cons qt4
  obtain ⟨a7, rfl, rfl⟩ := rp_str qe6
  obtain ⟨_, _, _, _, rfl, rfl, qe8, qt8⟩ := rpL_cons qt6
  obtain ⟨_, rfl, qe8r9⟩ := rp_row qe8
  obtain ⟨_, _, _, _, rfl, rfl, qe8e10, qe8t10⟩ := rpL_cons qe8r9
  obtain ⟨a11, rfl, rfl⟩ := rp_int qe8e10
  obtain ⟨_, _, _, _, rfl, rfl, qe8e12, qe8t12⟩ := rpL_cons qe8t10
  obtain ⟨a13, rfl, rfl⟩ := rp_int qe8e12
  obtain ⟨_, _, _, _, rfl, rfl, qe8e14, qe8t14⟩ := rpL_cons qe8t12
  obtain ⟨a15, av15, rfl, rfl, al15, as15⟩ := rp_arrT qe8e14
  obtain ⟨_, _, _, _, rfl, rfl, qe8e16, qe8t16⟩ := rpL_cons qe8t14
  obtain ⟨a17, rfl, rfl⟩ := rp_bool qe8e16
  obtain ⟨rfl, rfl⟩ := rpL_nil qe8t16
  obtain ⟨_, _, _, _, rfl, rfl, qe18, qt18⟩ := rpL_cons qt8
  obtain ⟨a19, rfl, rfl⟩ := rp_str qe18
  obtain ⟨rfl, rfl⟩ := rpL_nil qt18
  exact ⟨a3, a5, a7, a11, a13, a15, av15, a17, a19, rfl, rfl, al15, as15⟩
theorem rpd_Proto {B : Nat} {h : H} {d : Dt} {cs : List AV} (q : Rp B true h ShProto d cs) : ∃ a3 : List Nat, ∃ a5 : List Dt, ∃ av5 : AV, ∃ a7 : Int, ∃ a9 : Int, ∃ a11 : List Dt, ∃ av11 : AV, d = .row [.str a3, .arr a5, .int a7, .int a9, .arr a11] ∧ cs = [.str a3, av5, .int .i64 a7, .int .i64 a9, av11] ∧ (a5.length ≤ B ∨ Sh.cnt B .str = 0) ∧ Sl B true h .str a5 av5 ∧ (a11.length ≤ B ∨ Sh.cnt B ShMove = 0) ∧ Sl B true h ShMove a11 av11 := by
  obtain ⟨_, rfl, qr1⟩ := rp_row q
  obtain ⟨_, _, _, _, rfl, rfl, qe2, qt2⟩ := rpL_cons qr1
  obtain ⟨a3, rfl, rfl⟩ := rp_str qe2
  obtain ⟨_, _, _, _, rfl, rfl, qe4, qt4⟩ := rpL_cons qt2
  obtain ⟨a5, av5, rfl, rfl, al5, as5⟩ := rp_arrT qe4
  obtain ⟨_, _, _, _, rfl, rfl, qe6, qt6⟩ := rpL_cons qt4
  obtain ⟨a7, rfl, rfl⟩ := rp_int qe6
  obtain ⟨_, _, _, _, rfl, rfl, qe8, qt8⟩ := rpL_cons qt6
  obtain ⟨a9, rfl, rfl⟩ := rp_int qe8
  obtain ⟨_, _, _, _, rfl, rfl, qe10, qt10⟩ := rpL_cons qt8
  obtain ⟨a11, av11, rfl, rfl, al11, as11⟩ := rp_arrT qe10
  obtain ⟨rfl, rfl⟩ := rpL_nil qt10
  exact ⟨a3, a5, av5, a7, a9, a11, av11, rfl, rfl, al5, as5, al11, as11⟩
theorem rpd_Policy {B : Nat} {h : H} {d : Dt} {cs : List AV} (q : Rp B true h ShPolicy d cs) : ∃ a3 : List Dt, ∃ av3 : AV, ∃ a5 : List Dt, ∃ av5 : AV, d = .row [.arr a3, .arr a5] ∧ cs = [av3, av5] ∧ (a3.length ≤ B ∨ Sh.cnt B ShRule = 0) ∧ Sl B true h ShRule a3 av3 ∧ (a5.length ≤ B ∨ Sh.cnt B ShProto = 0) ∧ Sl B true h ShProto a5 av5 := by
  obtain ⟨_, rfl, qr1⟩ := rp_row q
  obtain ⟨_, _, _, _, rfl, rfl, qe2, qt2⟩ := rpL_cons qr1
  obtain ⟨a3, av3, rfl, rfl, al3, as3⟩ := rp_arrT qe2
  obtain ⟨_, _, _, _, rfl, rfl, qe4, qt4⟩ := rpL_cons qt2
  obtain ⟨a5, av5, rfl, rfl, al5, as5⟩ := rp_arrT qe4
  obtain ⟨rfl, rfl⟩ := rpL_nil qt4
  exact ⟨a3, av3, a5, av5, rfl, rfl, al3, as3, al5, as5⟩
theorem rpd_Memo {B : Nat} {h : H} {d : Dt} {cs : List AV} (q : Rp B true h ShMemo d cs) : ∃ a5 : List Nat, ∃ a7 : List Nat, ∃ a9 : List Nat, ∃ a11 : List Dt, ∃ av11 : AV, ∃ a13 : List Dt, ∃ av13 : AV, d = .row [.row [.str a5, .str a7], .str a9, .arr a11, .arr a13] ∧ cs = [.str a5, .str a7, .str a9, av11, av13] ∧ (a11.length ≤ B ∨ Sh.cnt B ShNP = 0) ∧ Sl B true h ShNP a11 av11 ∧ (a13.length ≤ B ∨ Sh.cnt B ShNP = 0) ∧ Sl B true h ShNP a13 av13 := by
  obtain ⟨_, rfl, qr1⟩ := rp_row q
  obtain ⟨_, _, _, _, rfl, rfl, qe2, qt2⟩ := rpL_cons qr1
  obtain ⟨_, rfl, qe2r3⟩ := rp_row qe2
  obtain ⟨_, _, _, _, rfl, rfl, qe2e4, qe2t4⟩ := rpL_cons qe2r3
  obtain ⟨a5, rfl, rfl⟩ := rp_str qe2e4
  obtain ⟨_, _, _, _, rfl, rfl, qe2e6, qe2t6⟩ := rpL_cons qe2t4
  obtain ⟨a7, rfl, rfl⟩ := rp_str qe2e6
  obtain ⟨rfl, rfl⟩ := rpL_nil qe2t6
  obtain ⟨_, _, _, _, rfl, rfl, qe8, qt8⟩ := rpL_cons qt2
  obtain ⟨a9, rfl, rfl⟩ := rp_str qe8
  obtain ⟨_, _, _, _, rfl, rfl, qe10, qt10⟩ := rpL_cons qt8
  obtain ⟨a11, av11, rfl, rfl, al11, as11⟩ := rp_arrT qe10
  obtain ⟨_, _, _, _, rfl, rfl, qe12, qt12⟩ := rpL_cons qt10
  obtain ⟨a13, av13, rfl, rfl, al13, as13⟩ := rp_arrT qe12
  obtain ⟨rfl, rfl⟩ := rpL_nil qt12
  exact ⟨a5, a7, a9, a11, av11, a13, av13, rfl, rfl, al11, as11, al13, as13⟩
theorem rpd_State {B : Nat} {h : H} {d : Dt} {cs : List AV} (q : Rp B true h ShState d cs) : ∃ a7 : List Dt, ∃ av7 : AV, ∃ a9 : List Dt, ∃ av9 : AV, ∃ a11 : Int, ∃ a15 : List Dt, ∃ av15 : AV, ∃ a17 : List Dt, ∃ av17 : AV, ∃ a19 : List Dt, ∃ av19 : AV, d = .row [.row [.row [.arr a7], .arr a9, .int a11], .row [.arr a15, .arr a17], .arr a19] ∧ cs = [av7, av9, .int .i64 a11, av15, av17, av19] ∧ (a7.length ≤ B ∨ Sh.cnt B ShClass = 0) ∧ Sl B true h ShClass a7 av7 ∧ (a9.length ≤ B ∨ Sh.cnt B ShFunc = 0) ∧ Sl B true h ShFunc a9 av9 ∧ (a15.length ≤ B ∨ Sh.cnt B ShRule = 0) ∧ Sl B true h ShRule a15 av15 ∧ (a17.length ≤ B ∨ Sh.cnt B ShProto = 0) ∧ Sl B true h ShProto a17 av17 ∧ (a19.length ≤ B ∨ Sh.cnt B ShMemo = 0) ∧ Sl B true h ShMemo a19 av19 := by
  obtain ⟨_, rfl, qr1⟩ := rp_row q
  obtain ⟨_, _, _, _, rfl, rfl, qe2, qt2⟩ := rpL_cons qr1
  obtain ⟨_, rfl, qe2r3⟩ := rp_row qe2
  obtain ⟨_, _, _, _, rfl, rfl, qe2e4, qe2t4⟩ := rpL_cons qe2r3
  obtain ⟨_, rfl, qe2e4r5⟩ := rp_row qe2e4
  obtain ⟨_, _, _, _, rfl, rfl, qe2e4e6, qe2e4t6⟩ := rpL_cons qe2e4r5
  obtain ⟨a7, av7, rfl, rfl, al7, as7⟩ := rp_arrT qe2e4e6
  obtain ⟨rfl, rfl⟩ := rpL_nil qe2e4t6
  obtain ⟨_, _, _, _, rfl, rfl, qe2e8, qe2t8⟩ := rpL_cons qe2t4
  obtain ⟨a9, av9, rfl, rfl, al9, as9⟩ := rp_arrT qe2e8
  obtain ⟨_, _, _, _, rfl, rfl, qe2e10, qe2t10⟩ := rpL_cons qe2t8
  obtain ⟨a11, rfl, rfl⟩ := rp_int qe2e10
  obtain ⟨rfl, rfl⟩ := rpL_nil qe2t10
  obtain ⟨_, _, _, _, rfl, rfl, qe12, qt12⟩ := rpL_cons qt2
  obtain ⟨_, rfl, qe12r13⟩ := rp_row qe12
  obtain ⟨_, _, _, _, rfl, rfl, qe12e14, qe12t14⟩ := rpL_cons qe12r13
  obtain ⟨a15, av15, rfl, rfl, al15, as15⟩ := rp_arrT qe12e14
  obtain ⟨_, _, _, _, rfl, rfl, qe12e16, qe12t16⟩ := rpL_cons qe12t14
  obtain ⟨a17, av17, rfl, rfl, al17, as17⟩ := rp_arrT qe12e16
  obtain ⟨rfl, rfl⟩ := rpL_nil qe12t16
  obtain ⟨_, _, _, _, rfl, rfl, qe18, qt18⟩ := rpL_cons qt12
  obtain ⟨a19, av19, rfl, rfl, al19, as19⟩ := rp_arrT qe18
  obtain ⟨rfl, rfl⟩ := rpL_nil qt18
  exact ⟨a7, av7, a9, av9, a11, a15, av15, a17, av17, a19, av19, rfl, rfl, al7, as7, al9, as9, al15, as15, al17, as17, al19, as19⟩
end Go.Proofs.YtaioinkajndjkaaGreatDoor.Ev