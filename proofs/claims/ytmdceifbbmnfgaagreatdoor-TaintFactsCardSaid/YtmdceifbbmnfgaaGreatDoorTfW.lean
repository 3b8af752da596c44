/- Reference: the check of a unit; what fits. -/
import Derived.Test.YtmdceifbbmnfgaaGreatDoorTfH
import Derived.Test.YtmdceifbbmnfgaaGreatDoorTfT
set_option linter.unusedVariables false
set_option linter.unusedSimpArgs false
set_option maxHeartbeats 4000000
namespace Go.Proofs.YtmdceifbbmnfgaaGreatDoor.Ev
open Go
open Classical
variable {c : C} {h : H} {K : AV → H → Prop}
theorem fits12_ev {vl pl : List Dt} {vv dv pv : AV} {f : Dt} {cls nm rs : List Nat} {st : Bool} (hall : ∀ id, id < 10000000 → seen c.vis id = true) (hcx : Cx c h) (hn : h.n + 2 < 10000000) (hp : pl.length ≤ 1000) (V : Sl 70 true h ShField vl vv) (P : Sl 70 true h .str pl pv) (k : ∀ b h', Grew h h' → h'.n ≤ h.n + 2 → K (.bool b) h') : Gv Tryz.prog X0 Mx c 82 [.agg (funRow f vv dv), .str cls, .agg [.str nm, .bool st, pv, .str rs]] h K := by
 have hnt : (98 : Nat) ≤ 1000000 := by decide
 refine gv_fn x_fits12 (Mx_no rfl _ _ _) (by simp) hnt ?_
 unfold s_fits12 SR.g SR.o SR.p
 obtain ⟨vid, vrows, VA, hvr, hvid, hvrow⟩ := at_Field V
 obtain ⟨pid, prows, PA, hpr, hpid, hprow⟩ := at_str P
 have hs1 := hall h.n (by omega)
 have hlow := hcx.low
 have hvl := V.le
 refine Yc (Yd (rg_go hnt rfl rfl (wo_boxA rfl rfl (by omega) fun h1 n1 b1 g1 => ?_)))
 have hs2 := hall h1.n (by omega)
 refine rg_go hnt rfl rfl (wo_boxA rfl rfl (by omega) fun hm n2 Bs gb => ?_)
 have Bf : hm.get h.n = some (.cells (funRow f vv dv)) := (gb.get h.n (by omega)).trans b1
 replace Bs : hm.get h1.n = some (.cells [.str nm, .bool st, pv, .str rs]) := Bs
 have g0 := g1.trans gb
 have VA := VA.grew g0
 have PA := PA.grew g0
 repeat' (first | refine Yu ?_ | refine Yp ?_ | refine z6 ?_ | refine z8 ?_ | refine z9 ?_ | refine za ?_ | refine zb ?_ | refine zh ?_ | refine zj ?_ | refine zk ?_ | (refine Yq ?_ ?_ <;> intro hc <;> try first | contradiction | omega) | (refine zt ?_ ?_ <;> intro hc) | refine Yd ?_ | refine Ye ?_ | refine Yf ?_ | refine zu ?_ | refine zv ?_ | refine Yg ?_ | refine Yh ?_ | refine Yi ?_ | refine Yv ?_ | refine zx ?_ | refine Yz ?_ | refine Yy ?_)
 refine wc_cut2 (ι := Unit) (fun _ => [(1, .str cls), (3, .ptr h.n 0), (5, .ptr h1.n 0)]) (fun _ h' => h' = hm) ?_ ?_
 ·all_goals try (generalize dB 2 f = sb at Bf; cases sb <;> cases st)
  all_goals repeat' (first | refine Yu ?_ | refine Yp ?_ | refine z6 ?_ | refine z8 ?_ | refine z9 ?_ | refine za ?_ | refine zb ?_ | refine zh ?_ | refine zj ?_ | refine zk ?_ | (refine Yq ?_ ?_ <;> intro hc <;> try first | contradiction | omega) | (refine zt ?_ ?_ <;> intro hc) | refine Yx ?_ | refine Yv ?_ | refine zx ?_ | refine Yz ?_ | refine Yy ?_)
  all_goals first
   | exact Or.inr ⟨rfl, Or.inr rfl, _, rfl, k _ _ g0 (by omega)⟩
   | exact Or.inl ⟨rfl, (), (Sc (Sc (Sc Sn))), rfl⟩
 rintro _ h' hh
 have hh2 := hh.symm
 subst hh2
 refine Yc ?_
 repeat' (first | refine Yu ?_ | refine Yp ?_ | refine z6 ?_ | refine z8 ?_ | refine z9 ?_ | refine za ?_ | refine zb ?_ | refine zh ?_ | refine zj ?_ | refine zk ?_ | (refine Yq ?_ ?_ <;> intro hc <;> try first | contradiction | omega) | (refine zt ?_ ?_ <;> intro hc) | refine Yd ?_ | refine Ye ?_ | refine Yf ?_ | refine zu ?_ | refine zv ?_ | refine Yg ?_ | refine Yh ?_ | refine Yi ?_ | refine Yv ?_ | refine zx ?_ | refine Yz ?_ | refine Yy ?_)
 refine wc_cut2 (ι := Int) (fun n => [(1, .str cls), (3, .ptr h.n 0), (5, .ptr h1.n 0), (7, .int .i64 n)]) (fun n h' => h' = hm ∧ ((n = prows.length ∧ st = true) ∨ (n = prows.length + 1 ∧ st = false))) ?_ ?_
 ·cases st
  all_goals repeat' (first | refine Yu ?_ | refine Yp ?_ | refine z6 ?_ | refine z8 ?_ | refine z9 ?_ | refine za ?_ | refine zb ?_ | refine zh ?_ | refine zj ?_ | refine zk ?_ | (refine Yq ?_ ?_ <;> intro hc <;> try first | contradiction | omega) | (refine zt ?_ ?_ <;> intro hc) | refine Yx ?_ | refine Yv ?_ | refine zx ?_ | refine Yz ?_ | refine Yy ?_)
  ·exact Or.inl ⟨rfl, _, (Sc (Sc (Sc (Sc Sn)))), rfl, Or.inr ⟨rfl, rfl⟩⟩
  ·exact Or.inl ⟨rfl, _, (Sc (Sc (Sc (Sc Sn)))), rfl, Or.inl ⟨rfl, rfl⟩⟩
 rintro n h' ⟨hh, hN⟩
 have hh2 := hh.symm
 subst hh2
 refine wc_cut2 (ι := Unit) (fun _ => [(1, .str cls), (3, .ptr h.n 0), (5, .ptr h1.n 0), (7, .int .i64 n)]) (fun _ h' => h' = hm ∧ n ≤ vrows.length) ?_ ?_
 ·repeat' (first | refine Yu ?_ | refine Yp ?_ | refine z6 ?_ | refine z8 ?_ | refine z9 ?_ | refine za ?_ | refine zb ?_ | refine zh ?_ | refine zj ?_ | refine zk ?_ | (refine Yq ?_ ?_ <;> intro hc <;> try first | contradiction | omega) | (refine zt ?_ ?_ <;> intro hc) | refine Yx ?_ | refine Yv ?_ | refine zx ?_ | refine Yz ?_ | refine Yy ?_)
  all_goals first
   | exact Or.inr ⟨rfl, Or.inr rfl, _, rfl, k _ _ g0 (by omega)⟩
   | exact Or.inl ⟨rfl, (), (Sc (Sc (Sc (Sc Sn)))), rfl, by omega⟩
 rintro _ h' ⟨hh, hV⟩
 have hh2 := hh.symm
 subst hh2
 refine wc_cut2 (ι := Unit) (fun _ => [(1, .str cls), (3, .ptr h.n 0), (5, .ptr h1.n 0), (7, .int .i64 n)]) (fun _ h' => h' = hm) ?_ ?_
 ·cases st
  ·have hp1 : n = prows.length + 1 := by rcases hN with q | q; exact absurd q.2 (by decide); exact q.1
   obtain ⟨hw, _⟩ := hvrow (0 : Int).toNat (by simp; omega)
   have hvi := hvid (by omega)
   have hsv := hall vid (by omega)
   repeat' (first | refine Yu ?_ | refine Yp ?_ | refine z6 ?_ | refine z8 ?_ | refine z9 ?_ | refine za ?_ | refine zb ?_ | refine zh ?_ | refine zj ?_ | refine zk ?_ | (refine Yq ?_ ?_ <;> intro hc <;> try first | contradiction | omega) | (refine zt ?_ ?_ <;> intro hc) | refine Yx ?_ | refine Yv ?_ | refine zx ?_ | refine Yz ?_ | refine Yy ?_)
   all_goals first
    | exact Or.inr ⟨rfl, Or.inr rfl, _, rfl, k _ _ g0 (by omega)⟩
    | exact Or.inl ⟨rfl, (), (Sc (Sc (Sc (Sc Sn)))), rfl⟩
  ·repeat' (first | refine Yu ?_ | refine Yp ?_ | refine z6 ?_ | refine z8 ?_ | refine z9 ?_ | refine za ?_ | refine zb ?_ | refine zh ?_ | refine zj ?_ | refine zk ?_ | (refine Yq ?_ ?_ <;> intro hc <;> try first | contradiction | omega) | (refine zt ?_ ?_ <;> intro hc) | refine Yx ?_ | refine Yv ?_ | refine zx ?_ | refine Yz ?_ | refine Yy ?_)
   all_goals first
    | exact Or.inr ⟨rfl, Or.inr rfl, _, rfl, k _ _ g0 (by omega)⟩
    | exact Or.inl ⟨rfl, (), (Sc (Sc (Sc (Sc Sn)))), rfl⟩
 rintro _ h' hh
 have hh2 := hh.symm
 subst hh2
 repeat' (first | refine Yu ?_ | refine Yp ?_ | refine z6 ?_ | refine z8 ?_ | refine z9 ?_ | refine za ?_ | refine zb ?_ | refine zh ?_ | refine zj ?_ | refine zk ?_ | (refine Yq ?_ ?_ <;> intro hc <;> try first | contradiction | omega) | (refine zt ?_ ?_ <;> intro hc) | refine Yx ?_ | refine Yv ?_ | refine zx ?_ | refine Yz ?_ | refine Yy ?_)
 refine wc_loopE (ι := Nat) (fun j => [(3, .ptr h.n 0), (5, .ptr h1.n 0), (7, .int .i64 n), (8, .int .i64 (j : Int))]) (fun j h' => h' = hm ∧ j ≤ prows.length) (fun j => prows.length - j) ?_ 0 ⟨rfl, Nat.zero_le _⟩ (Sc (Sc (Sc (Sc Sn))))
 rintro j h' ⟨hh, hj⟩
 have hh2 := hh.symm
 subst hh2
 by_cases hlt : j < prows.length
 ·obtain ⟨hw, _⟩ := hvrow (n - (prows.length : Int) + (j : Int)).toNat (by omega)
  have hwp := hprow j (by omega)
  have hvi := hvid (by omega)
  have hsv := hall vid (by omega)
  have hpi := hpid (by omega)
  have hsp := hall pid (by omega)
  repeat' (first | refine Yu ?_ | refine Yp ?_ | refine z6 ?_ | refine z8 ?_ | refine z9 ?_ | refine za ?_ | refine zb ?_ | refine zh ?_ | refine zj ?_ | refine zk ?_ | (refine Yq ?_ ?_ <;> intro hc <;> try first | contradiction | omega) | (refine zt ?_ ?_ <;> intro hc) | refine Yx ?_ | refine Yv ?_ | refine zx ?_ | refine Yz ?_ | refine Yy ?_)
  all_goals first
   | exact ⟨Or.inr rfl, _, rfl, k _ _ g0 (by omega)⟩
   | exact ⟨j + 1, by simp; omega, (Sc (Sc (Sc (Sc Sn)))), rfl, hlt⟩
 ·repeat' (first | refine Yu ?_ | refine Yp ?_ | refine z6 ?_ | refine z8 ?_ | refine z9 ?_ | refine za ?_ | refine zb ?_ | refine zh ?_ | refine zj ?_ | refine zk ?_ | (refine Yq ?_ ?_ <;> intro hc <;> try first | contradiction | omega) | (refine zt ?_ ?_ <;> intro hc) | refine Yx ?_ | refine Yv ?_ | refine zx ?_ | refine Yz ?_ | refine Yy ?_)
  all_goals exact ⟨Or.inr rfl, _, rfl, k _ _ g0 (by omega)⟩
theorem numbered_ev {cl : List Dt} {cv : AV} {n : Nat} (hall : ∀ id, id < 10000000 → seen c.vis id = true) (hcx : Cx c h) (hn : h.n + 2 < 10000000) (hnn : n ≤ 1000000) (hM : ∀ i, i < cl.length → ∀ j, j < (dL 3 (el cl i)).length → (dL 2 (el (dL 3 (el cl i)) j)).length ≤ 20) (C : Sl 70 true h ShClass cl cv) (k : ∀ (a n r : List Nat) (st b : Bool) (pd : List Dt) (pv : AV) h', Grew h h' → h'.n ≤ h.n + 2 → Sl 70 true h .str pd pv → pd.length ≤ 20 → K (.tup [.str a, .agg [.str n, .bool st, pv, .str r], .bool b]) h') : Gv Tryz.prog X0 Mx c 40 [.agg [cv], .int .i64 (n : Int)] h K := by
 have hnt : (41 : Nat) ≤ 1000000 := by decide
 refine gv_fn x_numbered (Mx_no rfl _ _ _) (by simp) hnt ?_
 unfold s_numbered SR.S SR.l SR.o SR.p SR.s
 obtain ⟨id, rows, A, hr, hid, hrow⟩ := at_Class C
 have hs1 := hall h.n (by omega)
 have hlow := hcx.low
 have hcl := C.le
 refine Yc (Yd (rg_go hnt rfl rfl (wo_boxA rfl rfl (by omega) fun h1 n1 b1 g1 => ?_)))
 have hsb := hall h1.n (by omega)
 repeat' (first | refine Yu ?_ | refine Yp ?_ | refine z6 ?_ | refine z8 ?_ | refine z9 ?_ | refine za ?_ | refine zb ?_ | refine zh ?_ | refine zj ?_ | refine zl ?_ | (refine Yq ?_ ?_ <;> intro hc <;> try first | contradiction | omega) | (refine wo_boxA rfl rfl (by omega) fun hb nb bb gb => ?_) | refine Yx ?_ | refine Yv ?_ | refine zx ?_ | refine Yz ?_ | refine Yy ?_)
 have b1b := (gb.get h.n (by omega)).trans b1
 have g0 := g1.trans gb
 have A := A.grew g0
 refine wc_loopE (ι := Nat × Int) (fun j => [(1, .int .i64 j.2), (2, .ptr h.n 0), (5, .ptr h1.n 0), (7, .int .i64 (j.1 : Int))]) (fun j h' => h' = hb ∧ j.1 ≤ cl.length ∧ 0 ≤ j.2 ∧ j.2 ≤ n) (fun j => cl.length - j.1) ?_ (0, (n : Int)) ⟨rfl, Nat.zero_le _, by simp, by simp⟩ (Sc (Sc (Sc (Sc Sn))))
 rintro ⟨j, n'⟩ h' ⟨hh, hj, hn0, hnn⟩
 have hh2 := hh.symm
 subst hh2
 simp only at hj hn0 hnn ⊢
 by_cases hlt : j < cl.length
 ·obtain ⟨v2, v3, hw, F2, F, oc⟩ := hrow j hlt
  have hsi := hall id (by have := hid (by omega); omega)
  obtain ⟨fid, frows, FA, hfr, hfid, hfrow⟩ := at_Sig F
  have FA := FA.grew g0
  have hMj := hM j hlt
  generalize dL 3 (el cl j) = fl at hfr hfid hfrow F hMj
  have hfll := F.le
  by_cases hnl : n' < frows.length
  ·have hs7 := hall fid (by have := hfid (by omega); omega)
   obtain ⟨pv, hwk, hpd, om⟩ := hfrow n'.toNat (by omega)
   repeat' (first | refine Yu ?_ | refine Yp ?_ | refine z6 ?_ | refine z8 ?_ | refine z9 ?_ | refine za ?_ | refine zb ?_ | refine zh ?_ | refine zj ?_ | refine zl ?_ | (refine Yq ?_ ?_ <;> intro hc <;> try first | contradiction | omega) | refine Yx ?_ | refine Yv ?_ | refine zx ?_ | refine Yz ?_ | refine Yy ?_)
   refine rd_bar0 hnt rfl (wo_storeA rfl rfl (by show c.floor ≤ _; omega) (seen_old (by repeat (first | exact rs_nil | refine rs_add (by omega) ?_)) (by omega) (by omega) hsb) bb rfl (by exact om) (by decide) (by omega) (splice_all rfl) fun h7 n7 b7 k7 => ⟨(by repeat (first | exact unchF_nil | refine unchF_cons (by decide) ?_ | refine unchF_same (by assumption) ((k7 _ (by omega)).trans (by assumption)) ?_)), ?_⟩)
   repeat' (first | refine Yu ?_ | refine Yp ?_ | refine z6 ?_ | refine z8 ?_ | refine z9 ?_ | refine za ?_ | refine zb ?_ | refine zh ?_ | refine zj ?_ | refine zl ?_ | (refine Yq ?_ ?_ <;> intro hc <;> try first | contradiction | omega) | refine Yx ?_ | refine Yv ?_ | refine zx ?_ | refine Yz ?_ | refine Yy ?_)
   refine ⟨Or.inr rfl, _, resE_one rfl (resE_box rfl hsb b7 rfl (resE_one rfl rfl)), ?_⟩
   have gD : Grew h h7 := ⟨by omega, fun i hi => (k7 i (by omega)).trans (g0.get i hi)⟩
   exact k _ _ _ _ _ _ _ _ gD (by omega) hpd (hMj _ (by omega))
  ·repeat' (first | refine Yu ?_ | refine Yp ?_ | refine z6 ?_ | refine z8 ?_ | refine z9 ?_ | refine za ?_ | refine zb ?_ | refine zh ?_ | refine zj ?_ | refine zl ?_ | (refine Yq ?_ ?_ <;> intro hc <;> try first | contradiction | omega) | refine Yx ?_ | refine Yv ?_ | refine zx ?_ | refine Yz ?_ | refine Yy ?_)
   exact ⟨(j + 1, _), by simp; omega, (Sc (Sc (Sc (Sc Sn)))), rfl, hlt, by simp only; omega, by simp only; omega⟩
 ·repeat' (first | refine Yu ?_ | refine Yp ?_ | refine z6 ?_ | refine z8 ?_ | refine z9 ?_ | refine za ?_ | refine zb ?_ | refine zh ?_ | refine zj ?_ | refine zl ?_ | (refine Yq ?_ ?_ <;> intro hc <;> try first | contradiction | omega) | refine Yx ?_ | refine Yv ?_ | refine zx ?_ | refine Yz ?_ | refine Yy ?_)
  refine rg_go0 hnt rfl (wo_storeA rfl rfl (by omega) hsb bb rfl rfl (by decide) (by omega) (splice_all rfl) fun h7 n7 b7 k7 => ?_)
  repeat' (first | refine Yu ?_ | refine Yp ?_ | refine z6 ?_ | refine z8 ?_ | refine z9 ?_ | refine za ?_ | refine zb ?_ | refine zh ?_ | refine zj ?_ | refine zl ?_ | (refine Yq ?_ ?_ <;> intro hc <;> try first | contradiction | omega) | refine Yx ?_ | refine Yv ?_ | refine zx ?_ | refine Yz ?_ | refine Yy ?_)
  refine ⟨Or.inr rfl, _, resE_one rfl (resE_box rfl hsb b7 rfl (resE_one rfl rfl)), ?_⟩
  have gD : Grew h h7 := ⟨by omega, fun i hi => (k7 i (by omega)).trans (g0.get i hi)⟩
  exact k _ _ _ _ _ [] _ _ gD (by omega) Sl.nils (by simp)
theorem bud_leG {b c j n k m : Nat} (h2 : b ≤ c + k * j) (hj : j ≤ n) (hn : k * n ≤ m) : b ≤ c + m :=
 Nat.le_trans h2 (Nat.add_le_add_left (Nat.le_trans (Nat.mul_le_mul_left k hj) hn) c)
theorem checkFunc_ev {cl vl dl pl : List Dt} {cv vv dv pv : AV} {f : Dt} {cls nm rs : List Nat} {st : Bool} (hall : ∀ id, id < 10000000 → seen c.vis id = true) (hcx : Cx c h) (hn : h.n + 160000 < 10000000) (hc12 : cl.length ≤ 12) (hv70 : vl.length ≤ 70) (hd70 : dl.length ≤ 70) (hx20 : ∀ i, i < dl.length → (dL 7 (el dl i)).length ≤ 20) (hp : pl.length ≤ 1000) (C : Sl 70 true h ShClass cl cv) (V : Sl 70 true h ShField vl vv) (Cd : Sl 70 true h ShInstr dl dv) (P : Sl 70 true h .str pl pv) (k : ∀ a e h', Grew h h' → h'.n ≤ h.n + 160000 → K (.tup [.int .i64 a, .int .i64 e]) h') : Gv Tryz.prog X0 Mx c 41 [.agg [cv], .agg (funRow f vv dv), .str cls, .agg [.str nm, .bool st, pv, .str rs]] h K := by
 have hnt : (52 : Nat) ≤ 1000000 := by decide
 refine gv_fn x_checkFunc (Mx_no rfl _ _ _) (by simp) hnt ?_
 unfold s_checkFunc SR.g SR.m SR.o
 have hs1 := hall h.n (by omega)
 have hlow := hcx.low
 have hdl := Cd.le
 have hvl := V.le
 refine Yc (Yd (rg_go hnt rfl rfl (wo_boxA rfl rfl (by omega) fun h1 n1 b1 g1 => ?_)))
 have hs2 := hall h1.n (by omega)
 refine rg_go hnt rfl rfl (wo_boxA rfl rfl (by omega) fun h2 n2 bb gb => ?_)
 have hs3 := hall h2.n (by omega)
 refine rg_go hnt rfl rfl (wo_boxA rfl rfl (by omega) fun hm n3 Bs gc => ?_)
 replace Bs : hm.get h2.n = some (.cells [.str nm, .bool st, pv, .str rs]) := Bs
 have Bh : hm.get h.n = some (.cells [cv]) := (gc.get h.n (by omega)).trans ((gb.get h.n (by omega)).trans b1)
 have Bf : hm.get h1.n = some (.cells (funRow f vv dv)) := (gc.get h1.n (by omega)).trans bb
 have g0 := (g1.trans gb).trans gc
 have G := Grew.refl hm
 repeat' (first | refine Yu ?_ | refine Yp ?_ | refine z6 ?_ | refine za ?_ | refine zh ?_ | refine zi ?_ | (refine Yq ?_ ?_ <;> intro hc <;> try first | contradiction | omega) | refine Yd ?_ | refine Yf ?_ | refine zu ?_ | refine zv ?_ | refine Yg ?_ | refine Yh ?_ | refine Yi ?_ | refine Yz ?_ | refine Yy ?_)
 refine wc_cut2 (ι := Unit) (fun _ => [(4, .ptr h.n 0), (5, .ptr h1.n 0)]) (fun _ h' => Grew hm h' ∧ h'.n ≤ hm.n + 2 ∧ h'.get h.n = some (.cells [cv]) ∧ h'.get h1.n = some (.cells (funRow f vv dv))) ?_ ?_
 ·repeat' (first | refine Yu ?_ | refine Yp ?_ | refine z6 ?_ | refine za ?_ | refine zh ?_ | refine zi ?_ | (refine Yq ?_ ?_ <;> intro hc <;> try first | contradiction | omega) | refine Yx ?_ | refine Yz ?_ | refine Yy ?_)
  refine wo_call rfl rfl (fits12_ev hall (hcx.mono (by omega)) (by omega) (by omega) (V.grew (g0.trans G)) (P.grew (g0.trans G)) fun bq h11 g11 n11 => ?_)
  have L11 := g11.le
  have G := G.trans g11
  have Bh := (g11.get h.n (by omega)).trans Bh
  have Bf := (g11.get h1.n (by omega)).trans Bf
  cases bq
  all_goals repeat' (first | refine Yu ?_ | refine Yp ?_ | refine z6 ?_ | refine za ?_ | refine zh ?_ | refine zi ?_ | (refine Yq ?_ ?_ <;> intro hc <;> try first | contradiction | omega) | refine Yx ?_ | refine Yz ?_ | refine Yy ?_)
  all_goals first
   | exact Or.inr ⟨rfl, Or.inr rfl, _, rfl, k _ _ _ (g0.trans G) (by omega)⟩
   | exact Or.inl ⟨rfl, (), (Sc (Sc Sn)), G, by omega, Bh, Bf⟩
 clear G Bh Bf
 rintro _ h110 ⟨G, N11, Bh, Bf⟩
 have L11 := G.le
 obtain ⟨did, drows, DA, hdr, hdid, hdrow⟩ := at_Instr Cd
 obtain ⟨vid, vrows, VA, hvr, hvid, hvrow⟩ := at_Field V
 refine wc_cut2 (ι := Unit) (fun _ => [(4, .ptr h.n 0), (5, .ptr h1.n 0)]) (fun _ h' => h' = h110) ?_ ?_
 ·have VG := VA.grew (g0.trans G)
  have DG := DA.grew (g0.trans G)
  repeat' (first | refine Yu ?_ | refine Yp ?_ | refine z6 ?_ | refine za ?_ | refine zh ?_ | refine zi ?_ | (refine Yq ?_ ?_ <;> intro hc <;> try first | contradiction | omega) | refine Yx ?_ | refine Yz ?_ | refine Yy ?_)
  all_goals first
   | exact Or.inr ⟨rfl, Or.inr rfl, _, rfl, k _ _ _ (g0.trans G) (by omega)⟩
   | exact Or.inl ⟨rfl, (), (Sc (Sc Sn)), rfl⟩
 rintro _ h' hh
 have hh2 := hh.symm
 subst hh2
 refine Yc ?_
 repeat' (first | refine Yu ?_ | refine Yp ?_ | refine z6 ?_ | refine za ?_ | refine zh ?_ | refine zi ?_ | (refine Yq ?_ ?_ <;> intro hc <;> try first | contradiction | omega) | refine Yd ?_ | refine Yf ?_ | refine zu ?_ | refine zv ?_ | refine Yg ?_ | refine Yh ?_ | refine Yi ?_ | refine Yz ?_ | refine Yy ?_)
 refine wo_call rfl rfl (names12_ev hall (hcx.mono (by omega)) (by omega) hv70 (C.grew (g0.trans G)) (V.grew (g0.trans G)) fun e12 h12 g12 n12 => ?_)
 have L12 := g12.le
 have G := G.trans g12
 have Bh := (g12.get h.n (by omega)).trans Bh
 have Bf := (g12.get h1.n (by omega)).trans Bf
 repeat' (first | refine Yu ?_ | refine Yp ?_ | refine z6 ?_ | refine za ?_ | refine zh ?_ | refine zi ?_ | (refine Yq ?_ ?_ <;> intro hc <;> try first | contradiction | omega) | refine Yd ?_ | refine Yf ?_ | refine zu ?_ | refine zv ?_ | refine Yg ?_ | refine Yh ?_ | refine Yi ?_ | refine Yz ?_ | refine Yy ?_)
 refine wc_cut2 (ι := Unit) (fun _ => [(4, .ptr h.n 0), (5, .ptr h1.n 0)]) (fun _ h' => h' = h12) ?_ ?_
 ·repeat' (first | refine Yu ?_ | refine Yp ?_ | refine z6 ?_ | refine za ?_ | refine zh ?_ | refine zi ?_ | (refine Yq ?_ ?_ <;> intro hc <;> try first | contradiction | omega) | refine Yx ?_ | refine Yz ?_ | refine Yy ?_)
  all_goals first
   | exact Or.inr ⟨rfl, Or.inr rfl, _, rfl, k _ _ _ (g0.trans G) (by omega)⟩
   | exact Or.inl ⟨rfl, (), (Sc (Sc Sn)), rfl⟩
 rintro _ h' hh
 have hh2 := hh.symm
 subst hh2
 refine wc_cut2 (ι := Unit) (fun _ => [(4, .ptr h.n 0), (5, .ptr h1.n 0)]) (fun _ h' => h' = h12) ?_ ?_
 ·have DG := DA.grew (g0.trans G)
  repeat' (first | refine Yu ?_ | refine Yp ?_ | refine z6 ?_ | refine za ?_ | refine zh ?_ | refine zi ?_ | (refine Yq ?_ ?_ <;> intro hc <;> try first | contradiction | omega) | refine Yx ?_ | refine Yz ?_ | refine Yy ?_)
  all_goals first
   | exact Or.inr ⟨rfl, Or.inr rfl, _, rfl, k _ _ _ (g0.trans G) (by omega)⟩
   | exact Or.inl ⟨rfl, (), (Sc (Sc Sn)), rfl⟩
 rintro _ h' hh
 have hh2 := hh.symm
 subst hh2
 repeat' (first | refine Yu ?_ | refine Yp ?_ | refine z6 ?_ | refine za ?_ | refine zh ?_ | refine zi ?_ | (refine Yq ?_ ?_ <;> intro hc <;> try first | contradiction | omega) | refine Yx ?_ | refine Yz ?_ | refine Yy ?_)
 refine wc_loopE (ι := Nat) (fun j => [(4, .ptr h.n 0), (5, .ptr h1.n 0), (11, .int .i64 (j : Int))]) (fun j h' => Grew hm h' ∧ h'.n ≤ h12.n + 2200 * j ∧ h'.get h.n = some (.cells [cv]) ∧ h'.get h1.n = some (.cells (funRow f vv dv)) ∧ j ≤ dl.length) (fun j => dl.length - j) ?_ 0 ⟨G, by omega, Bh, Bf, Nat.zero_le _⟩ (Sc (Sc (Sc Sn)))
 clear G Bh Bf
 rintro j h3 ⟨G, N3, Bh, Bf, hj⟩
 have L3 := G.le
 have hst : ∀ a, a ≤ h3.n + 2200 → a ≤ h12.n + 2200 * (j + 1) := fun a ha => bud_step ha N3
 have N4 : h3.n ≤ h12.n + 154000 := bud_leG N3 (Nat.le_trans hj hd70) (by decide)
 clear N3
 have DG := DA.grew (g0.trans G)
 by_cases hlt : j < dl.length
 ·repeat' (first | refine Yu ?_ | refine Yp ?_ | refine z6 ?_ | refine za ?_ | refine zh ?_ | refine zi ?_ | (refine Yq ?_ ?_ <;> intro hc <;> try first | contradiction | omega) | refine Yx ?_ | refine Yz ?_ | refine Yy ?_)
  refine wo_call rfl rfl (instr12_ev hall (hcx.mono (by omega)) (by omega) hc12 hlt (hx20 j hlt) (C.grew (g0.trans G)) (V.grew (g0.trans G)) (Cd.grew (g0.trans G)) fun e13 h13 g13 n13 _ => ?_)
  have L13 := g13.le
  have G := G.trans g13
  have Bh := (g13.get h.n (by omega)).trans Bh
  have Bf := (g13.get h1.n (by omega)).trans Bf
  repeat' (first | refine Yu ?_ | refine Yp ?_ | refine z6 ?_ | refine za ?_ | refine zh ?_ | refine zi ?_ | (refine Yq ?_ ?_ <;> intro hc <;> try first | contradiction | omega) | refine Yx ?_ | refine Yz ?_ | refine Yy ?_)
  all_goals first
   | exact ⟨Or.inr rfl, _, rfl, k _ _ _ (g0.trans G) (by omega)⟩
   | exact ⟨j + 1, by simp; omega, (Sc (Sc (Sc Sn))), G, hst _ n13, Bh, Bf, hlt⟩
 ·repeat' (first | refine Yu ?_ | refine Yp ?_ | refine z6 ?_ | refine za ?_ | refine zh ?_ | refine zi ?_ | (refine Yq ?_ ?_ <;> intro hc <;> try first | contradiction | omega) | refine Yx ?_ | refine Yz ?_ | refine Yy ?_)
  all_goals exact ⟨Or.inr rfl, _, rfl, k _ _ _ (g0.trans G) (by omega)⟩
structure FitR (cl fl : List Dt) : Prop where
 c12 : cl.length ≤ 12
 cF : ∀ i, i < cl.length → (dL 2 (el cl i)).length ≤ 20
 cM : ∀ i, i < cl.length → (dL 3 (el cl i)).length ≤ 20
 cP : ∀ i, i < cl.length → ∀ j, j < (dL 3 (el cl i)).length → (dL 2 (el (dL 3 (el cl i)) j)).length ≤ 20
 f20 : fl.length ≤ 20
 fV : ∀ i, i < fl.length → (dL 4 (el fl i)).length ≤ 70
 fC : ∀ i, i < fl.length → (dL 6 (el fl i)).length ≤ 70
 fA : ∀ i, i < fl.length → ∀ j, j < (dL 6 (el fl i)).length → (dL 7 (el (dL 6 (el fl i)) j)).length ≤ 20
theorem whole_ev {cl fl : List Dt} {cv fv : AV} {mn : Int} (hall : ∀ id, id < 10000000 → seen c.vis id = true) (hcx : Cx c h) (hn : h.n + 222100 < 10000000) (R : FitR cl fl) (C : Sl 70 true h ShClass cl cv) (F : Sl 70 true h ShFunc fl fv) (k : ∀ e h', Grew h h' → h'.n ≤ h.n + 222100 → (e = 0 → ∀ i, i < cl.length → ClsR cl i) → K (.int .i64 e) h') : Gv Tryz.prog X0 Mx c 39 [.agg [cv, fv, .int .i64 mn]] h K := by
 have hnt : (82 : Nat) ≤ 1000000 := by decide
 refine gv_fn x_whole (Mx_no rfl _ _ _) (by simp) hnt ?_
 unfold s_whole SR.g SR.m SR.o SR.s
 obtain ⟨cid, crows, CA, hcr, hcid, hcrow⟩ := at_Class C
 obtain ⟨fid, frows, FA, hfr, hfid, hfrow⟩ := at_Func F
 have hs1 := hall h.n (by omega)
 have hlow := hcx.low
 have hcl := C.le
 have hfl := F.le
 have h12 := R.c12
 refine Yc (Yd (rg_go hnt rfl rfl (wo_boxA rfl rfl (by omega) fun h1 n1 Bu g0 => ?_)))
 replace Bu : h1.get h.n = some (.cells [cv, fv, .int .i64 mn]) := Bu
 repeat' (first | refine Yu ?_ | refine Yp ?_ | refine z6 ?_ | refine z8 ?_ | refine z9 ?_ | refine za ?_ | refine zh ?_ | refine zi ?_ | refine zj ?_ | refine zl ?_ | (refine Yq ?_ ?_ <;> intro hc <;> try first | contradiction | omega) | refine Yx ?_ | refine Yz ?_ | refine Yy ?_)
 refine wo_call rfl rfl (R10Check_ev hall (hcx.mono (by omega)) (by omega) R.c12 R.cF R.cM (C.grew g0) fun a e h2 G n2 hok => ?_)
 have L2 := G.le
 replace Bu := (G.get h.n (by omega)).trans Bu
 have gg := g0.trans G
 replace CA := CA.grew gg
 replace FA := FA.grew gg
 repeat' (first | refine Yu ?_ | refine Yp ?_ | refine z6 ?_ | refine z8 ?_ | refine z9 ?_ | refine za ?_ | refine zh ?_ | refine zi ?_ | refine zj ?_ | refine zl ?_ | (refine Yq ?_ ?_ <;> intro hc <;> try first | contradiction | omega) | refine Yd ?_ | refine Yf ?_ | refine zu ?_ | refine zv ?_ | refine Yg ?_ | refine Yh ?_ | refine Yi ?_ | refine Yz ?_ | refine Yy ?_)
 refine wc_cut2 (ι := Unit) (fun _ => [(1, .ptr h.n 0)]) (fun _ h' => h' = h2 ∧ e = 0) ?_ ?_
 ·repeat' (first | refine Yu ?_ | refine Yp ?_ | refine z6 ?_ | refine z8 ?_ | refine z9 ?_ | refine za ?_ | refine zh ?_ | refine zi ?_ | refine zj ?_ | refine zl ?_ | (refine Yq ?_ ?_ <;> intro hc <;> try first | contradiction | omega) | refine Yx ?_ | refine Yz ?_ | refine Yy ?_)
  all_goals first
   | exact Or.inl ⟨rfl, (), (Sc Sn), rfl, by assumption⟩
   | exact Or.inr ⟨rfl, (by first | exact Or.inr trivial | exact Or.inr rfl | trivial), _, rfl, k _ _ (g0.trans G) (by omega) (fun q => by first | exact absurd q (by assumption) | exact absurd q (by decide))⟩
 rintro _ h' ⟨hh, he⟩
 have hh2 := hh.symm
 subst hh2
 replace hok := hok he
 refine wc_cut2 (ι := Unit) (fun _ => [(1, .ptr h.n 0)]) (fun _ h' => h' = h2) ?_ ?_
 ·repeat' (first | refine Yu ?_ | refine Yp ?_ | refine z6 ?_ | refine z8 ?_ | refine z9 ?_ | refine za ?_ | refine zh ?_ | refine zi ?_ | refine zj ?_ | refine zl ?_ | (refine Yq ?_ ?_ <;> intro hc <;> try first | contradiction | omega) | refine Yx ?_ | refine Yz ?_ | refine Yy ?_)
  all_goals first
   | exact Or.inl ⟨rfl, (), (Sc Sn), rfl⟩
   | exact Or.inr ⟨rfl, (by first | exact Or.inr trivial | exact Or.inr rfl | trivial), _, rfl, k _ _ (g0.trans G) (by omega) (fun q => by first | exact absurd q (by assumption) | exact absurd q (by decide))⟩
 rintro _ h' hh
 have hh2 := hh.symm
 subst hh2
 refine Yc ?_
 repeat' (first | refine Yu ?_ | refine Yp ?_ | refine z6 ?_ | refine z8 ?_ | refine z9 ?_ | refine za ?_ | refine zh ?_ | refine zi ?_ | refine zj ?_ | refine zl ?_ | (refine Yq ?_ ?_ <;> intro hc <;> try first | contradiction | omega) | refine Yd ?_ | refine Yf ?_ | refine zu ?_ | refine zv ?_ | refine Yg ?_ | refine Yh ?_ | refine Yi ?_ | refine Yz ?_ | refine Yy ?_)
 refine wc_cut2 (ι := Int) (fun s => [(1, .ptr h.n 0), (5, .int .i64 s)]) (fun s h' => h' = h2 ∧ 0 ≤ s ∧ s ≤ 240) ?_ ?_
 ·refine Yc ?_
  repeat' (first | refine Yu ?_ | refine Yp ?_ | refine z6 ?_ | refine z8 ?_ | refine z9 ?_ | refine za ?_ | refine zh ?_ | refine zi ?_ | refine zj ?_ | refine zl ?_ | (refine Yq ?_ ?_ <;> intro hc <;> try first | contradiction | omega) | refine Yd ?_ | refine Yf ?_ | refine zu ?_ | refine zv ?_ | refine Yg ?_ | refine Yh ?_ | refine Yi ?_ | refine Yz ?_ | refine Yy ?_)
  refine wc_loopE (ι := Int × Nat) (fun s => [(1, .ptr h.n 0), (5, .int .i64 s.1), (6, .int .i64 (s.2 : Int))]) (fun s h' => h' = h2 ∧ s.2 ≤ cl.length ∧ 0 ≤ s.1 ∧ s.1 ≤ 20 * s.2) (fun s => cl.length - s.2) ?_ (0, 0) ⟨rfl, Nat.zero_le _, by simp, by simp⟩ (Sc (Sc (Sc Sn)))
  rintro ⟨s, j⟩ h' ⟨hh, hj, hs0, hs⟩
  have hh2 := hh.symm
  subst hh2
  simp only at hj hs0 hs ⊢
  by_cases hlt : j < cl.length
  ·obtain ⟨v2, v3, hw, F2, M, oc⟩ := hcrow j hlt
   have hsc := hall cid (by have := hcid (by omega); omega)
   obtain ⟨mid, mrows, MA0, hmr, _, _⟩ := at_Sig M
   have MA := MA0.grew gg
   have hm20 := R.cM j hlt
   repeat' (first | refine Yu ?_ | refine Yp ?_ | refine z6 ?_ | refine z8 ?_ | refine z9 ?_ | refine za ?_ | refine zh ?_ | refine zi ?_ | refine zj ?_ | refine zl ?_ | (refine Yq ?_ ?_ <;> intro hc <;> try first | contradiction | omega) | refine Yx ?_ | refine Yz ?_ | refine Yy ?_)
   exact ⟨(_, j + 1), by simp; omega, (Sc (Sc (Sc Sn))), rfl, hlt, by simp only; omega, by simp only; omega⟩
  ·repeat' (first | refine Yu ?_ | refine Yp ?_ | refine z6 ?_ | refine z8 ?_ | refine z9 ?_ | refine za ?_ | refine zh ?_ | refine zi ?_ | refine zj ?_ | refine zl ?_ | (refine Yq ?_ ?_ <;> intro hc <;> try first | contradiction | omega) | refine Yx ?_ | refine Yz ?_ | refine Yy ?_)
   exact Or.inl ⟨rfl, s, (Sc (Sc Sn)), rfl, hs0, by omega⟩
 rintro s h' ⟨hh, hs0, hs⟩
 have hh2 := hh.symm
 subst hh2
 refine wc_cut2 (ι := Unit) (fun _ => [(1, .ptr h.n 0), (5, .int .i64 s)]) (fun _ h' => h' = h2 ∧ s = frows.length) ?_ ?_
 ·repeat' (first | refine Yu ?_ | refine Yp ?_ | refine z6 ?_ | refine z8 ?_ | refine z9 ?_ | refine za ?_ | refine zh ?_ | refine zi ?_ | refine zj ?_ | refine zl ?_ | (refine Yq ?_ ?_ <;> intro hc <;> try first | contradiction | omega) | refine Yx ?_ | refine Yz ?_ | refine Yy ?_)
  all_goals first
   | exact Or.inl ⟨rfl, (), (Sc (Sc Sn)), rfl, by assumption⟩
   | exact Or.inr ⟨rfl, (by first | exact Or.inr trivial | exact Or.inr rfl | trivial), _, rfl, k _ _ (g0.trans G) (by omega) (fun q => by first | exact absurd q (by assumption) | exact absurd q (by decide))⟩
 rintro _ h' ⟨hh, hsf⟩
 have hh2 := hh.symm
 subst hh2
 refine wc_cut2 (ι := Unit) (fun _ => [(1, .ptr h.n 0)]) (fun _ h' => h' = h2 ∧ 0 ≤ mn ∧ mn < frows.length) ?_ ?_
 ·repeat' (first | refine Yu ?_ | refine Yp ?_ | refine z6 ?_ | refine z8 ?_ | refine z9 ?_ | refine za ?_ | refine zh ?_ | refine zi ?_ | refine zj ?_ | refine zl ?_ | (refine Yq ?_ ?_ <;> intro hc <;> try first | contradiction | omega) | refine Yx ?_ | refine Yz ?_ | refine Yy ?_)
  all_goals first
   | exact Or.inl ⟨rfl, (), (Sc Sn), rfl, by omega, by omega⟩
   | exact Or.inr ⟨rfl, (by first | exact Or.inr trivial | exact Or.inr rfl | trivial), _, rfl, k _ _ (g0.trans G) (by omega) (fun q => by first | exact absurd q (by assumption) | exact absurd q (by decide))⟩
 rintro _ h' ⟨hh, hm0, hm1⟩
 have hh2 := hh.symm
 subst hh2
 obtain ⟨v4, v6, hw, V4, V6, oc⟩ := hfrow mn.toNat (by omega)
 have hsf := hall fid (by have := hfid (by omega); omega)
 generalize el fl mn.toNat = f at hw V4 V6 oc
 refine Yc ?_
 repeat' (first | refine Yu ?_ | refine Yp ?_ | refine z6 ?_ | refine z8 ?_ | refine z9 ?_ | refine za ?_ | refine zh ?_ | refine zi ?_ | refine zj ?_ | refine zl ?_ | (refine Yq ?_ ?_ <;> intro hc <;> try first | contradiction | omega) | refine Yd ?_ | refine Yf ?_ | refine zu ?_ | refine zv ?_ | refine Yg ?_ | refine Yh ?_ | refine Yi ?_ | refine Yz ?_ | refine Yy ?_)
 refine rg_bs hnt (hcx.mono (by omega)) (by omega) rfl rfl rfl rfl (by rfl) (by exact oc) fun h3 n3 Bm g3 => ?_
 have G := G.trans g3
 have hs3 := hall h2.n (by omega)
 repeat' (first | refine Yu ?_ | refine Yp ?_ | refine z6 ?_ | refine z8 ?_ | refine z9 ?_ | refine za ?_ | refine zh ?_ | refine zi ?_ | refine zj ?_ | refine zl ?_ | (refine Yq ?_ ?_ <;> intro hc <;> try first | contradiction | omega) | refine Yd ?_ | refine Yf ?_ | refine zu ?_ | refine zv ?_ | refine Yg ?_ | refine Yh ?_ | refine Yi ?_ | refine Yz ?_ | refine Yy ?_)
 generalize dB 2 f = sb at Bm
 cases sb
 all_goals repeat' (first | refine Yu ?_ | refine Yp ?_ | refine z6 ?_ | refine z8 ?_ | refine z9 ?_ | refine za ?_ | refine zh ?_ | refine zi ?_ | refine zj ?_ | refine zl ?_ | (refine Yq ?_ ?_ <;> intro hc <;> try first | contradiction | omega) | refine Yx ?_ | refine Yz ?_ | refine Yy ?_)
 all_goals exact ⟨Or.inr rfl, _, rfl, k _ _ (g0.trans G) (by omega) (fun q => by first | exact absurd q (by decide) | exact hok)⟩
theorem R12Check_ev {cl fl : List Dt} {cv fv : AV} {mn : Int} (hall : ∀ id, id < 10000000 → seen c.vis id = true) (hcx : Cx c h) (hn : h.n + 3600000 < 10000000) (R : FitR cl fl) (C : Sl 70 true h ShClass cl cv) (F : Sl 70 true h ShFunc fl fv) (k : ∀ a b e h', Grew h h' → h'.n ≤ h.n + 3600000 → (e = 0 → ∀ i, i < cl.length → ClsR cl i) → K (.tup [.int .i64 a, .int .i64 b, .int .i64 e]) h') : Gv Tryz.prog X0 Mx c 21 [.agg [cv, fv, .int .i64 mn]] h K := by
 have hnt : (78 : Nat) ≤ 1000000 := by decide
 refine gv_fn x_R12Check (Mx_no rfl _ _ _) (by simp) hnt ?_
 unfold s_R12Check SR.c SR.l SR.m SR.o SR.p SR.s
 obtain ⟨fid, frows, FA, hfr, hfid, hfrow⟩ := at_Func F
 have hs1 := hall h.n (by omega)
 have hlow := hcx.low
 have hfl := F.le
 have hf20 := R.f20
 refine Yc (Yd (rg_go hnt rfl rfl (wo_boxA rfl rfl (by omega) fun h1 n1 Bu g0 => ?_)))
 replace Bu : h1.get h.n = some (.cells [cv, fv, .int .i64 mn]) := Bu
 repeat' (first | refine Yu ?_ | refine Yp ?_ | refine z6 ?_ | refine z8 ?_ | refine za ?_ | refine zh ?_ | refine zi ?_ | refine zj ?_ | refine zl ?_ | (refine Yq ?_ ?_ <;> intro hc <;> try first | contradiction | omega) | refine Yx ?_ | refine Yv ?_ | refine zx ?_ | refine Yz ?_ | refine Yy ?_)
 refine wo_call rfl rfl (whole_ev hall (hcx.mono (by omega)) (by omega) R (C.grew g0) (F.grew g0) fun e h2 G n2 hok => ?_)
 have L2 := G.le
 replace Bu := (G.get h.n (by omega)).trans Bu
 have gg := g0.trans G
 repeat' (first | refine Yu ?_ | refine Yp ?_ | refine z6 ?_ | refine z8 ?_ | refine za ?_ | refine zh ?_ | refine zi ?_ | refine zj ?_ | refine zl ?_ | (refine Yq ?_ ?_ <;> intro hc <;> try first | contradiction | omega) | refine Yd ?_ | refine Ye ?_ | refine Yf ?_ | refine zu ?_ | refine zv ?_ | refine Yg ?_ | refine Yh ?_ | refine Yi ?_ | refine Yv ?_ | refine zx ?_ | refine Yz ?_ | refine Yy ?_)
 refine wc_cut2 (ι := Unit) (fun _ => [(1, .ptr h.n 0)]) (fun _ h' => h' = h2 ∧ e = 0) ?_ ?_
 ·repeat' (first | refine Yu ?_ | refine Yp ?_ | refine z6 ?_ | refine z8 ?_ | refine za ?_ | refine zh ?_ | refine zi ?_ | refine zj ?_ | refine zl ?_ | (refine Yq ?_ ?_ <;> intro hc <;> try first | contradiction | omega) | refine Yx ?_ | refine Yv ?_ | refine zx ?_ | refine Yz ?_ | refine Yy ?_)
  all_goals first
   | exact Or.inl ⟨rfl, (), (Sc Sn), rfl, by assumption⟩
   | exact Or.inr ⟨rfl, (by first | exact Or.inr trivial | exact Or.inr rfl | trivial), _, rfl, k _ _ _ _ (g0.trans G) (by omega) (fun q => by first | exact absurd q (by assumption) | exact absurd q (by decide))⟩
 rintro _ h' ⟨hh, he⟩
 have hh2 := hh.symm
 subst hh2
 replace hok := hok he
 refine Yc ?_
 repeat' (first | refine Yu ?_ | refine Yp ?_ | refine z6 ?_ | refine z8 ?_ | refine za ?_ | refine zh ?_ | refine zi ?_ | refine zj ?_ | refine zl ?_ | (refine Yq ?_ ?_ <;> intro hc <;> try first | contradiction | omega) | refine Yd ?_ | refine Ye ?_ | refine Yf ?_ | refine zu ?_ | refine zv ?_ | refine Yg ?_ | refine Yh ?_ | refine Yi ?_ | refine Yv ?_ | refine zx ?_ | refine Yz ?_ | refine Yy ?_)
 refine wc_cut2 (ι := Int) (fun s => [(1, .ptr h.n 0), (6, .int .i64 s)]) (fun s h' => Grew h1 h' ∧ h'.get h.n = some (.cells [cv, fv, .int .i64 mn]) ∧ h'.n ≤ h2.n + 3200400) ?_ ?_
 ·refine Yc ?_
  repeat' (first | refine Yu ?_ | refine Yp ?_ | refine z6 ?_ | refine z8 ?_ | refine za ?_ | refine zh ?_ | refine zi ?_ | refine zj ?_ | refine zl ?_ | (refine Yq ?_ ?_ <;> intro hc <;> try first | contradiction | omega) | refine Yd ?_ | refine Ye ?_ | refine Yf ?_ | refine zu ?_ | refine zv ?_ | refine Yg ?_ | refine Yh ?_ | refine Yi ?_ | refine Yv ?_ | refine zx ?_ | refine Yz ?_ | refine Yy ?_)
  refine wc_loopE (ι := Int × Nat) (fun s => [(1, .ptr h.n 0), (6, .int .i64 s.1), (7, .int .i64 (s.2 : Int))]) (fun s h' => Grew h1 h' ∧ h'.get h.n = some (.cells [cv, fv, .int .i64 mn]) ∧ h'.n ≤ h2.n + 160010 * s.2 ∧ s.2 ≤ fl.length ∧ 0 ≤ s.1 ∧ s.1 ≤ 70 * s.2) (fun s => fl.length - s.2) ?_ (0, 0) ⟨G, Bu, by simp, Nat.zero_le _, by simp, by simp⟩ (Sc (Sc (Sc Sn)))
  clear G Bu gg
  rintro ⟨s, j⟩ h3 ⟨G, Bu, N3, hj, hs0, hs⟩
  simp only at N3 hj hs0 hs ⊢
  have L3 := G.le
  have hst : ∀ a, a ≤ h3.n + 160010 → a ≤ h2.n + 160010 * (j + 1) := fun a ha => bud_step ha N3
  have N4 : h3.n ≤ h2.n + 3200200 := bud_leG N3 (Nat.le_trans hj hf20) (by decide)
  clear N3
  have FG := FA.grew (g0.trans G)
  by_cases hlt : j < fl.length
  ·obtain ⟨v4, v6, hw, V4, V6, oc⟩ := hfrow j hlt
   have hsf := hall fid (by have := hfid (by omega); omega)
   have hfC := R.fC j hlt
   have hfV := R.fV j hlt
   repeat' (first | refine Yu ?_ | refine Yp ?_ | refine z6 ?_ | refine z8 ?_ | refine za ?_ | refine zh ?_ | refine zi ?_ | refine zj ?_ | refine zl ?_ | (refine Yq ?_ ?_ <;> intro hc <;> try first | contradiction | omega) | refine Yx ?_ | refine Yv ?_ | refine zx ?_ | refine Yz ?_ | refine Yy ?_)
   refine wo_call rfl rfl (numbered_ev (n := j) hall (hcx.mono (by omega)) (by omega) (by omega) R.cP (C.grew (g0.trans G)) fun a n r st b pd pv h4 g4 n4 P hp => ?_)
   have L4 := g4.le
   have G := G.trans g4
   have Bu := (g4.get h.n (by omega)).trans Bu
   have FG := FA.grew (g0.trans G)
   have oo : ones [.str n, .bool st, pv, .str r] = true := by have po := P.one; simp only [ones, po]; rfl
   repeat' (first | refine Yu ?_ | refine Yp ?_ | refine z6 ?_ | refine z8 ?_ | refine za ?_ | refine zh ?_ | refine zi ?_ | refine zj ?_ | refine zl ?_ | (refine Yq ?_ ?_ <;> intro hc <;> try first | contradiction | omega) | refine Yx ?_ | refine Yv ?_ | refine zx ?_ | refine Yz ?_ | refine Yy ?_)
   refine rg_bs1 hnt rfl (hcx.mono (by omega)) (by omega) rfl rfl rfl rfl (by rfl) (by rfl) (by exact oo) fun h5 n5 b5 g5 => ?_
   have L5 := g5.le
   have G := G.trans g5
   have Bu := (g5.get h.n (by omega)).trans Bu
   have FG := FA.grew (g0.trans G)
   have hs4 := hall h4.n (by omega)
   repeat' (first | refine Yu ?_ | refine Yp ?_ | refine z6 ?_ | refine z8 ?_ | refine za ?_ | refine zh ?_ | refine zi ?_ | refine zj ?_ | refine zl ?_ | (refine Yq ?_ ?_ <;> intro hc <;> try first | contradiction | omega) | refine Yx ?_ | refine Yv ?_ | refine zx ?_ | refine Yz ?_ | refine Yy ?_)
   refine rd_bar hnt rfl rfl (wo_call rfl rfl (checkFunc_ev (fun id q => by by_cases z : id < h5.n; exact seen_old (by repeat (first | exact rs_nil | refine rs_add (by omega) ?_)) (by omega) z (hall id q); exact seen_here (by omega) (by unfold big; omega)) (Cx.mem (by omega)) (by omega) R.c12 (R.fV j hlt) (R.fC j hlt) (R.fA j hlt) (by omega) (C.grew (g0.trans G)) (V4.grew (g0.trans G)) (V6.grew (g0.trans G)) (P.grew (g4.trans g5)) fun a e h6 g6 n6 => ⟨(by repeat (first | exact unchF_nil | refine unchF_cons (by decide) ?_ | refine unchF_same (by assumption) ((g6.get _ (by omega)).trans (by assumption)) ?_)), ?_⟩))
   have L6 := g6.le
   have G := G.trans g6
   have Bu := (g6.get h.n (by omega)).trans Bu
   have FG := FA.grew (g0.trans G)
   repeat' (first | refine Yu ?_ | refine Yp ?_ | refine z6 ?_ | refine z8 ?_ | refine za ?_ | refine zh ?_ | refine zi ?_ | refine zj ?_ | refine zl ?_ | (refine Yq ?_ ?_ <;> intro hc <;> try first | contradiction | omega) | refine Yd ?_ | refine Ye ?_ | refine Yf ?_ | refine zu ?_ | refine zv ?_ | refine Yg ?_ | refine Yh ?_ | refine Yi ?_ | refine Yv ?_ | refine zx ?_ | refine Yz ?_ | refine Yy ?_)
   refine wc_cut2 (ι := Unit) (fun _ => [(1, .ptr h.n 0), (6, .int .i64 s), (7, .int .i64 (j : Int))]) (fun _ h' => h' = h6) ?_ ?_
   ·repeat' (first | refine Yu ?_ | refine Yp ?_ | refine z6 ?_ | refine z8 ?_ | refine za ?_ | refine zh ?_ | refine zi ?_ | refine zj ?_ | refine zl ?_ | (refine Yq ?_ ?_ <;> intro hc <;> try first | contradiction | omega) | refine Yx ?_ | refine Yv ?_ | refine zx ?_ | refine Yz ?_ | refine Yy ?_)
    all_goals try exact Or.inl ⟨rfl, (), (Sc (Sc (Sc Sn))), rfl⟩
    all_goals refine Or.inr ⟨rfl, ?_⟩
    all_goals repeat' (first | refine Yu ?_ | refine Yp ?_ | refine z6 ?_ | refine z8 ?_ | refine za ?_ | refine zh ?_ | refine zi ?_ | refine zj ?_ | refine zl ?_ | (refine Yq ?_ ?_ <;> intro hc <;> try first | contradiction | omega) | refine Yx ?_ | refine Yv ?_ | refine zx ?_ | refine Yz ?_ | refine Yy ?_)
    all_goals exact Or.inr ⟨rfl, (by first | exact Or.inr trivial | exact Or.inr rfl | trivial), _, rfl, k _ _ _ _ (g0.trans G) (by omega) (fun q => by first | exact absurd q (by assumption) | exact absurd q (by decide))⟩
   rintro _ h' hh
   have hh2 := hh.symm
   subst hh2
   obtain ⟨did, drows, DA0, hdr, hdid, hdrow⟩ := at_Instr V6
   have DG := DA0.grew (g0.trans G)
   repeat' (first | refine Yu ?_ | refine Yp ?_ | refine z6 ?_ | refine z8 ?_ | refine za ?_ | refine zh ?_ | refine zi ?_ | refine zj ?_ | refine zl ?_ | (refine Yq ?_ ?_ <;> intro hc <;> try first | contradiction | omega) | refine Yx ?_ | refine Yv ?_ | refine zx ?_ | refine Yz ?_ | refine Yy ?_)
   refine wc_loopE (ι := Int × Nat) (fun s => [(1, .ptr h.n 0), (6, .int .i64 s.1), (7, .int .i64 (j : Int)), (13, .int .i64 (s.2 : Int))]) (fun s2 h' => h' = h6 ∧ s2.2 ≤ drows.length ∧ 0 ≤ s2.1 ∧ s2.1 ≤ s + s2.2) (fun s => drows.length - s.2) ?_ (s, 0) ⟨rfl, Nat.zero_le _, hs0, by simp⟩ (Sc (Sc (Sc (Sc Sn))))
   rintro ⟨s2, j2⟩ h' ⟨hh, hj2, hs20, hs2⟩
   have hh2 := hh.symm
   subst hh2
   simp only at hj2 hs20 hs2 ⊢
   by_cases hlt2 : j2 < drows.length
   ·have hsd := hall did (by have := hdid (by omega); omega)
    obtain ⟨v9, hw2, _, _⟩ := hdrow j2 (by omega)
    repeat' (first | refine Yu ?_ | refine Yp ?_ | refine z6 ?_ | refine z8 ?_ | refine za ?_ | refine zh ?_ | refine zi ?_ | refine zj ?_ | refine zl ?_ | (refine Yq ?_ ?_ <;> intro hc <;> try first | contradiction | omega) | refine Yx ?_ | refine Yv ?_ | refine zx ?_ | refine Yz ?_ | refine Yy ?_)
    all_goals exact ⟨(_, j2 + 1), by simp; omega, (Sc (Sc (Sc (Sc Sn)))), rfl, hlt2, by simp only; omega, by simp only; omega⟩
   ·repeat' (first | refine Yu ?_ | refine Yp ?_ | refine z6 ?_ | refine z8 ?_ | refine za ?_ | refine zh ?_ | refine zi ?_ | refine zj ?_ | refine zl ?_ | (refine Yq ?_ ?_ <;> intro hc <;> try first | contradiction | omega) | refine Yx ?_ | refine Yv ?_ | refine zx ?_ | refine Yz ?_ | refine Yy ?_)
    exact ⟨(s2, j + 1), by simp; omega, (Sc (Sc (Sc Sn))), G, Bu, hst _ (by omega), hlt, hs20, by simp only; omega⟩
  ·repeat' (first | refine Yu ?_ | refine Yp ?_ | refine z6 ?_ | refine z8 ?_ | refine za ?_ | refine zh ?_ | refine zi ?_ | refine zj ?_ | refine zl ?_ | (refine Yq ?_ ?_ <;> intro hc <;> try first | contradiction | omega) | refine Yx ?_ | refine Yv ?_ | refine zx ?_ | refine Yz ?_ | refine Yy ?_)
   exact Or.inl ⟨rfl, s, (Sc (Sc Sn)), G, Bu, by omega⟩
 clear G Bu gg
 rintro s h3 ⟨G, Bu, N3⟩
 have L3 := G.le
 repeat' (first | refine Yu ?_ | refine Yp ?_ | refine z6 ?_ | refine z8 ?_ | refine za ?_ | refine zh ?_ | refine zi ?_ | refine zj ?_ | refine zl ?_ | (refine Yq ?_ ?_ <;> intro hc <;> try first | contradiction | omega) | refine Yx ?_ | refine Yv ?_ | refine zx ?_ | refine Yz ?_ | refine Yy ?_)
 all_goals exact ⟨(by first | exact Or.inr trivial | exact Or.inr rfl | trivial), _, rfl, k _ _ _ _ (g0.trans G) (by omega) (fun q => by first | exact hok | exact absurd q (by decide))⟩
theorem R13Check_ev {cl fl : List Dt} {cv fv : AV} {mn : Int} (hall : ∀ id, id < 10000000 → seen c.vis id = true) (hcx : Cx c h) (hn : h.n + 3600001 < 10000000) (R : FitR cl fl) (C : Sl 70 true h ShClass cl cv) (F : Sl 70 true h ShFunc fl fv) (k : ∀ a b e h', Grew h h' → h'.n ≤ h.n + 3600001 → (e = 0 → ∀ i, i < cl.length → ClsR cl i) → K (.tup [.int .i64 a, .int .i64 b, .int .i64 e]) h') : Gv Tryz.prog X0 Mx c 11 [.agg [cv, fv, .int .i64 mn]] h K := by
 have hnt : (10 : Nat) ≤ 1000000 := by decide
 refine gv_fn x_R13Check (Mx_no rfl _ _ _) (by simp) hnt ?_
 unfold s_R13Check SR.m SR.o
 have hs1 := hall h.n (by omega)
 have hlow := hcx.low
 refine Yc (Yd (rg_go hnt rfl rfl (wo_boxA rfl rfl (by omega) fun h1 n1 Bu g0 => ?_)))
 replace Bu : h1.get h.n = some (.cells [cv, fv, .int .i64 mn]) := Bu
 repeat' (first | refine Yu ?_ | refine Yp ?_ | refine zi ?_ | refine Yx ?_ | refine Yy ?_)
 refine wo_call rfl rfl (R12Check_ev hall (hcx.mono (by omega)) (by omega) R (C.grew g0) (F.grew g0) fun a b e h2 G n2 hok => ?_)
 repeat' (first | refine Yu ?_ | refine Yp ?_ | refine zi ?_ | refine Yx ?_ | refine Yy ?_)
 exact ⟨(by first | exact Or.inr trivial | exact Or.inr rfl | trivial), _, rfl, k _ _ _ _ (g0.trans G) (by omega) hok⟩
end Go.Proofs.YtmdceifbbmnfgaaGreatDoor.Ev
