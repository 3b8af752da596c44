/- Reference: the check of the hierarchy. -/
import Derived.Test.YtmdceifbbmnfgaaGreatDoorTfD
set_option linter.unusedVariables false
set_option linter.unusedSimpArgs false
set_option maxHeartbeats 4000000
namespace Go.Proofs.YtmdceifbbmnfgaaGreatDoor.Ev
open Go
open Classical
variable {c : C} {h : H} {K : AV → H → Prop}
theorem SameSig_ev {m1 m2 r1 r2 : List Nat} {t1 t2 : Bool} {pd1 pd2 : List Dt} {pv1 pv2 : AV} (hall : ∀ id, id < 10000000 → seen c.vis id = true) (hcx : Cx c h) (hn : h.n + 2 < 10000000) (P1 : Sl 70 true h .str pd1 pv1) (P2 : Sl 70 true h .str pd2 pv2) (k : ∀ b h', Grew h h' → h'.n ≤ h.n + 2 → K (.bool b) h') : Gv Tryz.prog X0 Mx c 442 [.agg [.str m1, .bool t1, pv1, .str r1], .agg [.str m2, .bool t2, pv2, .str r2]] h K := by
 have hnt : (38 : Nat) ≤ 1000000 := by decide
 refine gv_fn x_SameSig (Mx_no rfl _ _ _) (by simp) hnt ?_
 unfold s_SameSig SR.g SR.o SR.p
 obtain ⟨i1, w1, A1, e1, y1, p1⟩ := at_str P1
 obtain ⟨i2, w2, A2, e2, y2, p2⟩ := at_str P2
 have l1 := P1.le
 have l2 := P2.le
 have hs1 := hall h.n (by omega)
 refine Yc (Yd (rg_go hnt rfl rfl (wo_boxA rfl rfl (by omega) fun h1 n1 b1 g1 => ?_)))
 have hsb := hall h1.n (by omega)
 repeat' (first | refine Yu ?_ | refine Yp ?_ | refine z6 ?_ | refine z8 ?_ | refine za ?_ | refine zh ?_ | refine zk ?_ | (refine Yq ?_ ?_ <;> intro hc <;> try first | contradiction | omega) | (refine wo_boxA rfl rfl (by omega) fun hb nb bb gb => ?_) | refine Yx ?_ | refine Yv ?_ | refine zx ?_ | refine Yz ?_ | refine Yy ?_)
 have b1b := (gb.get h.n (by omega)).trans b1
 repeat' (first | refine Yu ?_ | refine Yp ?_ | refine z6 ?_ | refine z8 ?_ | refine za ?_ | refine zh ?_ | refine zk ?_ | (refine Yq ?_ ?_ <;> intro hc <;> try first | contradiction | omega) | refine Yx ?_ | refine Yv ?_ | refine zx ?_ | refine Yz ?_ | refine Yy ?_)
 all_goals try exact ⟨Or.inr rfl, _, rfl, k _ _ (g1.trans gb) (by omega)⟩
 have B1 := A1.grew (g1.trans gb)
 have B2 := A2.grew (g1.trans gb)
 refine wc_loopE (ι := Nat) (fun j => [(2, .ptr h.n 0), (3, .ptr h1.n 0), (5, .int .i64 (j : Int))]) (fun j h' => h' = hb ∧ j ≤ pd1.length) (fun j => pd1.length - j) ?_ 0 ⟨rfl, Nat.zero_le _⟩ (Sc (Sc (Sc Sn)))
 rintro j h' ⟨hh, hj⟩
 have hh2 := hh.symm
 subst hh2
 by_cases hlt : j < pd1.length
 ·have q1 := p1 j hlt
  have q2 := p2 j (by omega)
  have hs3 := hall i1 (by have := y1 (by omega); omega)
  have hs4 := hall i2 (by have := y2 (by omega); omega)
  have hi1 := y1 (by omega)
  have hi2 := y2 (by omega)
  repeat' (first | refine Yu ?_ | refine Yp ?_ | refine z6 ?_ | refine z8 ?_ | refine za ?_ | refine zh ?_ | refine zk ?_ | (refine Yq ?_ ?_ <;> intro hc <;> try first | contradiction | omega) | refine Yx ?_ | refine Yv ?_ | refine zx ?_ | refine Yz ?_ | refine Yy ?_)
  ·exact ⟨j + 1, by simp; omega, (Sc (Sc (Sc Sn))), rfl, hlt⟩
  ·exact ⟨Or.inr rfl, _, rfl, k _ _ (g1.trans gb) (by omega)⟩
 ·repeat' (first | refine Yu ?_ | refine Yp ?_ | refine z6 ?_ | refine z8 ?_ | refine za ?_ | refine zh ?_ | refine zk ?_ | (refine Yq ?_ ?_ <;> intro hc <;> try first | contradiction | omega) | refine Yx ?_ | refine Yv ?_ | refine zx ?_ | refine Yz ?_ | refine Yy ?_)
  exact ⟨Or.inr rfl, _, rfl, k _ _ (g1.trans gb) (by omega)⟩
theorem overrides_ev {cl : List Dt} {cv : AV} {s nm rs : List Nat} {st : Bool} {pd : List Dt} {pv : AV} (hall : ∀ id, id < 10000000 → seen c.vis id = true) (hcx : Cx c h) (hn : h.n + 700 < 10000000) (h12 : cl.length ≤ 12) (hM : ∀ i, i < cl.length → (dL 3 (el cl i)).length ≤ 20) (C : Sl 70 true h ShClass cl cv) (S : Sl 70 true h .str pd pv) (k : ∀ b h', Grew h h' → h'.n ≤ h.n + 700 → K (.bool b) h') : Gv Tryz.prog X0 Mx c 375 [.agg [cv], .str s, .agg [.str nm, .bool st, pv, .str rs]] h K := by
 have hnt : (68 : Nat) ≤ 1000000 := by decide
 refine gv_fn x_overrides (Mx_no rfl _ _ _) (by simp) hnt ?_
 unfold s_overrides SR.S SR.c SR.g SR.l SR.m SR.o SR.p
 obtain ⟨id, rows, A, hr, hid, hrow⟩ := at_Class C
 have hs1 := hall h.n (by omega)
 have hlow := hcx.low
 have hcl := chainR_len (cl := cl) (s := s)
 have hcm := chainR_mem (cl := cl) (s := s)
 refine Yc (Yd (rg_go hnt rfl rfl (wo_boxA rfl rfl (by omega) fun h1 n1 b1 g1 => ?_)))
 have hsb := hall h1.n (by omega)
 repeat' (first | refine Yu ?_ | refine Yp ?_ | refine z6 ?_ | refine z7 ?_ | refine zV ?_ | refine z8 ?_ | refine zU ?_ | refine z9 ?_ | refine za ?_ | refine zh ?_ | refine zi ?_ | refine zj ?_ | refine zl ?_ | (refine Yq ?_ ?_ <;> intro hc <;> try first | contradiction | omega) | (refine wo_boxA rfl rfl (by omega) fun hb nb bb gb => ?_) | refine Yx ?_ | refine Yv ?_ | refine zx ?_ | refine Yz ?_ | refine Yy ?_)
 have b1b := (gb.get h.n (by omega)).trans b1
 repeat' (first | refine Yu ?_ | refine Yp ?_ | refine z6 ?_ | refine z7 ?_ | refine zV ?_ | refine z8 ?_ | refine zU ?_ | refine z9 ?_ | refine za ?_ | refine zh ?_ | refine zi ?_ | refine zj ?_ | refine zl ?_ | (refine Yq ?_ ?_ <;> intro hc <;> try first | contradiction | omega) | (refine wo_call rfl rfl (up_ev hall (hcx.mono (by omega)) (by omega) h12 (C.grew (g1.trans gb)) fun h2 v2 g2 n2 U2 => ?_)) | refine Yx ?_ | refine Yv ?_ | refine zx ?_ | refine Yz ?_ | refine Yy ?_)
 replace hcm : ∀ x ∈ (chainR cl s).1.drop 1, 0 ≤ findI (nms cl) x := fun x hx => hcm x (List.mem_of_mem_drop hx)
 replace hcl : ((chainR cl s).1.drop 1).length ≤ cl.length := by rw [List.length_drop]; omega
 generalize (chainR cl s).1.drop 1 = l at U2 hcl hcm
 have g2l := g2.le
 rcases U2 with ⟨rfl, rfl⟩ | ⟨uid, uo, ucap, uvs, rfl, hu1, hu2, hu3⟩
 ·refine wc_loopE (ι := Unit) (fun _ => [(7, .nils), (8, .int .i64 0)]) (fun _ h' => h' = h2) (fun _ => 0) ?_ () rfl (Sc (Sc Sn))
  rintro _ h' hh
  have hh2 := hh.symm
  subst hh2
  repeat' (first | refine Yu ?_ | refine Yp ?_ | refine z6 ?_ | refine z7 ?_ | refine zV ?_ | refine z8 ?_ | refine zU ?_ | refine z9 ?_ | refine za ?_ | refine zh ?_ | refine zi ?_ | refine zj ?_ | refine zl ?_ | (refine Yq ?_ ?_ <;> intro hc <;> try first | contradiction | omega) | refine Yx ?_ | refine Yv ?_ | refine zx ?_ | refine Yz ?_ | refine Yy ?_)
  exact ⟨Or.inr rfl, _, rfl, k _ _ ((g1.trans gb).trans g2) (by omega)⟩
 refine wc_loopE (ι := Nat) (fun j => [(3, .ptr h.n 0), (5, .ptr h1.n 0), (7, (.sl uid uo l.length 1 ucap)), (8, .int .i64 (j : Int))]) (fun j h' => Grew h2 h' ∧ h'.n ≤ h2.n + 42 * j ∧ j ≤ l.length) (fun j => l.length - j) ?_ 0 ⟨Grew.refl _, by omega, Nat.zero_le _⟩ (Sc (Sc (Sc (Sc Sn))))
 rintro j h4 ⟨hG, hN, hj⟩
 have hGl := hG.le
 have gB := ((g1.trans gb).trans g2).trans hG
 have B4 := ((g2.trans hG).get h.n (by omega)).trans b1b
 have D4 := ((g2.trans hG).get h1.n (by omega)).trans bb
 have U4 := (hG.get uid hu1).trans hu2
 by_cases hlt : j < l.length
 ·have hfx := hcm _ (getD_mem hlt)
  have hw := hu3 j hlt
  have hs2 := hall uid (by omega)
  have hfl : (findI (nms cl) (l.getD j [])).toNat < cl.length := by have := findI_lt (l := nms cl) (s := l.getD j []); rw [nms_len] at this; omega
  have hsi := hall id (by have := hid (by omega); omega)
  have hM1 := hM _ hfl
  obtain ⟨w2, w3, hwc, _, F, oc⟩ := hrow _ hfl
  repeat' (first | refine Yu ?_ | refine Yp ?_ | refine z6 ?_ | refine z7 ?_ | refine zV ?_ | refine z8 ?_ | refine zU ?_ | refine z9 ?_ | refine za ?_ | refine zh ?_ | refine zi ?_ | refine zj ?_ | refine zl ?_ | (refine Yq ?_ ?_ <;> intro hc <;> try first | contradiction | omega) | (refine rd_bar hnt rfl rfl (wo_call rfl rfl (rFind_ev (fun id q => by by_cases z : id < h4.n; exact seen_old (by repeat (first | exact rs_nil | refine rs_add (by omega) ?_)) (by omega) z (hall id q); exact seen_here (by omega) (by unfold big; omega)) (Cx.mem (by omega)) (by omega) (C.grew gB) fun h5 g5 n5 => ⟨(by repeat (first | exact unchF_nil | refine unchF_cons (by decide) ?_ | refine unchF_same (by assumption) ((g5.get _ (by omega)).trans (by assumption)) ?_)), ?_⟩))) | refine Yx ?_ | refine Yv ?_ | refine zx ?_ | refine Yz ?_ | refine Yy ?_)
  have B5 := (g5.get h.n (by omega)).trans B4
  have A5 := A.grew (gB.trans g5)
  have g5l := g5.le
  repeat' (first | refine Yu ?_ | refine Yp ?_ | refine z6 ?_ | refine z7 ?_ | refine zV ?_ | refine z8 ?_ | refine zU ?_ | refine z9 ?_ | refine za ?_ | refine zh ?_ | refine zi ?_ | refine zj ?_ | refine zl ?_ | (refine Yq ?_ ?_ <;> intro hc <;> try first | contradiction | omega) | refine Yx ?_ | refine Yv ?_ | refine zx ?_ | refine Yz ?_ | refine Yy ?_)
  refine rd_bs hnt (by omega) (by omega) rfl rfl rfl rfl (by rfl) (by exact oc) (by decide) (fun k1 k2 e1 e2 => by repeat (first | exact unchF_nil | refine unchF_cons (by decide) ?_)) fun h6 n6 b6 g6 => ?_
  have g6l := g6.le
  have gC := (gB.trans g5).trans g6
  have D6 := ((g5.trans g6).get h1.n (by omega)).trans D4
  obtain ⟨fid, frows, FA0, hfr, hfid, hfrow⟩ := at_Sig F
  have hs5 := hall h5.n (by omega)
  generalize dL 3 (el cl (findI (nms cl) (l.getD j [])).toNat) = fl at hfr hfid hfrow FA0 F hM1
  repeat' (first | refine Yu ?_ | refine Yp ?_ | refine z6 ?_ | refine z7 ?_ | refine zV ?_ | refine z8 ?_ | refine zU ?_ | refine z9 ?_ | refine za ?_ | refine zh ?_ | refine zi ?_ | refine zj ?_ | refine zl ?_ | (refine Yq ?_ ?_ <;> intro hc <;> try first | contradiction | omega) | refine Yx ?_ | refine Yv ?_ | refine zx ?_ | refine Yz ?_ | refine Yy ?_)
  refine wc_loopE (ι := Nat) (fun k => [(3, .ptr h.n 0), (5, .ptr h1.n 0), (7, (.sl uid uo l.length 1 ucap)), (8, .int .i64 (j : Int)), (9, .ptr h5.n 0), (10, .int .i64 (k : Int))]) (fun k h' => Grew h6 h' ∧ h'.n ≤ h6.n + 2 * k ∧ k ≤ fl.length) (fun k => fl.length - k) ?_ 0 ⟨Grew.refl _, by omega, Nat.zero_le _⟩ (Sc (Sc (Sc (Sc (Sc (Sc Sn))))))
  rintro k' h8 ⟨hG8, hN8, hk⟩
  have hGl8 := hG8.le
  have FA := FA0.grew (gC.trans hG8)
  have b8 := (hG8.get h5.n (by omega)).trans b6
  have D8 := (hG8.get h1.n (by omega)).trans D6
  by_cases hkl : k' < fl.length
  ·have hs7 := hall fid (by have := hfid (by omega); omega)
   have hfi := hfid (by omega)
   obtain ⟨pv', hwk, hpd, om⟩ := hfrow k' hkl
   generalize dB 1 (el fl k') = sb at hwk om
   clear hrow hcm hfrow hu3 hw A A5 FA0 hwc U4 B5 B4 D4 D6 hs2 hsi
   have fin1 : K (.bool true) h8 := k _ _ (gC.trans hG8) (by omega)
   by_cases hnm : dS 0 (el fl k') = nm
   case neg =>
    repeat' (first | refine Yu ?_ | refine Yp ?_ | refine z6 ?_ | refine z7 ?_ | refine zV ?_ | refine z8 ?_ | refine zU ?_ | refine z9 ?_ | refine za ?_ | refine zh ?_ | refine zi ?_ | refine zj ?_ | refine zl ?_ | (refine Yq ?_ ?_ <;> intro hc <;> try first | contradiction | omega) | refine Yx ?_ | refine Yv ?_ | refine zx ?_ | refine Yz ?_ | refine Yy ?_)
    exact ⟨k' + 1, by simp; omega, (Sc (Sc (Sc (Sc (Sc (Sc Sn)))))), hG8, by omega, hkl⟩
   cases sb
   case true =>
    repeat' (first | refine Yu ?_ | refine Yp ?_ | refine z6 ?_ | refine z7 ?_ | refine zV ?_ | refine z8 ?_ | refine zU ?_ | refine z9 ?_ | refine za ?_ | refine zh ?_ | refine zi ?_ | refine zj ?_ | refine zl ?_ | (refine Yq ?_ ?_ <;> intro hc <;> try first | contradiction | omega) | refine Yx ?_ | refine Yv ?_ | refine zx ?_ | refine Yz ?_ | refine Yy ?_)
    exact ⟨Or.inr rfl, _, rfl, fin1⟩
   cases st
   case true =>
    repeat' (first | refine Yu ?_ | refine Yp ?_ | refine z6 ?_ | refine z7 ?_ | refine zV ?_ | refine z8 ?_ | refine zU ?_ | refine z9 ?_ | refine za ?_ | refine zh ?_ | refine zi ?_ | refine zj ?_ | refine zl ?_ | (refine Yq ?_ ?_ <;> intro hc <;> try first | contradiction | omega) | refine Yx ?_ | refine Yv ?_ | refine zx ?_ | refine Yz ?_ | refine Yy ?_)
    exact ⟨Or.inr rfl, _, rfl, fin1⟩
   repeat' (first | refine Yu ?_ | refine Yp ?_ | refine z6 ?_ | refine z7 ?_ | refine zV ?_ | refine z8 ?_ | refine zU ?_ | refine z9 ?_ | refine za ?_ | refine zh ?_ | refine zi ?_ | refine zj ?_ | refine zl ?_ | (refine Yq ?_ ?_ <;> intro hc <;> try first | contradiction | omega) | (refine rd_bar hnt rfl rfl (wo_call rfl rfl (SameSig_ev (fun id q => by by_cases z : id < h8.n; exact seen_old (by repeat (first | exact rs_nil | refine rs_add (by omega) ?_)) (by omega) z (hall id q); exact seen_here (by omega) (by unfold big; omega)) (Cx.mem (by omega)) (by omega) (hpd.grew (gC.trans hG8)) (S.grew (gC.trans hG8)) fun b h7 g7 n7 => ⟨(by repeat (first | exact unchF_nil | refine unchF_cons (by decide) ?_)), ?_⟩)); cases b) | refine Yx ?_ | refine Yv ?_ | refine zx ?_ | refine Yz ?_ | refine Yy ?_)
   all_goals first
    | exact ⟨Or.inr rfl, _, rfl, k _ _ ((gC.trans hG8).trans g7) (by omega)⟩
    | exact ⟨k' + 1, by simp; omega, (Sc (Sc (Sc (Sc (Sc (Sc Sn)))))), hG8.trans g7, by omega, hkl⟩
  ·repeat' (first | refine Yu ?_ | refine Yp ?_ | refine z6 ?_ | refine z7 ?_ | refine zV ?_ | refine z8 ?_ | refine zU ?_ | refine z9 ?_ | refine za ?_ | refine zh ?_ | refine zi ?_ | refine zj ?_ | refine zl ?_ | (refine Yq ?_ ?_ <;> intro hc <;> try first | contradiction | omega) | refine Yx ?_ | refine Yv ?_ | refine zx ?_ | refine Yz ?_ | refine Yy ?_)
   exact ⟨j + 1, by simp; omega, (Sc (Sc (Sc (Sc Sn)))), ((hG.trans g5).trans g6).trans hG8, by omega, hlt⟩
 ·repeat' (first | refine Yu ?_ | refine Yp ?_ | refine z6 ?_ | refine z7 ?_ | refine zV ?_ | refine z8 ?_ | refine zU ?_ | refine z9 ?_ | refine za ?_ | refine zh ?_ | refine zi ?_ | refine zj ?_ | refine zl ?_ | (refine Yq ?_ ?_ <;> intro hc <;> try first | contradiction | omega) | refine Yx ?_ | refine Yv ?_ | refine zx ?_ | refine Yz ?_ | refine Yy ?_)
  exact ⟨Or.inr rfl, _, rfl, k _ _ gB (by omega)⟩
theorem types10_ev {cl : List Dt} {cv : AV} {nm rs : List Nat} {st : Bool} {pd : List Dt} {pv : AV} (hall : ∀ id, id < 10000000 → seen c.vis id = true) (hcx : Cx c h) (hn : h.n + 50 < 10000000) (C : Sl 70 true h ShClass cl cv) (P : Sl 70 true h .str pd pv) (hp : pd.length ≤ 20) (k : ∀ e h', Grew h h' → h'.n ≤ h.n + 50 → K (.int .i64 e) h') : Gv Tryz.prog X0 Mx c 374 [.agg [cv], .agg [.str nm, .bool st, pv, .str rs]] h K := by
 have hnt : (31 : Nat) ≤ 1000000 := by decide
 refine gv_fn x_types10 (Mx_no rfl _ _ _) (by simp) hnt ?_
 unfold s_types10 SR.c SR.g SR.l SR.o SR.p
 obtain ⟨i1, w1, A1, e1, y1, p1⟩ := at_str P
 have hs1 := hall h.n (by omega)
 have hlow := hcx.low
 refine Yc (Yd (rg_go hnt rfl rfl (wo_boxA rfl rfl (by omega) fun h1 n1 b1 g1 => ?_)))
 have hsb := hall h1.n (by omega)
 repeat' (first | refine Yu ?_ | refine Yp ?_ | refine z6 ?_ | refine z8 ?_ | refine za ?_ | refine zh ?_ | refine zi ?_ | refine zk ?_ | (refine Yq ?_ ?_ <;> intro hc <;> try first | contradiction | omega) | (refine wo_boxA rfl rfl (by omega) fun hb nb bb gb => ?_) | refine Yx ?_ | refine Yv ?_ | refine zx ?_ | refine Yz ?_ | refine Yy ?_)
 have b1b := (gb.get h.n (by omega)).trans b1
 repeat' (first | refine Yu ?_ | refine Yp ?_ | refine z6 ?_ | refine z8 ?_ | refine za ?_ | refine zh ?_ | refine zi ?_ | refine zk ?_ | (refine Yq ?_ ?_ <;> intro hc <;> try first | contradiction | omega) | refine Yx ?_ | refine Yv ?_ | refine zx ?_ | refine Yz ?_ | refine Yy ?_)
 refine wc_loopE (ι := Nat) (fun j => [(2, .ptr h.n 0), (3, .ptr h1.n 0), (5, .int .i64 (j : Int))]) (fun j h' => Grew hb h' ∧ h'.n ≤ hb.n + 2 * j ∧ j ≤ pd.length) (fun j => pd.length - j) ?_ 0 ⟨Grew.refl _, by omega, Nat.zero_le _⟩ (Sc (Sc (Sc Sn)))
 rintro j h4 ⟨hG, hN, hj⟩
 have hGl := hG.le
 have gB := (g1.trans gb).trans hG
 have B4 := (hG.get h.n (by omega)).trans b1b
 have D4 := (hG.get h1.n (by omega)).trans bb
 have A4 := A1.grew gB
 by_cases hlt : j < pd.length
 ·have q1 := p1 j hlt
  have hi1 := y1 (by omega)
  have hs3 := hall i1 (by omega)
  repeat' (first | refine Yu ?_ | refine Yp ?_ | refine z6 ?_ | refine z8 ?_ | refine za ?_ | refine zh ?_ | refine zi ?_ | refine zk ?_ | (refine Yq ?_ ?_ <;> intro hc <;> try first | contradiction | omega) | (refine rd_bar hnt rfl rfl (wo_call rfl rfl (Type10_ev (fun id q => by by_cases z : id < h4.n; exact seen_old (by repeat (first | exact rs_nil | refine rs_add (by omega) ?_)) (by omega) z (hall id q); exact seen_here (by omega) (by unfold big; omega)) (Cx.mem (by omega)) (by omega) (C.grew gB) fun b h5 g5 n5 => ⟨(by repeat (first | exact unchF_nil | refine unchF_cons (by decide) ?_ | refine unchF_same (by assumption) ((g5.get _ (by omega)).trans (by assumption)) ?_)), ?_⟩)); cases b) | refine Yx ?_ | refine Yv ?_ | refine zx ?_ | refine Yz ?_ | refine Yy ?_)
  ·exact ⟨Or.inr rfl, _, rfl, k _ _ (gB.trans g5) (by omega)⟩
  ·exact ⟨j + 1, by simp; omega, (Sc (Sc (Sc Sn))), hG.trans g5, by omega, hlt⟩
 ·repeat' (first | refine Yu ?_ | refine Yp ?_ | refine z6 ?_ | refine z8 ?_ | refine za ?_ | refine zh ?_ | refine zi ?_ | refine zk ?_ | (refine Yq ?_ ?_ <;> intro hc <;> try first | contradiction | omega) | (refine wo_call rfl rfl (Type10_ev hall (hcx.mono (by omega)) (by omega) (C.grew gB) fun b h5 g5 n5 => ?_); cases b) | refine Yx ?_ | refine Yv ?_ | refine zx ?_ | refine Yz ?_ | refine Yy ?_)
  all_goals first
   | exact ⟨Or.inr rfl, _, rfl, k _ _ gB (by omega)⟩
   | exact ⟨Or.inr rfl, _, rfl, k _ _ (gB.trans g5) (by omega)⟩
def FldOk (cl : List Dt) (i : Nat) : Prop := ∀ j, j < (dL 2 (el cl i)).length → (∀ k, k < j → dS 0 (el (dL 2 (el cl i)) k) ≠ dS 0 (el (dL 2 (el cl i)) j)) ∧ (dS 1 (el cl i) ≠ [] → ¬ hasFld cl (dS 1 (el cl i)) (dS 0 (el (dL 2 (el cl i)) j)))
theorem fields10_ev {cl : List Dt} {cv : AV} {i : Nat} (hall : ∀ id, id < 10000000 → seen c.vis id = true) (hcx : Cx c h) (hn : h.n + 1800 < 10000000) (h12 : cl.length ≤ 12) (hF : (dL 2 (el cl i)).length ≤ 20) (hi : i < cl.length) (C : Sl 70 true h ShClass cl cv) (k : ∀ e h', Grew h h' → h'.n ≤ h.n + 1800 → (e = 0 → FldOk cl i) → K (.int .i64 e) h') : Gv Tryz.prog X0 Mx c 265 [.agg [cv], .int .i64 (i : Int)] h K := by
 have hnt : (81 : Nat) ≤ 1000000 := by decide
 refine gv_fn x_fields10 (Mx_no rfl _ _ _) (by simp) hnt ?_
 unfold s_fields10 SR.c SR.g SR.l SR.m SR.o SR.p
 obtain ⟨id, rows, A, hr, hid, hrow⟩ := at_Class C
 have hidh := hid (by omega)
 have hs1 := hall h.n (by omega)
 have hsi := hall id (by omega)
 have hlow := hcx.low
 obtain ⟨fv, mv, hw, F, _, _⟩ := hrow i hi
 obtain ⟨fid, frows, FA0, hfr, hfid, hfrow⟩ := at_Field F
 refine Yc (Yd (rg_go hnt rfl rfl (wo_boxA rfl rfl (by omega) fun h1 n1 b1 g1 => ?_)))
 have A1 := A.grew g1
 unfold FldOk at k
 generalize dL 2 (el cl i) = fl at hfr hfid hfrow FA0 F hF k
 generalize hsup : dS 1 (el cl i) = sp at hw k
 repeat' (first | refine Yu ?_ | refine Yp ?_ | refine z6 ?_ | refine z8 ?_ | refine za ?_ | refine zh ?_ | refine zi ?_ | refine zj ?_ | (refine Yq ?_ ?_ <;> intro hc <;> try first | contradiction | omega) | refine Yx ?_ | refine Yv ?_ | refine zx ?_ | refine Yz ?_ | refine Yy ?_)
 refine wc_loopE (ι := Nat) (fun j => [(1, .int .i64 (i : Int)), (2, .ptr h.n 0), (5, fv), (6, .int .i64 (j : Int))]) (fun j h' => Grew h1 h' ∧ h'.n ≤ h1.n + 83 * j ∧ j ≤ fl.length ∧ ∀ j', j' < j → (∀ k, k < j' → dS 0 (el fl k) ≠ dS 0 (el fl j')) ∧ (sp ≠ [] → ¬ hasFld cl sp (dS 0 (el fl j')))) (fun j => fl.length - j) ?_ 0 ⟨Grew.refl _, by omega, Nat.zero_le _, fun j' hj' => absurd hj' (by omega)⟩ (Sc (Sc (Sc (Sc Sn))))
 rintro j h4 ⟨hG, hN, hj, hgood⟩
 have hGl := hG.le
 have B4 := (hG.get h.n (by omega)).trans b1
 have FA4 := FA0.grew (g1.trans hG)
 by_cases hlt : j < fl.length
 ·have hfi := hfid (by omega)
  have hsf := hall fid (by omega)
  obtain ⟨hwk, _⟩ := hfrow j hlt
  repeat' (first | refine Yu ?_ | refine Yp ?_ | refine z6 ?_ | refine z8 ?_ | refine za ?_ | refine zh ?_ | refine zi ?_ | refine zj ?_ | (refine Yq ?_ ?_ <;> intro hc <;> try first | contradiction | omega) | refine Yx ?_ | refine Yv ?_ | refine zx ?_ | refine Yz ?_ | refine Yy ?_)
  refine wo_call rfl rfl (Ident_ev (hcx.mono (by omega)) (by omega) fun b h5 g5 n5 => ?_)
  have g5l := g5.le
  have B5 := (g5.get h.n (by omega)).trans B4
  have gB5 := (g1.trans hG).trans g5
  have FA5 := FA0.grew gB5
  cases b
  case false =>
   repeat' (first | refine Yu ?_ | refine Yp ?_ | refine z6 ?_ | refine z8 ?_ | refine za ?_ | refine zh ?_ | refine zi ?_ | refine zj ?_ | (refine Yq ?_ ?_ <;> intro hc <;> try first | contradiction | omega) | refine Yx ?_ | refine Yv ?_ | refine zx ?_ | refine Yz ?_ | refine Yy ?_)
   exact ⟨Or.inr rfl, _, rfl, k _ _ gB5 (by omega) (fun e => absurd e (by decide))⟩
  repeat' (first | refine Yu ?_ | refine Yp ?_ | refine z6 ?_ | refine z8 ?_ | refine za ?_ | refine zh ?_ | refine zi ?_ | refine zj ?_ | (refine Yq ?_ ?_ <;> intro hc <;> try first | contradiction | omega) | refine Yx ?_ | refine Yv ?_ | refine zx ?_ | refine Yz ?_ | refine Yy ?_)
  refine rd_bar hnt rfl rfl (wo_call rfl rfl (Type10_ev (fun id q => by by_cases z : id < h5.n; exact seen_old (by repeat (first | exact rs_nil | refine rs_add (by omega) ?_)) (by omega) z (hall id q); exact seen_here (by omega) (by unfold big; omega)) (Cx.mem (by omega)) (by omega) (C.grew gB5) fun b h6 g6 n6 => ⟨(by repeat (first | exact unchF_nil | refine unchF_cons (by decide) ?_ | refine unchF_same (by assumption) ((g6.get _ (by omega)).trans (by assumption)) ?_)), ?_⟩))
  have g6l := g6.le
  have B6 := (g6.get h.n (by omega)).trans B5
  have gC := gB5.trans g6
  have FA6 := FA0.grew gC
  have A6 := A.grew gC
  cases b
  case false =>
   repeat' (first | refine Yu ?_ | refine Yp ?_ | refine z6 ?_ | refine z8 ?_ | refine za ?_ | refine zh ?_ | refine zi ?_ | refine zj ?_ | (refine Yq ?_ ?_ <;> intro hc <;> try first | contradiction | omega) | refine Yx ?_ | refine Yv ?_ | refine zx ?_ | refine Yz ?_ | refine Yy ?_)
   exact ⟨Or.inr rfl, _, rfl, k _ _ gC (by omega) (fun e => absurd e (by decide))⟩
  clear FA4 FA5 B4 B5
  repeat' (first | refine Yu ?_ | refine Yp ?_ | refine z6 ?_ | refine z8 ?_ | refine za ?_ | refine zh ?_ | refine zi ?_ | refine zj ?_ | (refine Yq ?_ ?_ <;> intro hc <;> try first | contradiction | omega) | refine Yx ?_ | refine Yv ?_ | refine zx ?_ | refine Yz ?_ | refine Yy ?_)
  refine wc_loopE (ι := Nat) (fun k => [(1, .int .i64 (i : Int)), (2, .ptr h.n 0), (5, fv), (6, .int .i64 (j : Int)), (7, .int .i64 (k : Int))]) (fun k h' => h' = h6 ∧ k ≤ j ∧ ∀ k', k' < k → dS 0 (el fl k') ≠ dS 0 (el fl j)) (fun k => j - k) ?_ 0 ⟨rfl, Nat.zero_le _, fun i hi => absurd hi (by omega)⟩ (Sc (Sc (Sc (Sc (Sc Sn)))))
  rintro k' h' ⟨hh, hk, hdk⟩
  have hh2 := hh.symm
  subst hh2
  by_cases hkl : k' < j
  ·obtain ⟨hwk2, _⟩ := hfrow k' (by omega)
   repeat' (first | refine Yu ?_ | refine Yp ?_ | refine z6 ?_ | refine z8 ?_ | refine za ?_ | refine zh ?_ | refine zi ?_ | refine zj ?_ | (refine Yq ?_ ?_ <;> intro hc <;> try first | contradiction | omega) | refine Yx ?_ | refine Yv ?_ | refine zx ?_ | refine Yz ?_ | refine Yy ?_)
   ·exact ⟨Or.inr rfl, _, rfl, k _ _ gC (by omega) (fun e => absurd e (by decide))⟩
   ·refine ⟨k' + 1, by simp; omega, (Sc (Sc (Sc (Sc (Sc Sn))))), rfl, hkl, fun i hi => ?_⟩
    by_cases q : i = k'
    ·subst q; assumption
    ·exact hdk i (by omega)
  ·repeat' (first | refine Yu ?_ | refine Yp ?_ | refine z6 ?_ | refine z8 ?_ | refine za ?_ | refine zh ?_ | refine zi ?_ | refine zj ?_ | (refine Yq ?_ ?_ <;> intro hc <;> try first | contradiction | omega) | refine Yx ?_ | refine Yv ?_ | refine zx ?_ | refine Yz ?_ | refine Yy ?_)
   refine rd_bar hnt rfl rfl (wo_call rfl rfl (Field10_ev (fun id q => by by_cases z : id < h6.n; exact seen_old (by repeat (first | exact rs_nil | refine rs_add (by omega) ?_)) (by omega) z (hall id q); exact seen_here (by omega) (by unfold big; omega)) (Cx.mem (by omega)) (by omega) h12 (C.grew gC) (fun hf a b h7 g7 n7 => ⟨(by repeat (first | exact unchF_nil | refine unchF_cons (by decide) ?_ | refine unchF_same (by assumption) ((g7.get _ (by omega)).trans (by assumption)) ?_)), ?_⟩) (fun hf a b h7 g7 n7 => ⟨(by repeat (first | exact unchF_nil | refine unchF_cons (by decide) ?_ | refine unchF_same (by assumption) ((g7.get _ (by omega)).trans (by assumption)) ?_)), ?_⟩)))
   ·have g7l := g7.le
    have B7 := (g7.get h.n (by omega)).trans B6
    have A7 := A6.grew g7
    repeat' (first | refine Yu ?_ | refine Yp ?_ | refine z6 ?_ | refine z8 ?_ | refine za ?_ | refine zh ?_ | refine zi ?_ | refine zj ?_ | (refine Yq ?_ ?_ <;> intro hc <;> try first | contradiction | omega) | refine Yx ?_ | refine Yv ?_ | refine zx ?_ | refine Yz ?_ | refine Yy ?_)
    ·refine ⟨j + 1, by simp; omega, (Sc (Sc (Sc (Sc Sn)))), ((hG.trans g5).trans g6).trans g7, by omega, hlt, fun j' hj' => ?_⟩
     by_cases q : j' = j
     ·subst q; exact ⟨fun k2 hk2 => hdk k2 (by omega), fun z => absurd (by assumption) z⟩
     ·exact hgood j' (by omega)
    ·exact ⟨Or.inr rfl, _, rfl, k _ _ (gC.trans g7) (by omega) (fun e => absurd e (by decide))⟩
   ·have g7l := g7.le
    have B7 := (g7.get h.n (by omega)).trans B6
    have A7 := A6.grew g7
    repeat' (first | refine Yu ?_ | refine Yp ?_ | refine z6 ?_ | refine z8 ?_ | refine za ?_ | refine zh ?_ | refine zi ?_ | refine zj ?_ | (refine Yq ?_ ?_ <;> intro hc <;> try first | contradiction | omega) | refine Yx ?_ | refine Yv ?_ | refine zx ?_ | refine Yz ?_ | refine Yy ?_)
    refine ⟨j + 1, by simp; omega, (Sc (Sc (Sc (Sc Sn)))), ((hG.trans g5).trans g6).trans g7, by omega, hlt, fun j' hj' => ?_⟩
    by_cases q : j' = j
    ·subst q; exact ⟨fun k2 hk2 => hdk k2 (by omega), fun _ => hf⟩
    ·exact hgood j' (by omega)
 ·repeat' (first | refine Yu ?_ | refine Yp ?_ | refine z6 ?_ | refine z8 ?_ | refine za ?_ | refine zh ?_ | refine zi ?_ | refine zj ?_ | (refine Yq ?_ ?_ <;> intro hc <;> try first | contradiction | omega) | refine Yx ?_ | refine Yv ?_ | refine zx ?_ | refine Yz ?_ | refine Yy ?_)
  exact ⟨Or.inr rfl, _, rfl, k _ _ (g1.trans hG) (by omega) (fun _ j' hj' => hgood j' (by omega))⟩
end Go.Proofs.YtmdceifbbmnfgaaGreatDoor.Ev
set_option maxRecDepth 8000
namespace Go.Proofs.YtmdceifbbmnfgaaGreatDoor.Ev
open Go
open Classical
variable {c : C} {h : H} {K : AV → H → Prop}
theorem methods10_ev {cl : List Dt} {cv : AV} {i : Nat} (hall : ∀ id, id < 10000000 → seen c.vis id = true) (hcx : Cx c h) (hn : h.n + 15100 < 10000000) (h12 : cl.length ≤ 12) (hM : ∀ i, i < cl.length → (dL 3 (el cl i)).length ≤ 20) (hi : i < cl.length) (C : Sl 70 true h ShClass cl cv) (k : ∀ e h', Grew h h' → h'.n ≤ h.n + 15100 → K (.int .i64 e) h') : Gv Tryz.prog X0 Mx c 266 [.agg [cv], .int .i64 (i : Int)] h K := by
 have hnt : (72 : Nat) ≤ 1000000 := by decide
 refine gv_fn x_methods10 (Mx_no rfl _ _ _) (by simp) hnt ?_
 unfold s_methods10 SR.c SR.l SR.m SR.o SR.p
 obtain ⟨id, rows, A, hr, hid, hrow⟩ := at_Class C
 have hidh := hid (by omega)
 have hs1 := hall h.n (by omega)
 have hsi := hall id (by omega)
 have hlow := hcx.low
 have hM1 := hM i hi
 obtain ⟨fv, mv, hw, _, F, _⟩ := hrow i hi
 obtain ⟨fid, frows, FA0, hfr, hfid, hfrow⟩ := at_Sig F
 refine Yc (Yd (rg_go hnt rfl rfl (wo_boxA rfl rfl (by omega) fun h1 n1 b1 g1 => ?_)))
 have A1 := A.grew g1
 generalize dL 3 (el cl i) = fl at hfr hfid hfrow FA0 F hM1
 repeat' (first | refine Yu ?_ | refine Yp ?_ | refine z6 ?_ | refine z8 ?_ | refine za ?_ | refine zh ?_ | refine zi ?_ | refine zj ?_ | refine zl ?_ | (refine Yq ?_ ?_ <;> intro hc <;> try first | contradiction | omega) | refine Yx ?_ | refine Yv ?_ | refine zx ?_ | refine Yz ?_ | refine Yy ?_)
 refine wc_loopE (ι := Nat) (fun j => [(1, .int .i64 (i : Int)), (2, .ptr h.n 0), (5, mv), (6, .int .i64 (j : Int))]) (fun j h' => Grew h1 h' ∧ h'.n ≤ h1.n + 752 * j ∧ j ≤ fl.length) (fun j => fl.length - j) ?_ 0 ⟨Grew.refl _, by omega, Nat.zero_le _⟩ (Sc (Sc (Sc (Sc Sn))))
 rintro j h4 ⟨hG, hN, hj⟩
 have hGl := hG.le
 have B4 := (hG.get h.n (by omega)).trans b1
 have FA4 := FA0.grew (g1.trans hG)
 by_cases hlt : j < fl.length
 ·have hfi := hfid (by omega)
  have hsf := hall fid (by omega)
  obtain ⟨pv, hwk, hpd, om⟩ := hfrow j hlt
  obtain ⟨pid, prows, PA, hpr, _, _⟩ := at_str hpd
  repeat' (first | refine Yu ?_ | refine Yp ?_ | refine z6 ?_ | refine z8 ?_ | refine za ?_ | refine zh ?_ | refine zi ?_ | refine zj ?_ | refine zl ?_ | (refine Yq ?_ ?_ <;> intro hc <;> try first | contradiction | omega) | refine Yx ?_ | refine Yv ?_ | refine zx ?_ | refine Yz ?_ | refine Yy ?_)
  refine wo_call rfl rfl (Ident_ev (hcx.mono (by omega)) (by omega) fun b h5 g5 n5 => ?_)
  have g5l := g5.le
  have B5 := (g5.get h.n (by omega)).trans B4
  have gB5 := (g1.trans hG).trans g5
  have FA5 := FA0.grew gB5
  clear FA4 B4
  cases b
  case false =>
   repeat' (first | refine Yu ?_ | refine Yp ?_ | refine z6 ?_ | refine z8 ?_ | refine za ?_ | refine zh ?_ | refine zi ?_ | refine zj ?_ | refine zl ?_ | (refine Yq ?_ ?_ <;> intro hc <;> try first | contradiction | omega) | refine Yx ?_ | refine Yv ?_ | refine zx ?_ | refine Yz ?_ | refine Yy ?_)
   exact ⟨Or.inr rfl, _, rfl, k _ _ gB5 (by omega)⟩
  repeat' (first | refine Yu ?_ | refine Yp ?_ | refine z6 ?_ | refine z8 ?_ | refine za ?_ | refine zh ?_ | refine zi ?_ | refine zj ?_ | refine zl ?_ | (refine Yq ?_ ?_ <;> intro hc <;> try first | contradiction | omega) | refine Yx ?_ | refine Yv ?_ | refine zx ?_ | refine Yz ?_ | refine Yy ?_)
  refine wc_loopE (ι := Nat) (fun k => [(1, .int .i64 (i : Int)), (2, .ptr h.n 0), (5, mv), (6, .int .i64 (j : Int)), (7, .int .i64 (k : Int))]) (fun k h' => h' = h5 ∧ k ≤ j) (fun k => j - k) ?_ 0 ⟨rfl, Nat.zero_le _⟩ (Sc (Sc (Sc (Sc (Sc Sn)))))
  rintro k' h' ⟨hh, hk⟩
  have hh2 := hh.symm
  subst hh2
  by_cases hkl : k' < j
  ·obtain ⟨pv2, hwk2, _, _⟩ := hfrow k' (by omega)
   repeat' (first | refine Yu ?_ | refine Yp ?_ | refine z6 ?_ | refine z8 ?_ | refine za ?_ | refine zh ?_ | refine zi ?_ | refine zj ?_ | refine zl ?_ | (refine Yq ?_ ?_ <;> intro hc <;> try first | contradiction | omega) | refine Yx ?_ | refine Yv ?_ | refine zx ?_ | refine Yz ?_ | refine Yy ?_)
   ·exact ⟨Or.inr rfl, _, rfl, k _ _ gB5 (by omega)⟩
   ·exact ⟨k' + 1, by simp; omega, (Sc (Sc (Sc (Sc (Sc Sn))))), rfl, hkl⟩
  ·repeat' (first | refine Yu ?_ | refine Yp ?_ | refine z6 ?_ | refine z8 ?_ | refine za ?_ | refine zh ?_ | refine zi ?_ | refine zj ?_ | refine zl ?_ | (refine Yq ?_ ?_ <;> intro hc <;> try first | contradiction | omega) | refine Yx ?_ | refine Yv ?_ | refine zx ?_ | refine Yz ?_ | refine Yy ?_)
   ·exact ⟨Or.inr rfl, _, rfl, k _ _ gB5 (by omega)⟩
   refine rd_bar hnt rfl rfl (wo_call rfl rfl (types10_ev (fun id q => by by_cases z : id < h5.n; exact seen_old (by repeat (first | exact rs_nil | refine rs_add (by omega) ?_)) (by omega) z (hall id q); exact seen_here (by omega) (by unfold big; omega)) (Cx.mem (by omega)) (by omega) (C.grew gB5) (hpd.grew gB5) (by omega) fun e h6 g6 n6 => ⟨(by repeat (first | exact unchF_nil | refine unchF_cons (by decide) ?_ | refine unchF_same (by assumption) ((g6.get _ (by omega)).trans (by assumption)) ?_)), ?_⟩))
   have g6l := g6.le
   have B6 := (g6.get h.n (by omega)).trans B5
   have gC := gB5.trans g6
   have FA6 := FA0.grew gC
   have A6 := A.grew gC
   clear FA5 B5
   repeat' (first | refine Yu ?_ | refine Yp ?_ | refine z6 ?_ | refine z8 ?_ | refine za ?_ | refine zh ?_ | refine zi ?_ | refine zj ?_ | refine zl ?_ | (refine Yq ?_ ?_ <;> intro hc <;> try first | contradiction | omega) | refine Yx ?_ | refine Yv ?_ | refine zx ?_ | refine Yz ?_ | refine Yy ?_)
   rotate_left
   ·exact ⟨Or.inr rfl, _, rfl, k _ _ gC (by omega)⟩
   refine rd_bar hnt rfl rfl (wo_call rfl rfl (overrides_ev (fun id q => by by_cases z : id < h6.n; exact seen_old (by repeat (first | exact rs_nil | refine rs_add (by omega) ?_)) (by omega) z (hall id q); exact seen_here (by omega) (by unfold big; omega)) (Cx.mem (by omega)) (by omega) h12 hM (C.grew gC) (hpd.grew gC) fun b h7 g7 n7 => ⟨(by repeat (first | exact unchF_nil | refine unchF_cons (by decide) ?_ | refine unchF_same (by assumption) ((g7.get _ (by omega)).trans (by assumption)) ?_)), ?_⟩))
   have gD := gC.trans g7
   cases b
   ·repeat' (first | refine Yu ?_ | refine Yp ?_ | refine z6 ?_ | refine z8 ?_ | refine za ?_ | refine zh ?_ | refine zi ?_ | refine zj ?_ | refine zl ?_ | (refine Yq ?_ ?_ <;> intro hc <;> try first | contradiction | omega) | refine Yx ?_ | refine Yv ?_ | refine zx ?_ | refine Yz ?_ | refine Yy ?_)
    exact ⟨j + 1, by simp; omega, (Sc (Sc (Sc (Sc Sn)))), ((hG.trans g5).trans g6).trans g7, by omega, hlt⟩
   ·repeat' (first | refine Yu ?_ | refine Yp ?_ | refine z6 ?_ | refine z8 ?_ | refine za ?_ | refine zh ?_ | refine zi ?_ | refine zj ?_ | refine zl ?_ | (refine Yq ?_ ?_ <;> intro hc <;> try first | contradiction | omega) | refine Yx ?_ | refine Yv ?_ | refine zx ?_ | refine Yz ?_ | refine Yy ?_)
    exact ⟨Or.inr rfl, _, rfl, k _ _ gD (by omega)⟩
 ·repeat' (first | refine Yu ?_ | refine Yp ?_ | refine z6 ?_ | refine z8 ?_ | refine za ?_ | refine zh ?_ | refine zi ?_ | refine zj ?_ | refine zl ?_ | (refine Yq ?_ ?_ <;> intro hc <;> try first | contradiction | omega) | refine Yx ?_ | refine Yv ?_ | refine zx ?_ | refine Yz ?_ | refine Yy ?_)
  exact ⟨Or.inr rfl, _, rfl, k _ _ (g1.trans hG) (by omega)⟩
def ClsR (cl : List Dt) (i : Nat) : Prop := findI (nms cl) (dS 0 (el cl i)) = (i : Int) ∧ (dS 1 (el cl i) ≠ [] → 0 ≤ findI (nms cl) (dS 1 (el cl i))) ∧ (chainR cl (dS 0 (el cl i))).2 = false ∧ FldOk cl i
theorem class10_ev {cl : List Dt} {cv : AV} {i : Nat} (hall : ∀ id, id < 10000000 → seen c.vis id = true) (hcx : Cx c h) (hn : h.n + 17000 < 10000000) (h12 : cl.length ≤ 12) (hF : ∀ i, i < cl.length → (dL 2 (el cl i)).length ≤ 20) (hM : ∀ i, i < cl.length → (dL 3 (el cl i)).length ≤ 20) (hi : i < cl.length) (C : Sl 70 true h ShClass cl cv) (k : ∀ e h', Grew h h' → h'.n ≤ h.n + 17000 → (e = 0 → ClsR cl i) → K (.int .i64 e) h') : Gv Tryz.prog X0 Mx c 153 [.agg [cv], .int .i64 (i : Int)] h K := by
 have hnt : (61 : Nat) ≤ 1000000 := by decide
 refine gv_fn x_class10 (Mx_no rfl _ _ _) (by simp) hnt ?_
 unfold s_class10 SR.g SR.m SR.o SR.s
 obtain ⟨id, rows, A, hr, hid, hrow⟩ := at_Class C
 have hidh := hid (by omega)
 have hs1 := hall h.n (by omega)
 have hsi := hall id (by omega)
 have hlow := hcx.low
 obtain ⟨fv, mv, hw, F, M, oc⟩ := hrow i hi
 obtain ⟨fid, frows, FA0, hfr, hfid, hfrow⟩ := at_Field F
 obtain ⟨mid, mrows, MA0, hmr, hmid, hmrow⟩ := at_Sig M
 refine Yc (Yd (rg_go hnt rfl rfl (wo_boxA rfl rfl (by omega) fun h1 n1 b1 g1 => ?_)))
 have A1 := A.grew g1
 have hs2 := hall h1.n (by omega)
 repeat' (first | refine Yu ?_ | refine Yp ?_ | refine z6 ?_ | refine z8 ?_ | refine zh ?_ | refine zi ?_ | refine zl ?_ | (refine Yq ?_ ?_ <;> intro hc <;> try first | contradiction | omega) | refine Yx ?_ | refine Yy ?_)
 refine rg_bs hnt (hcx.mono (by omega)) (by omega) rfl rfl rfl rfl (by rfl) (by exact oc) fun h2 n2 b2 g2 => ?_
 have L2 := g2.le
 have G := g1.trans g2
 have Bx := (g2.get h.n (by omega)).trans b1
 have Bc := b2
 repeat' (first | refine Yu ?_ | refine Yp ?_ | refine z6 ?_ | refine z8 ?_ | refine zh ?_ | refine zi ?_ | refine zl ?_ | (refine Yq ?_ ?_ <;> intro hc <;> try first | contradiction | omega) | refine Yx ?_ | refine Yy ?_)
 refine wo_call rfl rfl (Ident_ev (hcx.mono (by omega)) (by omega) fun b h3 g3 n3 => ?_)
 have L3 := g3.le
 have G := G.trans g3
 have Bx := (g3.get h.n (by omega)).trans Bx
 have Bc := (g3.get h1.n (by omega)).trans Bc
 cases b
 case false =>
  repeat' (first | refine Yu ?_ | refine Yp ?_ | refine z6 ?_ | refine z8 ?_ | refine zh ?_ | refine zi ?_ | refine zl ?_ | (refine Yq ?_ ?_ <;> intro hc <;> try first | contradiction | omega) | refine Yx ?_ | refine Yy ?_)
  exact ⟨Or.inr rfl, _, rfl, k _ _ G (by omega) (fun e => absurd e (by decide))⟩
 repeat' (first | refine Yu ?_ | refine Yp ?_ | refine z6 ?_ | refine z8 ?_ | refine zh ?_ | refine zi ?_ | refine zl ?_ | (refine Yq ?_ ?_ <;> intro hc <;> try first | contradiction | omega) | refine Yx ?_ | refine Yy ?_)
 refine wo_call rfl rfl (rFind_ev hall (hcx.mono (by omega)) (by omega) (C.grew G) fun h4 g4 n4 => ?_)
 have L4 := g4.le
 have G := G.trans g4
 have Bx := (g4.get h.n (by omega)).trans Bx
 have Bc := (g4.get h1.n (by omega)).trans Bc
 repeat' (first | refine Yu ?_ | refine Yp ?_ | refine z6 ?_ | refine z8 ?_ | refine zh ?_ | refine zi ?_ | refine zl ?_ | (refine Yq ?_ ?_ <;> intro hc <;> try first | contradiction | omega) | refine Yx ?_ | refine Yy ?_)
 all_goals try exact ⟨Or.inr rfl, _, rfl, k _ _ G (by omega) (fun e => absurd e (by decide))⟩
 ·refine wo_call rfl rfl (rchain_ev hall (hcx.mono (by omega)) (by omega) h12 (C.grew G) fun h6 v6 id6 g6 n6 S6 => ?_)
  have L6 := g6.le
  have G := G.trans g6
  have Bx := (g6.get h.n (by omega)).trans Bx
  have Bc := (g6.get h1.n (by omega)).trans Bc
  cases hcy : (chainR cl (dS 0 (el cl i))).2
  case true =>
   repeat' (first | refine Yu ?_ | refine Yp ?_ | refine z6 ?_ | refine z8 ?_ | refine zh ?_ | refine zi ?_ | refine zl ?_ | (refine Yq ?_ ?_ <;> intro hc <;> try first | contradiction | omega) | refine Yx ?_ | refine Yy ?_)
   exact ⟨Or.inr rfl, _, rfl, k _ _ G (by omega) (fun e => absurd e (by decide))⟩
  repeat' (first | refine Yu ?_ | refine Yp ?_ | refine z6 ?_ | refine z8 ?_ | refine zh ?_ | refine zi ?_ | refine zl ?_ | (refine Yq ?_ ?_ <;> intro hc <;> try first | contradiction | omega) | refine Yx ?_ | refine Yy ?_)
  all_goals try exact ⟨Or.inr rfl, _, rfl, k _ _ G (by omega) (fun e => absurd e (by decide))⟩
  refine wo_call rfl rfl (fields10_ev hall (hcx.mono (by omega)) (by omega) h12 (hF i hi) hi (C.grew G) fun e h7 g7 n7 hok => ?_)
  have L7 := g7.le
  have G := G.trans g7
  have Bx := (g7.get h.n (by omega)).trans Bx
  have Bc := (g7.get h1.n (by omega)).trans Bc
  repeat' (first | refine Yu ?_ | refine Yp ?_ | refine z6 ?_ | refine z8 ?_ | refine zh ?_ | refine zi ?_ | refine zl ?_ | (refine Yq ?_ ?_ <;> intro hc <;> try first | contradiction | omega) | refine Yx ?_ | refine Yy ?_)
  rotate_left
  ·rename_i hne _
   exact ⟨Or.inr rfl, _, rfl, k _ _ G (by omega) (fun e => absurd e (by assumption))⟩
  have hok2 : FldOk cl i := hok (by assumption)
  refine wo_call rfl rfl (methods10_ev hall (hcx.mono (by omega)) (by omega) h12 hM hi (C.grew G) fun e h8 g8 n8 => ?_)
  have L8 := g8.le
  have G := G.trans g8
  have Bx := (g8.get h.n (by omega)).trans Bx
  have Bc := (g8.get h1.n (by omega)).trans Bc
  repeat' (first | refine Yu ?_ | refine Yp ?_ | refine z6 ?_ | refine z8 ?_ | refine zh ?_ | refine zi ?_ | refine zl ?_ | (refine Yq ?_ ?_ <;> intro hc <;> try first | contradiction | omega) | refine Yx ?_ | refine Yy ?_)
  exact ⟨Or.inr rfl, _, rfl, k _ _ G (by omega) (fun _ => ⟨by assumption, fun z => absurd (by assumption) z, hcy, hok2⟩)⟩
 ·refine wo_call rfl rfl (rFind_ev hall (hcx.mono (by omega)) (by omega) (C.grew G) fun h5 g5 n5 => ?_)
  have L5 := g5.le
  have G := G.trans g5
  have Bx := (g5.get h.n (by omega)).trans Bx
  have Bc := (g5.get h1.n (by omega)).trans Bc
  repeat' (first | refine Yu ?_ | refine Yp ?_ | refine z6 ?_ | refine z8 ?_ | refine zh ?_ | refine zi ?_ | refine zl ?_ | (refine Yq ?_ ?_ <;> intro hc <;> try first | contradiction | omega) | refine Yx ?_ | refine Yy ?_)
  all_goals try exact ⟨Or.inr rfl, _, rfl, k _ _ G (by omega) (fun e => absurd e (by decide))⟩
  refine wo_call rfl rfl (rchain_ev hall (hcx.mono (by omega)) (by omega) h12 (C.grew G) fun h6 v6 id6 g6 n6 S6 => ?_)
  have L6 := g6.le
  have G := G.trans g6
  have Bx := (g6.get h.n (by omega)).trans Bx
  have Bc := (g6.get h1.n (by omega)).trans Bc
  cases hcy : (chainR cl (dS 0 (el cl i))).2
  case true =>
   repeat' (first | refine Yu ?_ | refine Yp ?_ | refine z6 ?_ | refine z8 ?_ | refine zh ?_ | refine zi ?_ | refine zl ?_ | (refine Yq ?_ ?_ <;> intro hc <;> try first | contradiction | omega) | refine Yx ?_ | refine Yy ?_)
   exact ⟨Or.inr rfl, _, rfl, k _ _ G (by omega) (fun e => absurd e (by decide))⟩
  repeat' (first | refine Yu ?_ | refine Yp ?_ | refine z6 ?_ | refine z8 ?_ | refine zh ?_ | refine zi ?_ | refine zl ?_ | (refine Yq ?_ ?_ <;> intro hc <;> try first | contradiction | omega) | refine Yx ?_ | refine Yy ?_)
  all_goals try exact ⟨Or.inr rfl, _, rfl, k _ _ G (by omega) (fun e => absurd e (by decide))⟩
  refine wo_call rfl rfl (fields10_ev hall (hcx.mono (by omega)) (by omega) h12 (hF i hi) hi (C.grew G) fun e h7 g7 n7 hok => ?_)
  have L7 := g7.le
  have G := G.trans g7
  have Bx := (g7.get h.n (by omega)).trans Bx
  have Bc := (g7.get h1.n (by omega)).trans Bc
  repeat' (first | refine Yu ?_ | refine Yp ?_ | refine z6 ?_ | refine z8 ?_ | refine zh ?_ | refine zi ?_ | refine zl ?_ | (refine Yq ?_ ?_ <;> intro hc <;> try first | contradiction | omega) | refine Yx ?_ | refine Yy ?_)
  rotate_left
  ·rename_i hne _
   exact ⟨Or.inr rfl, _, rfl, k _ _ G (by omega) (fun e => absurd e (by assumption))⟩
  have hok2 : FldOk cl i := hok (by assumption)
  refine wo_call rfl rfl (methods10_ev hall (hcx.mono (by omega)) (by omega) h12 hM hi (C.grew G) fun e h8 g8 n8 => ?_)
  have L8 := g8.le
  have G := G.trans g8
  have Bx := (g8.get h.n (by omega)).trans Bx
  have Bc := (g8.get h1.n (by omega)).trans Bc
  repeat' (first | refine Yu ?_ | refine Yp ?_ | refine z6 ?_ | refine z8 ?_ | refine zh ?_ | refine zi ?_ | refine zl ?_ | (refine Yq ?_ ?_ <;> intro hc <;> try first | contradiction | omega) | refine Yx ?_ | refine Yy ?_)
  exact ⟨Or.inr rfl, _, rfl, k _ _ G (by omega) (fun _ => ⟨by assumption, fun _ => by omega, hcy, hok2⟩)⟩
theorem bud_step {a b c k j : Nat} (h1 : a ≤ b + k) (h2 : b ≤ c + k * j) : a ≤ c + k * (j + 1) :=
 Nat.le_trans (Nat.le_trans h1 (Nat.add_le_add_right h2 _)) (Nat.le_of_eq (by rw [Nat.mul_succ, Nat.add_assoc]))
theorem bud_le {b c j n : Nat} (h2 : b ≤ c + 17000 * j) (hj : j ≤ n) (hn : n ≤ 12) : b ≤ c + 204000 :=
 Nat.le_trans h2 (Nat.add_le_add_left (Nat.mul_le_mul_left 17000 (Nat.le_trans hj hn)) c)
theorem R10Check_ev {cl : List Dt} {cv : AV} (hall : ∀ id, id < 10000000 → seen c.vis id = true) (hcx : Cx c h) (hn : h.n + 222000 < 10000000) (h12 : cl.length ≤ 12) (hF : ∀ i, i < cl.length → (dL 2 (el cl i)).length ≤ 20) (hM : ∀ i, i < cl.length → (dL 3 (el cl i)).length ≤ 20) (C : Sl 70 true h ShClass cl cv) (k : ∀ a e h', Grew h h' → h'.n ≤ h.n + 222000 → (e = 0 → ∀ i, i < cl.length → ClsR cl i) → K (.tup [.int .i64 a, .int .i64 e]) h') : Gv Tryz.prog X0 Mx c 81 [.agg [cv]] h K := by
 have hnt : (24 : Nat) ≤ 1000000 := by decide
 refine gv_fn x_R10Check (Mx_no rfl _ _ _) (by simp) hnt ?_
 unfold s_R10Check SR.m SR.o
 obtain ⟨id, rows, A, hr, hid, hrow⟩ := at_Class C
 have hs1 := hall h.n (by omega)
 repeat' (first | refine Yu ?_ | refine Yp ?_ | refine z6 ?_ | refine za ?_ | refine zh ?_ | refine zi ?_ | (refine Yq ?_ ?_ <;> intro hc <;> try first | contradiction | omega) | (refine wo_boxA rfl rfl (by omega) fun h1 n1 b1 g1 => ?_) | refine Yx ?_ | refine Yz ?_ | refine Yy ?_)
 refine wc_loopE (ι := Nat) (fun j => [(1, .ptr h.n 0), (4, .int .i64 (j : Int))]) (fun j h' => Grew h1 h' ∧ h'.n ≤ h1.n + 17000 * j ∧ j ≤ cl.length ∧ ∀ i, i < j → ClsR cl i) (fun j => cl.length - j) ?_ 0 ⟨Grew.refl _, by omega, Nat.zero_le _, fun i hi => absurd hi (by omega)⟩ (Sc (Sc Sn))
 rintro j h4 ⟨hG, hN, hj, hd⟩
 have hGl := hG.le
 have B4 := (hG.get h.n (by omega)).trans b1
 have hst : ∀ a, a ≤ h4.n + 17000 → a ≤ h1.n + 17000 * (j + 1) := fun a ha => bud_step ha hN
 have hN2 : h4.n ≤ h1.n + 204000 := bud_le hN hj h12
 clear hN
 by_cases hlt : j < cl.length
 ·repeat' (first | refine Yu ?_ | refine Yp ?_ | refine z6 ?_ | refine za ?_ | refine zh ?_ | refine zi ?_ | (refine Yq ?_ ?_ <;> intro hc <;> try first | contradiction | omega) | refine Yx ?_ | refine Yz ?_ | refine Yy ?_)
  refine wo_call rfl rfl (class10_ev hall (hcx.mono (by omega)) (by omega) h12 hF hM hlt (C.grew (g1.trans hG)) fun e h5 g5 n5 hok => ?_)
  repeat' (first | refine Yu ?_ | refine Yp ?_ | refine z6 ?_ | refine za ?_ | refine zh ?_ | refine zi ?_ | (refine Yq ?_ ?_ <;> intro hc <;> try first | contradiction | omega) | refine Yx ?_ | refine Yz ?_ | refine Yy ?_)
  ·have hb5 := hst _ n5
   refine ⟨j + 1, by simp; omega, (Sc (Sc Sn)), hG.trans g5, hb5, hlt, fun i hi => ?_⟩
   by_cases z : i = j
   ·subst z; exact hok (by assumption)
   ·exact hd i (by omega)
  ·exact ⟨Or.inr rfl, _, rfl, k _ _ _ ((g1.trans hG).trans g5) (by omega) (fun e => absurd e (by assumption))⟩
 ·repeat' (first | refine Yu ?_ | refine Yp ?_ | refine z6 ?_ | refine za ?_ | refine zh ?_ | refine zi ?_ | (refine Yq ?_ ?_ <;> intro hc <;> try first | contradiction | omega) | refine Yx ?_ | refine Yz ?_ | refine Yy ?_)
  exact ⟨Or.inr rfl, _, rfl, k _ _ _ (g1.trans hG) (by omega) (fun _ i hi => hd i (by omega))⟩
end Go.Proofs.YtmdceifbbmnfgaaGreatDoor.Ev
