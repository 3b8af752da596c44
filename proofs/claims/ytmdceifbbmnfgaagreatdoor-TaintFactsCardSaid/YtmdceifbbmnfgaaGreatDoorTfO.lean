/- Reference: the check of an instruction. -/
import Derived.Test.YtmdceifbbmnfgaaGreatDoorTfL
import Derived.Test.YtmdceifbbmnfgaaGreatDoorTfD
set_option linter.unusedVariables false
set_option linter.unusedSimpArgs false
set_option maxHeartbeats 4000000
namespace Go.Proofs.YtmdceifbbmnfgaaGreatDoor.Ev
open Go
open Classical
variable {c : C} {h : H} {K : AV → H → Prop}
theorem leaves_ev {f : Dt} {vv cv : AV} {cl : List Dt} {i : Nat} (hall : ∀ id, id < 10000000 → seen c.vis id = true) (hcx : Cx c h) (hn : h.n + 4 < 10000000) (hi : i < cl.length) (Cd : Sl 70 true h ShInstr cl cv) (hg : hasF (dI 0 (el cl i)) 103 = true → 0 ≤ dI 8 (el cl i) ∧ dI 8 (el cl i) < cl.length) (k : ∀ b h', Grew h h' → h'.n ≤ h.n + 4 → K (.bool b) h') : Gv Tryz.prog X0 Mx c 160 [.agg (funRow f vv cv), .int .i64 (i : Int)] h K := by
 have hnt : (67 : Nat) ≤ 1000000 := by decide
 refine gv_fn x_leaves (Mx_no rfl _ _ _) (by simp) hnt ?_
 unfold s_leaves SR.g SR.m SR.o SR.s
 obtain ⟨cid, crows, CA, hcr, hcid, hcrow⟩ := at_Instr Cd
 have hs1 := hall h.n (by omega)
 have hlow := hcx.low
 have hcl := Cd.le
 have hci := hcid (by omega)
 have hsc := hall cid (by omega)
 obtain ⟨v7, hw, _, oc⟩ := hcrow i hi
 refine Yc (Yd (rg_go hnt rfl rfl (wo_boxA rfl rfl (by omega) fun h1 n1 b1 g1 => ?_)))
 have hs2 := hall h1.n (by omega)
 have C1 := CA.grew g1
 repeat' (first | refine Yu ?_ | refine Yp ?_ | refine z6 ?_ | refine z8 ?_ | refine z9 ?_ | refine za ?_ | refine zh ?_ | refine zj ?_ | refine zl ?_ | (refine Yq ?_ ?_ <;> intro hc <;> try first | contradiction | omega) | refine Yx ?_ | refine Yy ?_)
 refine rg_bs hnt (hcx.mono (by omega)) (by omega) rfl rfl rfl rfl (by rfl) (by exact oc) fun h2 n2 b2 g2 => ?_
 have G := g1.trans g2
 have Bf := (g2.get h.n (by omega)).trans b1
 have C2 := CA.grew G
 repeat' (first | refine Yu ?_ | refine Yp ?_ | refine z6 ?_ | refine z8 ?_ | refine z9 ?_ | refine za ?_ | refine zh ?_ | refine zj ?_ | refine zl ?_ | (refine Yq ?_ ?_ <;> intro hc <;> try first | contradiction | omega) | refine Yd ?_ | refine zu ?_ | refine zv ?_ | refine Yg ?_ | refine Yi ?_ | refine Yy ?_)
 refine wc_cut2 (ι := Bool) (fun b => [(1, .int .i64 (i : Int)), (2, .ptr h.n 0), (5, .ptr h1.n 0), (6, .bool b)]) (fun _ h' => h' = h2) ?_ ?_
 ·repeat' (first | refine Yu ?_ | refine Yp ?_ | refine z6 ?_ | refine z8 ?_ | refine z9 ?_ | refine za ?_ | refine zh ?_ | refine zj ?_ | refine zl ?_ | (refine Yq ?_ ?_ <;> intro hc <;> try first | contradiction | omega) | refine Yx ?_ | refine Yy ?_)
  all_goals first
   | exact Or.inl ⟨rfl, true, (Sc (Sc (Sc (Sc Sn)))), rfl⟩
   | exact Or.inl ⟨rfl, false, (Sc (Sc (Sc (Sc Sn)))), rfl⟩
 rintro b h' hh
 have hh2 := hh.symm
 subst hh2
 refine wc_cut2 (ι := Unit) (fun _ => [(1, .int .i64 (i : Int)), (2, .ptr h.n 0), (5, .ptr h1.n 0)]) (fun _ h' => h' = h2) ?_ ?_
 ·cases b
  ·by_cases hlast : i + 1 = cl.length
   ·repeat' (first | refine Yu ?_ | refine Yp ?_ | refine z6 ?_ | refine z8 ?_ | refine z9 ?_ | refine za ?_ | refine zh ?_ | refine zj ?_ | refine zl ?_ | (refine Yq ?_ ?_ <;> intro hc <;> try first | contradiction | omega) | refine Yx ?_ | refine Yy ?_)
    all_goals first
     | exact Or.inl ⟨rfl, (), (Sc (Sc (Sc Sn))), rfl⟩
     | exact Or.inr ⟨rfl, Or.inr rfl, _, rfl, k _ _ G (by omega)⟩
   ·obtain ⟨v8, hw1, _, _⟩ := hcrow (((i : Int) + 1).toNat) (by omega)
    repeat' (first | refine Yu ?_ | refine Yp ?_ | refine z6 ?_ | refine z8 ?_ | refine z9 ?_ | refine za ?_ | refine zh ?_ | refine zj ?_ | refine zl ?_ | (refine Yq ?_ ?_ <;> intro hc <;> try first | contradiction | omega) | refine Yx ?_ | refine Yy ?_)
    all_goals first
     | exact Or.inl ⟨rfl, (), (Sc (Sc (Sc Sn))), rfl⟩
     | exact Or.inr ⟨rfl, Or.inr rfl, _, rfl, k _ _ G (by omega)⟩
  ·repeat' (first | refine Yu ?_ | refine Yp ?_ | refine z6 ?_ | refine z8 ?_ | refine z9 ?_ | refine za ?_ | refine zh ?_ | refine zj ?_ | refine zl ?_ | (refine Yq ?_ ?_ <;> intro hc <;> try first | contradiction | omega) | refine Yx ?_ | refine Yy ?_)
   exact Or.inl ⟨rfl, (), (Sc (Sc (Sc Sn))), rfl⟩
 rintro _ h' hh
 have hh2 := hh.symm
 subst hh2
 repeat' (first | refine Yu ?_ | refine Yp ?_ | refine z6 ?_ | refine z8 ?_ | refine z9 ?_ | refine za ?_ | refine zh ?_ | refine zj ?_ | refine zl ?_ | (refine Yq ?_ ?_ <;> intro hc <;> try first | contradiction | omega) | refine Yx ?_ | refine Yy ?_)
 refine wo_call rfl rfl (Has_ev (f := 103) (hcx.mono (by omega)) (by omega) fun h3 g3 n3 => ?_)
 have Bf3 := (g3.get h.n (by omega)).trans Bf
 have Bx3 := (g3.get h1.n (by omega)).trans b2
 have G := G.trans g3
 have C3 := CA.grew G
 cases hd : hasF (dI 0 (el cl i)) 103
 ·repeat' (first | refine Yu ?_ | refine Yp ?_ | refine z6 ?_ | refine z8 ?_ | refine z9 ?_ | refine za ?_ | refine zh ?_ | refine zj ?_ | refine zl ?_ | (refine Yq ?_ ?_ <;> intro hc <;> try first | contradiction | omega) | refine Yx ?_ | refine Yy ?_)
  all_goals exact ⟨Or.inr rfl, _, rfl, k _ _ G (by omega)⟩
 ·obtain ⟨q1, q2⟩ := hg hd
  obtain ⟨v9, hw2, _, _⟩ := hcrow (dI 8 (el cl i)).toNat (by omega)
  repeat' (first | refine Yu ?_ | refine Yp ?_ | refine z6 ?_ | refine z8 ?_ | refine z9 ?_ | refine za ?_ | refine zh ?_ | refine zj ?_ | refine zl ?_ | (refine Yq ?_ ?_ <;> intro hc <;> try first | contradiction | omega) | refine Yx ?_ | refine Yy ?_)
  all_goals exact ⟨Or.inr rfl, _, rfl, k _ _ G (by omega)⟩
theorem declares_ev {h0 : H} {cl : List Dt} {cv : AV} {s nm : List Nat} (hall : ∀ id, id < 10000000 → seen c.vis id = true) (hcx : Cx c h) (hn : h.n + 100 < 10000000) (h12 : cl.length ≤ 12) (gg : Grew h0 h) (C : Sl 70 true h0 ShClass cl cv) (k : ∀ (n r : List Nat) (st b : Bool) (pd : List Dt) (pv : AV) h', Grew h h' → h'.n ≤ h.n + 100 → Sl 70 true h0 .str pd pv → K (.tup [.agg [.str n, .bool st, pv, .str r], .bool b]) h') : Gv Tryz.prog X0 Mx c 379 [.agg [cv], .str s, .str nm] h K := by
 have hnt : (30 : Nat) ≤ 1000000 := by decide
 refine gv_fn x_declares (Mx_no rfl _ _ _) (by simp) hnt ?_
 unfold s_declares SR.S SR.g SR.l SR.m SR.o SR.p SR.s
 have hs1 := hall h.n (by omega)
 have hlow := hcx.low
 refine Yc (Yd (rg_go hnt rfl rfl (wo_boxA rfl rfl (by omega) fun h1 n1 b1 g1 => ?_)))
 have hs2 := hall h1.n (by omega)
 repeat' (first | refine Yu ?_ | refine Yp ?_ | refine zh ?_ | refine zi ?_ | (refine Yq ?_ ?_ <;> intro hc <;> try first | contradiction | omega) | (refine wo_boxA rfl rfl (by omega) fun hb nb bb gb => ?_) | refine Yx ?_ | refine Yv ?_ | refine zx ?_ | refine Yy ?_)
 have b1b := (gb.get h.n (by omega)).trans b1
 repeat' (first | refine Yu ?_ | refine Yp ?_ | refine zh ?_ | refine zi ?_ | (refine Yq ?_ ?_ <;> intro hc <;> try first | contradiction | omega) | (refine wo_call rfl rfl (Lookup_ev hall (hcx.mono (by omega)) (by omega) h12 (gg.trans (g1.trans gb)) C fun a n r st b pd pv h2 g2 n2 P => ?_)) | refine Yx ?_ | refine Yv ?_ | refine zx ?_ | refine Yy ?_)
 have g2l := g2.le
 have D2 := (g2.get h1.n (by omega)).trans bb
 have oo : ones [.str n, .bool st, pv, .str r] = true := by have po := P.one; simp only [ones, po]; rfl
 have hs3 := hall h2.n (by omega)
 repeat' (first | refine Yu ?_ | refine Yp ?_ | refine zh ?_ | refine zi ?_ | (refine Yq ?_ ?_ <;> intro hc <;> try first | contradiction | omega) | refine Yx ?_ | refine Yv ?_ | refine zx ?_ | refine Yy ?_)
 refine rg_bs1 hnt rfl (hcx.mono (by omega)) (by omega) rfl rfl rfl rfl (by rfl) (by rfl) (by exact oo) fun h3 n3 b3 g3 => ?_
 have D3 := (g3.get h1.n (by omega)).trans D2
 have G := ((g1.trans gb).trans g2).trans g3
 cases b <;> cases st
 all_goals repeat' (first | refine Yu ?_ | refine Yp ?_ | refine zh ?_ | refine zi ?_ | (refine Yq ?_ ?_ <;> intro hc <;> try first | contradiction | omega) | refine Yx ?_ | refine Yv ?_ | refine zx ?_ | refine Yy ?_)
 all_goals refine rd_bar0 hnt rfl (wo_storeA rfl rfl (by show c.floor ≤ _; omega) (seen_old (by repeat (first | exact rs_nil | refine rs_add (by omega) ?_)) (by omega) (by omega) hs2) D3 rfl (by exact oo) (by decide) (by omega) (splice_all rfl) fun h7 n7 b7 k7 => ⟨(by repeat (first | exact unchF_nil | refine unchF_cons (by decide) ?_ | refine unchF_same (by assumption) ((k7 _ (by omega)).trans (by assumption)) ?_)), ?_⟩)
 all_goals repeat' (first | refine Yu ?_ | refine Yp ?_ | refine zh ?_ | refine zi ?_ | (refine Yq ?_ ?_ <;> intro hc <;> try first | contradiction | omega) | refine Yx ?_ | refine Yv ?_ | refine zx ?_ | refine Yy ?_)
 all_goals refine ⟨Or.inr rfl, _, resE_box rfl hs2 b7 rfl (resE_one rfl rfl), ?_⟩
 all_goals have gD : Grew h h7 := ⟨by omega, fun i hi => (k7 i (by omega)).trans (G.get i hi)⟩
 all_goals exact k _ _ _ _ _ _ _ gD (by omega) P
theorem access_ev {cl vl al : List Dt} {cv vv dv av : AV} {f x : Dt} (hall : ∀ id, id < 10000000 → seen c.vis id = true) (hcx : Cx c h) (hn : h.n + 210 < 10000000) (h12 : cl.length ≤ 12) (C : Sl 70 true h ShClass cl cv) (V : Sl 70 true h ShField vl vv) (hop : dI 0 x = 7 ∨ dI 0 x = 8) (hA : 0 ≤ dI 2 x ∧ dI 2 x < vl.length) (h7 : dI 0 x = 7 → 0 ≤ dI 1 x ∧ dI 1 x < vl.length) (h8 : dI 0 x = 8 → 0 ≤ dI 3 x ∧ dI 3 x < vl.length) (k : ∀ e h', Grew h h' → h'.n ≤ h.n + 210 → K (.int .i64 e) h') : Gv Tryz.prog X0 Mx c 274 [.agg [cv], .agg (funRow f vv dv), .agg (insRow x av)] h K := by
 have hnt : (67 : Nat) ≤ 1000000 := by decide
 refine gv_fn x_access (Mx_no rfl _ _ _) (by simp) hnt ?_
 unfold s_access SR.g SR.m SR.o SR.p
 obtain ⟨vid, vrows, VA, hvr, hvid, hvrow⟩ := at_Field V
 have hs1 := hall h.n (by omega)
 have hlow := hcx.low
 have hvi := hvid (by omega)
 have hsv := hall vid (by omega)
 obtain ⟨hwA, _⟩ := hvrow (dI 2 x).toNat (by omega)
 refine Yc (Yd (rg_go hnt rfl rfl (wo_boxA rfl rfl (by omega) fun h1 n1 b1 g1 => ?_)))
 have hs2 := hall h1.n (by omega)
 refine rg_go hnt rfl rfl (wo_boxA rfl rfl (by omega) fun hb nb bb gb => ?_)
 have hs3 := hall hb.n (by omega)
 refine rg_go hnt rfl rfl (wo_boxA rfl rfl (by omega) fun he ne be ge => ?_)
 have Bh : he.get h.n = some (.cells [cv]) := (ge.get h.n (by omega)).trans ((gb.get h.n (by omega)).trans b1)
 have Bf : he.get h1.n = some (.cells (funRow f vv dv)) := (ge.get h1.n (by omega)).trans bb
 have Bx : he.get hb.n = some (.cells (insRow x av)) := be
 have G := (g1.trans gb).trans ge
 have VG := VA.grew G
 have Le : he.n = h.n + 3 := by omega
 repeat' (first | refine Yu ?_ | refine Yp ?_ | refine z9 ?_ | refine zh ?_ | refine zi ?_ | refine zj ?_ | (refine Yq ?_ ?_ <;> intro hc <;> try first | contradiction | omega) | refine Yx ?_ | refine Yv ?_ | refine zx ?_ | refine Yy ?_)
 refine wo_call rfl rfl (isClass_ev hall (hcx.mono (by omega)) (by omega) (C.grew G) (fun hc h4 g4 n4 => ?_) (fun hc h4 g4 n4 => ?_))
 rotate_left
 ·have L4 := g4.le
  have G := G.trans g4
  have Bh := (g4.get h.n (by omega)).trans Bh
  have Bf := (g4.get h1.n (by omega)).trans Bf
  have Bx := (g4.get hb.n (by omega)).trans Bx
  have VG := VA.grew G
  repeat' (first | refine Yu ?_ | refine Yp ?_ | refine z9 ?_ | refine zh ?_ | refine zi ?_ | refine zj ?_ | (refine Yq ?_ ?_ <;> intro hc <;> try first | contradiction | omega) | refine Yx ?_ | refine Yv ?_ | refine zx ?_ | refine Yy ?_)
  exact ⟨Or.inr rfl, _, rfl, k _ _ G (by omega)⟩
 have L4 := g4.le
 have G := G.trans g4
 have Bh := (g4.get h.n (by omega)).trans Bh
 have Bf := (g4.get h1.n (by omega)).trans Bf
 have Bx := (g4.get hb.n (by omega)).trans Bx
 have VG := VA.grew G
 repeat' (first | refine Yu ?_ | refine Yp ?_ | refine z9 ?_ | refine zh ?_ | refine zi ?_ | refine zj ?_ | (refine Yq ?_ ?_ <;> intro hc <;> try first | contradiction | omega) | refine Yx ?_ | refine Yv ?_ | refine zx ?_ | refine Yy ?_)
 refine wo_call rfl rfl (Field10_ev hall (hcx.mono (by omega)) (by omega) h12 (C.grew G) (fun hf a b h5 g5 n5 => ?_) (fun hf a b h5 g5 n5 => ?_))
 rotate_left
 ·have L5 := g5.le
  have G := G.trans g5
  have Bh := (g5.get h.n (by omega)).trans Bh
  have Bf := (g5.get h1.n (by omega)).trans Bf
  have Bx := (g5.get hb.n (by omega)).trans Bx
  have VG := VA.grew G
  repeat' (first | refine Yu ?_ | refine Yp ?_ | refine z9 ?_ | refine zh ?_ | refine zi ?_ | refine zj ?_ | (refine Yq ?_ ?_ <;> intro hc <;> try first | contradiction | omega) | refine Yx ?_ | refine Yv ?_ | refine zx ?_ | refine Yy ?_)
  exact ⟨Or.inr rfl, _, rfl, k _ _ G (by omega)⟩
 have L5 := g5.le
 have G := G.trans g5
 have Bh := (g5.get h.n (by omega)).trans Bh
 have Bf := (g5.get h1.n (by omega)).trans Bf
 have Bx := (g5.get hb.n (by omega)).trans Bx
 have VG := VA.grew G
 clear hc hf
 rcases hop with hop | hop
 ·obtain ⟨q1, q2⟩ := h7 hop
  obtain ⟨hwD, _⟩ := hvrow (dI 1 x).toNat (by omega)
  repeat' (first | refine Yu ?_ | refine Yp ?_ | refine z9 ?_ | refine zh ?_ | refine zi ?_ | refine zj ?_ | (refine Yq ?_ ?_ <;> intro hc <;> try first | contradiction | omega) | refine Yx ?_ | refine Yv ?_ | refine zx ?_ | refine Yy ?_)
  refine rd_bar hnt rfl rfl (wo_call rfl rfl (Fits12_ev (fun id q => by by_cases z : id < h5.n; exact seen_old (by repeat (first | exact rs_nil | refine rs_add (by omega) ?_)) (by omega) z (hall id q); exact seen_here (by omega) (by unfold big; omega)) (Cx.mem (by omega)) (by omega) h12 (C.grew G) fun b h6 g6 n6 => ⟨(by repeat (first | exact unchF_nil | refine unchF_cons (by decide) ?_ | refine unchF_same (by assumption) ((g6.get _ (by omega)).trans (by assumption)) ?_)), ?_⟩))
  have L6 := g6.le
  have G := G.trans g6
  have Bh := (g6.get h.n (by omega)).trans Bh
  have Bf := (g6.get h1.n (by omega)).trans Bf
  have Bx := (g6.get hb.n (by omega)).trans Bx
  have VG := VA.grew G
  cases b
  all_goals repeat' (first | refine Yu ?_ | refine Yp ?_ | refine z9 ?_ | refine zh ?_ | refine zi ?_ | refine zj ?_ | (refine Yq ?_ ?_ <;> intro hc <;> try first | contradiction | omega) | refine Yx ?_ | refine Yv ?_ | refine zx ?_ | refine Yy ?_)
  all_goals exact ⟨Or.inr rfl, _, rfl, k _ _ G (by omega)⟩
 ·obtain ⟨q1, q2⟩ := h8 hop
  obtain ⟨hwB, _⟩ := hvrow (dI 3 x).toNat (by omega)
  repeat' (first | refine Yu ?_ | refine Yp ?_ | refine z9 ?_ | refine zh ?_ | refine zi ?_ | refine zj ?_ | (refine Yq ?_ ?_ <;> intro hc <;> try first | contradiction | omega) | refine Yx ?_ | refine Yv ?_ | refine zx ?_ | refine Yy ?_)
  refine rd_bar hnt rfl rfl (wo_call rfl rfl (Fits12_ev (fun id q => by by_cases z : id < h5.n; exact seen_old (by repeat (first | exact rs_nil | refine rs_add (by omega) ?_)) (by omega) z (hall id q); exact seen_here (by omega) (by unfold big; omega)) (Cx.mem (by omega)) (by omega) h12 (C.grew G) fun b h6 g6 n6 => ⟨(by repeat (first | exact unchF_nil | refine unchF_cons (by decide) ?_ | refine unchF_same (by assumption) ((g6.get _ (by omega)).trans (by assumption)) ?_)), ?_⟩))
  have L6 := g6.le
  have G := G.trans g6
  have Bh := (g6.get h.n (by omega)).trans Bh
  have Bf := (g6.get h1.n (by omega)).trans Bf
  have Bx := (g6.get hb.n (by omega)).trans Bx
  have VG := VA.grew G
  cases b
  all_goals repeat' (first | refine Yu ?_ | refine Yp ?_ | refine z9 ?_ | refine zh ?_ | refine zi ?_ | refine zj ?_ | (refine Yq ?_ ?_ <;> intro hc <;> try first | contradiction | omega) | refine Yx ?_ | refine Yv ?_ | refine zx ?_ | refine Yy ?_)
  all_goals exact ⟨Or.inr rfl, _, rfl, k _ _ G (by omega)⟩
theorem ints_ev {cl vl : List Dt} {cv vv dv av : AV} {f x : Dt} (hall : ∀ id, id < 10000000 → seen c.vis id = true) (hcx : Cx c h) (hn : h.n + 75 < 10000000) (h12 : cl.length ≤ 12) (C : Sl 70 true h ShClass cl cv) (V : Sl 70 true h ShField vl vv) (hd : hasF (dI 0 x) 100 = true → 0 ≤ dI 1 x ∧ dI 1 x < vl.length) (ha : hasF (dI 0 x) 97 = true → ¬ (0 ≤ dI 2 x ∧ ¬ dI 2 x < vl.length)) (hb2 : hasF (dI 0 x) 98 = true → 0 ≤ dI 3 x ∧ dI 3 x < vl.length) (k : ∀ e h', Grew h h' → h'.n ≤ h.n + 75 → K (.bool e) h') : Gv Tryz.prog X0 Mx c 276 [.agg [cv], .agg (funRow f vv dv), .agg (insRow x av)] h K := by
 have hnt : (115 : Nat) ≤ 1000000 := by decide
 refine gv_fn x_ints (Mx_no rfl _ _ _) (by simp) hnt ?_
 unfold s_ints SR.g SR.m SR.o
 obtain ⟨vid, vrows, VA, hvr, hvid, hvrow⟩ := at_Field V
 have hs1 := hall h.n (by omega)
 have hlow := hcx.low
 refine Yc (Yd (rg_go hnt rfl rfl (wo_boxA rfl rfl (by omega) fun h1 n1 b1 g1 => ?_)))
 have hs2 := hall h1.n (by omega)
 refine rg_go hnt rfl rfl (wo_boxA rfl rfl (by omega) fun hb nb bb gb => ?_)
 have hs3 := hall hb.n (by omega)
 refine rg_go hnt rfl rfl (wo_boxA rfl rfl (by omega) fun he ne be ge => ?_)
 have Bh : he.get h.n = some (.cells [cv]) := (ge.get h.n (by omega)).trans ((gb.get h.n (by omega)).trans b1)
 have Bf : he.get h1.n = some (.cells (funRow f vv dv)) := (ge.get h1.n (by omega)).trans bb
 have Bx : he.get hb.n = some (.cells (insRow x av)) := be
 have g0 := (g1.trans gb).trans ge
 have G := Grew.refl he
 have Le : he.n = h.n + 3 := by omega
 repeat' (first | refine Yu ?_ | refine Yp ?_ | refine z9 ?_ | refine zh ?_ | refine zi ?_ | refine zj ?_ | (refine Yq ?_ ?_ <;> intro hc <;> try first | contradiction | omega) | refine Yd ?_ | refine Yf ?_ | refine zu ?_ | refine zv ?_ | refine Yg ?_ | refine Yi ?_ | refine Yz ?_ | refine Yy ?_)
 refine Yc ?_
 repeat' (first | refine Yu ?_ | refine Yp ?_ | refine z9 ?_ | refine zh ?_ | refine zi ?_ | refine zj ?_ | (refine Yq ?_ ?_ <;> intro hc <;> try first | contradiction | omega) | refine Yd ?_ | refine Yf ?_ | refine zu ?_ | refine zv ?_ | refine Yg ?_ | refine Yi ?_ | refine Yz ?_ | refine Yy ?_)
 refine wc_cut (ι := List Nat × List Nat × List Nat) (fun q => [(3, .ptr h.n 0), (4, .ptr h1.n 0), (5, .ptr hb.n 0), (7, .str q.1), (8, .str q.2.1), (9, .str q.2.2)]) (fun (_ : List Nat × List Nat × List Nat) h' => Grew he h' ∧ h'.n ≤ he.n + 2 ∧ h'.get h.n = some (.cells [cv]) ∧ h'.get h1.n = some (.cells (funRow f vv dv)) ∧ h'.get hb.n = some (.cells (insRow x av))) ?_ ?_
 ·repeat' (first | refine Yu ?_ | refine Yp ?_ | refine z9 ?_ | refine zh ?_ | refine zi ?_ | refine zj ?_ | (refine Yq ?_ ?_ <;> intro hc <;> try first | contradiction | omega) | refine Yx ?_ | refine Yz ?_ | refine Yy ?_)
  refine wo_call rfl rfl (Has_ev (f := 100) (hcx.mono (by omega)) (by omega) fun h11 g11 n11 => ?_)
  have g11l := g11.le
  have G := G.trans g11
  have Bh := (g11.get h.n (by omega)).trans Bh
  have Bf := (g11.get h1.n (by omega)).trans Bf
  have Bx := (g11.get hb.n (by omega)).trans Bx
  have VG := VA.grew (g0.trans G)
  cases hq : hasF (dI 0 x) 100
  ·repeat' (first | refine Yu ?_ | refine Yp ?_ | refine z9 ?_ | refine zh ?_ | refine zi ?_ | refine zj ?_ | (refine Yq ?_ ?_ <;> intro hc <;> try first | contradiction | omega) | refine Yx ?_ | refine Yz ?_ | refine Yy ?_)
   exact ⟨rfl, ([], [], []), (Sc (Sc (Sc (Sc (Sc (Sc Sn)))))), G, by omega, Bh, Bf, Bx⟩
  ·by_cases hr : 0 ≤ dI 1 x ∧ dI 1 x < vl.length
   ·have hvi := hvid (by omega)
    have hsv := hall vid (by omega)
    obtain ⟨hw, _⟩ := hvrow (dI 1 x).toNat (by omega)
    repeat' (first | refine Yu ?_ | refine Yp ?_ | refine z9 ?_ | refine zh ?_ | refine zi ?_ | refine zj ?_ | (refine Yq ?_ ?_ <;> intro hc <;> try first | contradiction | omega) | refine Yx ?_ | refine Yz ?_ | refine Yy ?_)
    all_goals first
     | exact ⟨rfl, (_, [], []), (Sc (Sc (Sc (Sc (Sc (Sc Sn)))))), G, by omega, Bh, Bf, Bx⟩
     | exact ⟨rfl, ([], [], []), (Sc (Sc (Sc (Sc (Sc (Sc Sn)))))), G, by omega, Bh, Bf, Bx⟩
   ·exact absurd (hd hq) hr
 rintro ⟨d, a, b⟩ h110 ⟨G, N11, Bh, Bf, Bx⟩
 have L11 := G.le
 show WC _ _ _ _ _ _ [(3, .ptr h.n 0), (4, .ptr h1.n 0), (5, .ptr hb.n 0), (7, .str d), (8, .str a), (9, .str b)] _ _
 refine wc_cut (ι := List Nat × List Nat × List Nat) (fun q => [(3, .ptr h.n 0), (4, .ptr h1.n 0), (5, .ptr hb.n 0), (7, .str q.1), (8, .str q.2.1), (9, .str q.2.2)]) (fun (_ : List Nat × List Nat × List Nat) h' => Grew he h' ∧ h'.n ≤ he.n + 4 ∧ h'.get h.n = some (.cells [cv]) ∧ h'.get h1.n = some (.cells (funRow f vv dv)) ∧ h'.get hb.n = some (.cells (insRow x av))) ?_ ?_
 ·repeat' (first | refine Yu ?_ | refine Yp ?_ | refine z9 ?_ | refine zh ?_ | refine zi ?_ | refine zj ?_ | (refine Yq ?_ ?_ <;> intro hc <;> try first | contradiction | omega) | refine Yx ?_ | refine Yz ?_ | refine Yy ?_)
  refine wo_call rfl rfl (Has_ev (f := 97) (hcx.mono (by omega)) (by omega) fun h12 g12 n12 => ?_)
  have g12l := g12.le
  have G := G.trans g12
  have Bh := (g12.get h.n (by omega)).trans Bh
  have Bf := (g12.get h1.n (by omega)).trans Bf
  have Bx := (g12.get hb.n (by omega)).trans Bx
  have VG := VA.grew (g0.trans G)
  cases hq : hasF (dI 0 x) 97
  ·repeat' (first | refine Yu ?_ | refine Yp ?_ | refine z9 ?_ | refine zh ?_ | refine zi ?_ | refine zj ?_ | (refine Yq ?_ ?_ <;> intro hc <;> try first | contradiction | omega) | refine Yx ?_ | refine Yz ?_ | refine Yy ?_)
   exact ⟨rfl, (d, a, b), (Sc (Sc (Sc (Sc (Sc (Sc Sn)))))), G, by omega, Bh, Bf, Bx⟩
  ·by_cases hr : 0 ≤ dI 2 x ∧ dI 2 x < vl.length
   ·have hvi := hvid (by omega)
    have hsv := hall vid (by omega)
    obtain ⟨hw, _⟩ := hvrow (dI 2 x).toNat (by omega)
    repeat' (first | refine Yu ?_ | refine Yp ?_ | refine z9 ?_ | refine zh ?_ | refine zi ?_ | refine zj ?_ | (refine Yq ?_ ?_ <;> intro hc <;> try first | contradiction | omega) | refine Yx ?_ | refine Yz ?_ | refine Yy ?_)
    all_goals first
     | exact ⟨rfl, (d, _, b), (Sc (Sc (Sc (Sc (Sc (Sc Sn)))))), G, by omega, Bh, Bf, Bx⟩
     | exact ⟨rfl, (d, a, b), (Sc (Sc (Sc (Sc (Sc (Sc Sn)))))), G, by omega, Bh, Bf, Bx⟩
   ·have hr2 := ha hq
    repeat' (first | refine Yu ?_ | refine Yp ?_ | refine z9 ?_ | refine zh ?_ | refine zi ?_ | refine zj ?_ | (refine Yq ?_ ?_ <;> intro hc <;> try first | contradiction | omega) | refine Yx ?_ | refine Yz ?_ | refine Yy ?_)
    all_goals exact ⟨rfl, (d, a, b), (Sc (Sc (Sc (Sc (Sc (Sc Sn)))))), G, by omega, Bh, Bf, Bx⟩
 rintro ⟨d, a, b⟩ h120 ⟨G, N12, Bh, Bf, Bx⟩
 have L12 := G.le
 show WC _ _ _ _ _ _ [(3, .ptr h.n 0), (4, .ptr h1.n 0), (5, .ptr hb.n 0), (7, .str d), (8, .str a), (9, .str b)] _ _
 refine wc_cut (ι := List Nat × List Nat × List Nat) (fun q => [(3, .ptr h.n 0), (4, .ptr h1.n 0), (5, .ptr hb.n 0), (7, .str q.1), (8, .str q.2.1), (9, .str q.2.2)]) (fun (_ : List Nat × List Nat × List Nat) h' => Grew he h' ∧ h'.n ≤ he.n + 6 ∧ h'.get h.n = some (.cells [cv]) ∧ h'.get h1.n = some (.cells (funRow f vv dv)) ∧ h'.get hb.n = some (.cells (insRow x av))) ?_ ?_
 ·repeat' (first | refine Yu ?_ | refine Yp ?_ | refine z9 ?_ | refine zh ?_ | refine zi ?_ | refine zj ?_ | (refine Yq ?_ ?_ <;> intro hc <;> try first | contradiction | omega) | refine Yx ?_ | refine Yz ?_ | refine Yy ?_)
  refine wo_call rfl rfl (Has_ev (f := 98) (hcx.mono (by omega)) (by omega) fun h13 g13 n13 => ?_)
  have g13l := g13.le
  have G := G.trans g13
  have Bh := (g13.get h.n (by omega)).trans Bh
  have Bf := (g13.get h1.n (by omega)).trans Bf
  have Bx := (g13.get hb.n (by omega)).trans Bx
  have VG := VA.grew (g0.trans G)
  cases hq : hasF (dI 0 x) 98
  ·repeat' (first | refine Yu ?_ | refine Yp ?_ | refine z9 ?_ | refine zh ?_ | refine zi ?_ | refine zj ?_ | (refine Yq ?_ ?_ <;> intro hc <;> try first | contradiction | omega) | refine Yx ?_ | refine Yz ?_ | refine Yy ?_)
   exact ⟨rfl, (d, a, b), (Sc (Sc (Sc (Sc (Sc (Sc Sn)))))), G, by omega, Bh, Bf, Bx⟩
  ·by_cases hr : 0 ≤ dI 3 x ∧ dI 3 x < vl.length
   ·have hvi := hvid (by omega)
    have hsv := hall vid (by omega)
    obtain ⟨hw, _⟩ := hvrow (dI 3 x).toNat (by omega)
    repeat' (first | refine Yu ?_ | refine Yp ?_ | refine z9 ?_ | refine zh ?_ | refine zi ?_ | refine zj ?_ | (refine Yq ?_ ?_ <;> intro hc <;> try first | contradiction | omega) | refine Yx ?_ | refine Yz ?_ | refine Yy ?_)
    all_goals first
     | exact ⟨rfl, (d, a, _), (Sc (Sc (Sc (Sc (Sc (Sc Sn)))))), G, by omega, Bh, Bf, Bx⟩
     | exact ⟨rfl, (d, a, b), (Sc (Sc (Sc (Sc (Sc (Sc Sn)))))), G, by omega, Bh, Bf, Bx⟩
   ·exact absurd (hb2 hq) hr
 rintro ⟨d, a, b⟩ h130 ⟨G, N13, Bh, Bf, Bx⟩
 have L13 := G.le
 show WC _ _ _ _ _ _ [(3, .ptr h.n 0), (4, .ptr h1.n 0), (5, .ptr hb.n 0), (7, .str d), (8, .str a), (9, .str b)] _ _
 repeat' (first | refine Yu ?_ | refine Yp ?_ | refine z9 ?_ | refine zh ?_ | refine zi ?_ | refine zj ?_ | (refine Yq ?_ ?_ <;> intro hc <;> try first | contradiction | omega) | (refine wo_call rfl rfl (Fits12_ev hall (hcx.mono (by omega)) (by omega) h12 (C.grew (g0.trans G)) fun b9 h9 g9 n9 => ?_)) | refine Yx ?_ | refine Yz ?_ | refine Yy ?_)
 all_goals first
  | exact ⟨Or.inr rfl, _, rfl, k _ _ (g0.trans G) (by omega)⟩
  | exact ⟨Or.inr rfl, _, rfl, k _ _ ((g0.trans G).trans g9) (by omega)⟩
theorem checkCall_ev {cl vl al : List Dt} {cv vv dv av : AV} {f x : Dt} (hall : ∀ id, id < 10000000 → seen c.vis id = true) (hcx : Cx c h) (hn : h.n + 2000 < 10000000) (h12 : cl.length ≤ 12) (h20 : al.length ≤ 20) (C : Sl 70 true h ShClass cl cv) (V : Sl 70 true h ShField vl vv) (A : Sl 70 true h (.int .i64) al av) (hA : dI 0 x = 9 → 0 ≤ dI 2 x ∧ dI 2 x < vl.length) (ha : ∀ j, j < al.length → 0 ≤ iOf (el al j) ∧ iOf (el al j) < vl.length) (hd : (0 ≤ dI 1 x ∧ dI 1 x < vl.length) ∨ dI 1 x = -1) (k : ∀ e h', Grew h h' → h'.n ≤ h.n + 2000 → K (.int .i64 e) h') : Gv Tryz.prog X0 Mx c 275 [.agg [cv], .agg (funRow f vv dv), .agg (insRow x av)] h K := by
 have hnt : (112 : Nat) ≤ 1000000 := by decide
 refine gv_fn x_checkCall (Mx_no rfl _ _ _) (by simp) hnt ?_
 unfold s_checkCall SR.c SR.g SR.l SR.m SR.o SR.p SR.s
 obtain ⟨vid, vrows, VA, hvr, hvid, hvrow⟩ := at_Field V
 obtain ⟨aid, arows, AA, har, haid, harow⟩ := at_int A
 have hs1 := hall h.n (by omega)
 have hlow := hcx.low
 refine Yc (Yd (rg_go hnt rfl rfl (wo_boxA rfl rfl (by omega) fun h1 n1 b1 g1 => ?_)))
 have hs2 := hall h1.n (by omega)
 refine rg_go hnt rfl rfl (wo_boxA rfl rfl (by omega) fun hb nb bb gb => ?_)
 have hs3 := hall hb.n (by omega)
 refine rg_go hnt rfl rfl (wo_boxA rfl rfl (by omega) fun he ne be ge => ?_)
 have hs4 := hall he.n (by omega)
 have Bh : he.get h.n = some (.cells [cv]) := (ge.get h.n (by omega)).trans ((gb.get h.n (by omega)).trans b1)
 have Bf : he.get h1.n = some (.cells (funRow f vv dv)) := (ge.get h1.n (by omega)).trans bb
 have Bx : he.get hb.n = some (.cells (insRow x av)) := be
 have g0 := (g1.trans gb).trans ge
 have Le : he.n = h.n + 3 := by omega
 repeat' (first | refine Yu ?_ | refine Yp ?_ | refine z6 ?_ | refine z8 ?_ | refine z9 ?_ | refine za ?_ | refine zh ?_ | refine zi ?_ | refine zj ?_ | refine zk ?_ | (refine Yq ?_ ?_ <;> intro hc <;> try first | contradiction | omega) | refine Yd ?_ | refine Ye ?_ | refine Yf ?_ | refine zu ?_ | refine zv ?_ | refine Yg ?_ | refine Yh ?_ | refine Yi ?_ | refine Yv ?_ | refine zx ?_ | refine Yz ?_ | refine Yy ?_)
 refine Yc ?_
 repeat' (first | refine Yu ?_ | refine Yp ?_ | refine z6 ?_ | refine z8 ?_ | refine z9 ?_ | refine za ?_ | refine zh ?_ | refine zi ?_ | refine zj ?_ | refine zk ?_ | (refine Yq ?_ ?_ <;> intro hc <;> try first | contradiction | omega) | refine Yd ?_ | refine Ye ?_ | refine Yf ?_ | refine zu ?_ | refine zv ?_ | refine Yg ?_ | refine Yh ?_ | refine Yi ?_ | refine Yv ?_ | refine zx ?_ | refine Yz ?_ | refine Yy ?_)
 refine rg_bs hnt (hcx.mono (by omega)) (by omega) rfl rfl rfl rfl (by rfl) (by rfl) fun hm nm0 Bm gm => ?_
 have G := gm
 have Lm : hm.n = he.n + 1 := nm0
 have Bh := (gm.get h.n (by omega)).trans Bh
 have Bf := (gm.get h1.n (by omega)).trans Bf
 have Bx := (gm.get hb.n (by omega)).trans Bx
 repeat' (first | refine Yu ?_ | refine Yp ?_ | refine z6 ?_ | refine z8 ?_ | refine z9 ?_ | refine za ?_ | refine zh ?_ | refine zi ?_ | refine zj ?_ | refine zk ?_ | (refine Yq ?_ ?_ <;> intro hc <;> try first | contradiction | omega) | refine Yd ?_ | refine Ye ?_ | refine Yf ?_ | refine zu ?_ | refine zv ?_ | refine Yg ?_ | refine Yh ?_ | refine Yi ?_ | refine Yv ?_ | refine zx ?_ | refine Yz ?_ | refine Yy ?_)
 refine Yc ?_
 repeat' (first | refine Yu ?_ | refine Yp ?_ | refine z6 ?_ | refine z8 ?_ | refine z9 ?_ | refine za ?_ | refine zh ?_ | refine zi ?_ | refine zj ?_ | refine zk ?_ | (refine Yq ?_ ?_ <;> intro hc <;> try first | contradiction | omega) | refine Yd ?_ | refine Ye ?_ | refine Yf ?_ | refine zu ?_ | refine zv ?_ | refine Yg ?_ | refine Yh ?_ | refine Yi ?_ | refine Yv ?_ | refine zx ?_ | refine Yz ?_ | refine Yy ?_)
 refine wc_cut2 (ι := List Nat × List Nat × Bool × Bool × List Dt × AV) (fun q => [(3, .ptr h.n 0), (4, .ptr h1.n 0), (5, .ptr hb.n 0), (7, .ptr he.n 0), (8, .bool q.2.2.2.1)]) (fun q h' => Grew he h' ∧ h'.n ≤ he.n + 110 ∧ he.n < h'.n ∧ h'.get h.n = some (.cells [cv]) ∧ h'.get h1.n = some (.cells (funRow f vv dv)) ∧ h'.get hb.n = some (.cells (insRow x av)) ∧ h'.get he.n = some (.cells [.str q.1, .bool q.2.2.1, q.2.2.2.2.2, .str q.2.1]) ∧ Sl 70 true h .str q.2.2.2.2.1 q.2.2.2.2.2) ?_ ?_
 ·by_cases hop : dI 0 x = 9
  ·obtain ⟨hwA, _⟩ := hvrow (dI 2 x).toNat (by have := hA hop; omega)
   obtain ⟨q1, q2⟩ := hA hop
   have hvi := hvid (by omega)
   have hsv := hall vid (by omega)
   have VG := VA.grew (g0.trans G)
   repeat' (first | refine Yu ?_ | refine Yp ?_ | refine z6 ?_ | refine z8 ?_ | refine z9 ?_ | refine za ?_ | refine zh ?_ | refine zi ?_ | refine zj ?_ | refine zk ?_ | (refine Yq ?_ ?_ <;> intro hc <;> try first | contradiction | omega) | refine Yx ?_ | refine Yv ?_ | refine zx ?_ | refine Yz ?_ | refine Yy ?_)
   refine wo_call rfl rfl (isClass_ev hall (hcx.mono (by omega)) (by omega) (C.grew (g0.trans G)) (fun hc h4 g4 n4 => ?_) (fun hc h4 g4 n4 => ?_))
   rotate_left
   ·have L4 := g4.le
    have G := G.trans g4
    have Bh := (g4.get h.n (by omega)).trans Bh
    have Bf := (g4.get h1.n (by omega)).trans Bf
    have Bx := (g4.get hb.n (by omega)).trans Bx
    have Bm := (g4.get he.n (by omega)).trans Bm
    have VG := VA.grew (g0.trans G)
    repeat' (first | refine Yu ?_ | refine Yp ?_ | refine z6 ?_ | refine z8 ?_ | refine z9 ?_ | refine za ?_ | refine zh ?_ | refine zi ?_ | refine zj ?_ | refine zk ?_ | (refine Yq ?_ ?_ <;> intro hc <;> try first | contradiction | omega) | refine Yx ?_ | refine Yv ?_ | refine zx ?_ | refine Yz ?_ | refine Yy ?_)
    all_goals exact Or.inr ⟨rfl, Or.inr rfl, _, rfl, k _ _ (g0.trans G) (by omega)⟩
   have L4 := g4.le
   have G := G.trans g4
   have Bh := (g4.get h.n (by omega)).trans Bh
   have Bf := (g4.get h1.n (by omega)).trans Bf
   have Bx := (g4.get hb.n (by omega)).trans Bx
   have Bm := (g4.get he.n (by omega)).trans Bm
   have VG := VA.grew (g0.trans G)
   repeat' (first | refine Yu ?_ | refine Yp ?_ | refine z6 ?_ | refine z8 ?_ | refine z9 ?_ | refine za ?_ | refine zh ?_ | refine zi ?_ | refine zj ?_ | refine zk ?_ | (refine Yq ?_ ?_ <;> intro hc <;> try first | contradiction | omega) | refine Yx ?_ | refine Yv ?_ | refine zx ?_ | refine Yz ?_ | refine Yy ?_)
   all_goals try (first | exact Or.inr ⟨rfl, Or.inr rfl, _, rfl, k _ _ (g0.trans G) (by omega)⟩)
   refine wo_call rfl rfl (Lookup_ev hall (hcx.mono (by omega)) (by omega) h12 (g0.trans G) C fun a nm r st b pd pv h5 g5 n5 P => ?_)
   have L5 := g5.le
   have G := G.trans g5
   have Bh := (g5.get h.n (by omega)).trans Bh
   have Bf := (g5.get h1.n (by omega)).trans Bf
   have Bx := (g5.get hb.n (by omega)).trans Bx
   have Bm := (g5.get he.n (by omega)).trans Bm
   have VG := VA.grew (g0.trans G)
   have oo : ones [.str nm, .bool st, pv, .str r] = true := by have po := P.one; simp only [ones, po]; rfl
   repeat' (first | refine Yu ?_ | refine Yp ?_ | refine z6 ?_ | refine z8 ?_ | refine z9 ?_ | refine za ?_ | refine zh ?_ | refine zi ?_ | refine zj ?_ | refine zk ?_ | (refine Yq ?_ ?_ <;> intro hc <;> try first | contradiction | omega) | refine Yx ?_ | refine Yv ?_ | refine zx ?_ | refine Yz ?_ | refine Yy ?_)
   refine rg_go0 hnt rfl (wo_storeA rfl rfl (by omega) (hall he.n (by omega)) Bm rfl (by exact oo) (by decide) (by omega) (splice_all rfl) fun h7 n7 b7 k7 => ?_)
   have gD : Grew he h7 := ⟨by omega, fun i hi => (k7 i (by omega)).trans (G.get i hi)⟩
   have Bh := (k7 h.n (by omega)).trans Bh
   have Bf := (k7 h1.n (by omega)).trans Bf
   have Bx := (k7 hb.n (by omega)).trans Bx
   cases b <;> cases st
   all_goals repeat' (first | refine Yu ?_ | refine Yp ?_ | refine z6 ?_ | refine z8 ?_ | refine z9 ?_ | refine za ?_ | refine zh ?_ | refine zi ?_ | refine zj ?_ | refine zk ?_ | (refine Yq ?_ ?_ <;> intro hc <;> try first | contradiction | omega) | refine Yx ?_ | refine Yv ?_ | refine zx ?_ | refine Yz ?_ | refine Yy ?_)
   all_goals first
    | exact Or.inl ⟨rfl, (nm, r, true, true, pd, pv), (Sc (Sc (Sc (Sc (Sc Sn))))), gD, by omega, by omega, Bh, Bf, Bx, b7, P⟩
    | exact Or.inl ⟨rfl, (nm, r, true, false, pd, pv), (Sc (Sc (Sc (Sc (Sc Sn))))), gD, by omega, by omega, Bh, Bf, Bx, b7, P⟩
    | exact Or.inl ⟨rfl, (nm, r, false, true, pd, pv), (Sc (Sc (Sc (Sc (Sc Sn))))), gD, by omega, by omega, Bh, Bf, Bx, b7, P⟩
    | exact Or.inl ⟨rfl, (nm, r, false, false, pd, pv), (Sc (Sc (Sc (Sc (Sc Sn))))), gD, by omega, by omega, Bh, Bf, Bx, b7, P⟩
  ·repeat' (first | refine Yu ?_ | refine Yp ?_ | refine z6 ?_ | refine z8 ?_ | refine z9 ?_ | refine za ?_ | refine zh ?_ | refine zi ?_ | refine zj ?_ | refine zk ?_ | (refine Yq ?_ ?_ <;> intro hc <;> try first | contradiction | omega) | refine Yx ?_ | refine Yv ?_ | refine zx ?_ | refine Yz ?_ | refine Yy ?_)
   refine wo_call rfl rfl (declares_ev hall (hcx.mono (by omega)) (by omega) h12 (g0.trans G) C fun nm r st b pd pv h5 g5 n5 P => ?_)
   have L5 := g5.le
   have G := G.trans g5
   have Bh := (g5.get h.n (by omega)).trans Bh
   have Bf := (g5.get h1.n (by omega)).trans Bf
   have Bx := (g5.get hb.n (by omega)).trans Bx
   have Bm := (g5.get he.n (by omega)).trans Bm
   have VG := VA.grew (g0.trans G)
   have oo : ones [.str nm, .bool st, pv, .str r] = true := by have po := P.one; simp only [ones, po]; rfl
   repeat' (first | refine Yu ?_ | refine Yp ?_ | refine z6 ?_ | refine z8 ?_ | refine z9 ?_ | refine za ?_ | refine zh ?_ | refine zi ?_ | refine zj ?_ | refine zk ?_ | (refine Yq ?_ ?_ <;> intro hc <;> try first | contradiction | omega) | refine Yx ?_ | refine Yv ?_ | refine zx ?_ | refine Yz ?_ | refine Yy ?_)
   refine rg_go0 hnt rfl (wo_storeA rfl rfl (by omega) (hall he.n (by omega)) Bm rfl (by exact oo) (by decide) (by omega) (splice_all rfl) fun h7 n7 b7 k7 => ?_)
   have gD : Grew he h7 := ⟨by omega, fun i hi => (k7 i (by omega)).trans (G.get i hi)⟩
   have Bh := (k7 h.n (by omega)).trans Bh
   have Bf := (k7 h1.n (by omega)).trans Bf
   have Bx := (k7 hb.n (by omega)).trans Bx
   repeat' (first | refine Yu ?_ | refine Yp ?_ | refine z6 ?_ | refine z8 ?_ | refine z9 ?_ | refine za ?_ | refine zh ?_ | refine zi ?_ | refine zj ?_ | refine zk ?_ | (refine Yq ?_ ?_ <;> intro hc <;> try first | contradiction | omega) | refine Yx ?_ | refine Yv ?_ | refine zx ?_ | refine Yz ?_ | refine Yy ?_)
   exact Or.inl ⟨rfl, (nm, r, st, b, pd, pv), (Sc (Sc (Sc (Sc (Sc Sn))))), gD, by omega, by omega, Bh, Bf, Bx, b7, P⟩
 rintro ⟨nm, r, st, b, pd, pv⟩ h6 ⟨G, N6, M6, Bh, Bf, Bx, Bm, P⟩
 replace G : Grew he h6 := G
 replace N6 : h6.n ≤ he.n + 110 := N6
 replace M6 : he.n < h6.n := M6
 replace Bm : h6.get he.n = some (.cells [.str nm, .bool st, pv, .str r]) := Bm
 replace P : Sl 70 true h .str pd pv := P
 show WC _ _ _ _ _ _ ([(3, .ptr h.n 0), (4, .ptr h1.n 0), (5, .ptr hb.n 0), (7, .ptr he.n 0), (8, .bool b)]) _ _
 have L6 := G.le
 obtain ⟨pid, prows, PA, hpr, hpid, hprow⟩ := at_str P
 have hal := A.le
 refine wc_cut2 (ι := Unit) (fun _ => [(3, .ptr h.n 0), (4, .ptr h1.n 0), (5, .ptr hb.n 0), (7, .ptr he.n 0)]) (fun _ h' => h' = h6) ?_ ?_
 ·cases b
  ·repeat' (first | refine Yu ?_ | refine Yp ?_ | refine z6 ?_ | refine z8 ?_ | refine z9 ?_ | refine za ?_ | refine zh ?_ | refine zi ?_ | refine zj ?_ | refine zk ?_ | (refine Yq ?_ ?_ <;> intro hc <;> try first | contradiction | omega) | refine Yx ?_ | refine Yv ?_ | refine zx ?_ | refine Yz ?_ | refine Yy ?_)
   exact Or.inr ⟨rfl, Or.inr rfl, _, rfl, k _ _ (g0.trans G) (by omega)⟩
  ·repeat' (first | refine Yu ?_ | refine Yp ?_ | refine z6 ?_ | refine z8 ?_ | refine z9 ?_ | refine za ?_ | refine zh ?_ | refine zi ?_ | refine zj ?_ | refine zk ?_ | (refine Yq ?_ ?_ <;> intro hc <;> try first | contradiction | omega) | refine Yx ?_ | refine Yv ?_ | refine zx ?_ | refine Yz ?_ | refine Yy ?_)
   exact Or.inl ⟨rfl, (), (Sc (Sc (Sc (Sc Sn)))), rfl⟩
 rintro _ h' hh
 have hh2 := hh.symm
 subst hh2
 have AG := AA.grew (g0.trans G)
 have PG := PA.grew (g0.trans G)
 refine wc_cut2 (ι := Unit) (fun _ => [(3, .ptr h.n 0), (4, .ptr h1.n 0), (5, .ptr hb.n 0), (7, .ptr he.n 0)]) (fun _ h' => h' = h6 ∧ pd.length = al.length) ?_ ?_
 ·repeat' (first | refine Yu ?_ | refine Yp ?_ | refine z6 ?_ | refine z8 ?_ | refine z9 ?_ | refine za ?_ | refine zh ?_ | refine zi ?_ | refine zj ?_ | refine zk ?_ | (refine Yq ?_ ?_ <;> intro hc <;> try first | contradiction | omega) | refine Yx ?_ | refine Yv ?_ | refine zx ?_ | refine Yz ?_ | refine Yy ?_)
  all_goals first
   | exact Or.inr ⟨rfl, Or.inr rfl, _, rfl, k _ _ (g0.trans G) (by omega)⟩
   | exact Or.inl ⟨rfl, (), (Sc (Sc (Sc (Sc Sn)))), rfl, by omega⟩
 rintro _ h' ⟨hh, hlen⟩
 have hh2 := hh.symm
 subst hh2
 refine wc_cut2 (ι := Unit) (fun _ => [(3, .ptr h.n 0), (4, .ptr h1.n 0), (5, .ptr hb.n 0), (7, .ptr he.n 0)]) (fun _ h' => Grew he h' ∧ h'.n ≤ he.n + 1320 ∧ he.n < h'.n ∧ h'.get h.n = some (.cells [cv]) ∧ h'.get h1.n = some (.cells (funRow f vv dv)) ∧ h'.get hb.n = some (.cells (insRow x av)) ∧ h'.get he.n = some (.cells [.str nm, .bool st, pv, .str r])) ?_ ?_
 ·repeat' (first | refine Yu ?_ | refine Yp ?_ | refine z6 ?_ | refine z8 ?_ | refine z9 ?_ | refine za ?_ | refine zh ?_ | refine zi ?_ | refine zj ?_ | refine zk ?_ | (refine Yq ?_ ?_ <;> intro hc <;> try first | contradiction | omega) | refine Yx ?_ | refine Yv ?_ | refine zx ?_ | refine Yz ?_ | refine Yy ?_)
  refine wc_loopE (ι := Nat) (fun j => [(3, .ptr h.n 0), (4, .ptr h1.n 0), (5, .ptr hb.n 0), (7, .ptr he.n 0), (10, .int .i64 (j : Int))]) (fun j h' => Grew he h' ∧ h'.n ≤ he.n + 110 + 60 * j ∧ he.n < h'.n ∧ h'.get h.n = some (.cells [cv]) ∧ h'.get h1.n = some (.cells (funRow f vv dv)) ∧ h'.get hb.n = some (.cells (insRow x av)) ∧ h'.get he.n = some (.cells [.str nm, .bool st, pv, .str r]) ∧ j ≤ al.length) (fun j => al.length - j) ?_ 0 ⟨G, by omega, by omega, Bh, Bf, Bx, Bm, Nat.zero_le _⟩ (Sc (Sc (Sc (Sc (Sc Sn)))))
  clear G N6 Bh Bf Bx Bm AG PG
  rintro j h7 ⟨G, N7, M7, Bh, Bf, Bx, Bm, hj⟩
  have L7 := G.le
  have AG := AA.grew (g0.trans G)
  have PG := PA.grew (g0.trans G)
  have VG := VA.grew (g0.trans G)
  by_cases hlt : j < al.length
  ·obtain ⟨q1, q2⟩ := ha j hlt
   have hwa := harow j hlt
   have hwp := hprow j (by omega)
   have hsa := hall aid (by have := haid (by omega); omega)
   have hsp := hall pid (by have := hpid (by omega); omega)
   have hsv := hall vid (by have := hvid (by omega); omega)
   have hvi := hvid (by omega)
   have hai := haid (by omega)
   have hpi := hpid (by omega)
   obtain ⟨hwv, _⟩ := hvrow (iOf (el al j)).toNat (by omega)
   repeat' (first | refine Yu ?_ | refine Yp ?_ | refine z6 ?_ | refine z8 ?_ | refine z9 ?_ | refine za ?_ | refine zh ?_ | refine zi ?_ | refine zj ?_ | refine zk ?_ | (refine Yq ?_ ?_ <;> intro hc <;> try first | contradiction | omega) | refine Yx ?_ | refine Yv ?_ | refine zx ?_ | refine Yz ?_ | refine Yy ?_)
   refine rd_bar hnt rfl rfl (wo_call rfl rfl (Fits12_ev (fun id q => by by_cases z : id < h7.n; exact seen_old (by repeat (first | exact rs_nil | refine rs_add (by omega) ?_)) (by omega) z (hall id q); exact seen_here (by omega) (by unfold big; omega)) (Cx.mem (by omega)) (by omega) h12 (C.grew (g0.trans G)) fun bq h8 g8 n8 => ⟨(by repeat (first | exact unchF_nil | refine unchF_cons (by decide) ?_ | refine unchF_same (by assumption) ((g8.get _ (by omega)).trans (by assumption)) ?_)), ?_⟩))
   have L8 := g8.le
   have G := G.trans g8
   have Bh := (g8.get h.n (by omega)).trans Bh
   have Bf := (g8.get h1.n (by omega)).trans Bf
   have Bx := (g8.get hb.n (by omega)).trans Bx
   have Bm := (g8.get he.n (by omega)).trans Bm
   have VG := VA.grew (g0.trans G)
   cases bq
   all_goals repeat' (first | refine Yu ?_ | refine Yp ?_ | refine z6 ?_ | refine z8 ?_ | refine z9 ?_ | refine za ?_ | refine zh ?_ | refine zi ?_ | refine zj ?_ | refine zk ?_ | (refine Yq ?_ ?_ <;> intro hc <;> try first | contradiction | omega) | refine Yx ?_ | refine Yv ?_ | refine zx ?_ | refine Yz ?_ | refine Yy ?_)
   all_goals first
    | exact Or.inr ⟨rfl, Or.inr rfl, _, rfl, k _ _ (g0.trans G) (by omega)⟩
    | exact ⟨j + 1, by simp; omega, (Sc (Sc (Sc (Sc (Sc Sn))))), G, by omega, by omega, Bh, Bf, Bx, Bm, hlt⟩
  ·repeat' (first | refine Yu ?_ | refine Yp ?_ | refine z6 ?_ | refine z8 ?_ | refine z9 ?_ | refine za ?_ | refine zh ?_ | refine zi ?_ | refine zj ?_ | refine zk ?_ | (refine Yq ?_ ?_ <;> intro hc <;> try first | contradiction | omega) | refine Yx ?_ | refine Yv ?_ | refine zx ?_ | refine Yz ?_ | refine Yy ?_)
   exact Or.inl ⟨rfl, (), (Sc (Sc (Sc (Sc Sn)))), G, by omega, by omega, Bh, Bf, Bx, Bm⟩
 clear G N6 Bh Bf Bx Bm AG PG
 rintro _ h9 ⟨G, N9, M9, Bh, Bf, Bx, Bm⟩
 have L9 := G.le
 have VG := VA.grew (g0.trans G)
 by_cases hdm : dI 1 x = -1
 ·repeat' (first | refine Yu ?_ | refine Yp ?_ | refine z6 ?_ | refine z8 ?_ | refine z9 ?_ | refine za ?_ | refine zh ?_ | refine zi ?_ | refine zj ?_ | refine zk ?_ | (refine Yq ?_ ?_ <;> intro hc <;> try first | contradiction | omega) | refine Yx ?_ | refine Yv ?_ | refine zx ?_ | refine Yz ?_ | refine Yy ?_)
  all_goals exact ⟨Or.inr rfl, _, rfl, k _ _ (g0.trans G) (by omega)⟩
 ·have hdr : 0 ≤ dI 1 x ∧ dI 1 x < vl.length := by omega
  obtain ⟨hwd, _⟩ := hvrow (dI 1 x).toNat (by omega)
  have hvi := hvid (by omega)
  have hsv := hall vid (by omega)
  by_cases hre : r = []
  ·repeat' (first | refine Yu ?_ | refine Yp ?_ | refine z6 ?_ | refine z8 ?_ | refine z9 ?_ | refine za ?_ | refine zh ?_ | refine zi ?_ | refine zj ?_ | refine zk ?_ | (refine Yq ?_ ?_ <;> intro hc <;> try first | contradiction | omega) | refine Yx ?_ | refine Yv ?_ | refine zx ?_ | refine Yz ?_ | refine Yy ?_)
   all_goals exact ⟨Or.inr rfl, _, rfl, k _ _ (g0.trans G) (by omega)⟩
  ·repeat' (first | refine Yu ?_ | refine Yp ?_ | refine z6 ?_ | refine z8 ?_ | refine z9 ?_ | refine za ?_ | refine zh ?_ | refine zi ?_ | refine zj ?_ | refine zk ?_ | (refine Yq ?_ ?_ <;> intro hc <;> try first | contradiction | omega) | refine Yx ?_ | refine Yv ?_ | refine zx ?_ | refine Yz ?_ | refine Yy ?_)
   refine rd_bar hnt rfl rfl (wo_call rfl rfl (Fits12_ev (fun id q => by by_cases z : id < h9.n; exact seen_old (by repeat (first | exact rs_nil | refine rs_add (by omega) ?_)) (by omega) z (hall id q); exact seen_here (by omega) (by unfold big; omega)) (Cx.mem (by omega)) (by omega) h12 (C.grew (g0.trans G)) fun bq h10 g10 n10 => ⟨(by repeat (first | exact unchF_nil | refine unchF_cons (by decide) ?_ | refine unchF_same (by assumption) ((g10.get _ (by omega)).trans (by assumption)) ?_)), ?_⟩))
   have L10 := g10.le
   have G := G.trans g10
   have Bh := (g10.get h.n (by omega)).trans Bh
   have Bf := (g10.get h1.n (by omega)).trans Bf
   have Bx := (g10.get hb.n (by omega)).trans Bx
   have Bm := (g10.get he.n (by omega)).trans Bm
   have VG := VA.grew (g0.trans G)
   cases bq
   all_goals repeat' (first | refine Yu ?_ | refine Yp ?_ | refine z6 ?_ | refine z8 ?_ | refine z9 ?_ | refine za ?_ | refine zh ?_ | refine zi ?_ | refine zj ?_ | refine zk ?_ | (refine Yq ?_ ?_ <;> intro hc <;> try first | contradiction | omega) | refine Yx ?_ | refine Yv ?_ | refine zx ?_ | refine Yz ?_ | refine Yy ?_)
   all_goals exact ⟨Or.inr rfl, _, rfl, k _ _ (g0.trans G) (by omega)⟩
end Go.Proofs.YtmdceifbbmnfgaaGreatDoor.Ev
