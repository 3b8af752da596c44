/- Reference: types of instructions. -/
import Derived.Test.YtmdceifbbmnfgaaGreatDoorTfO
set_option linter.unusedVariables false
set_option linter.unusedSimpArgs false
set_option maxHeartbeats 4000000
namespace Go.Proofs.YtmdceifbbmnfgaaGreatDoor.Ev
open Go
open Classical
variable {c : C} {h : H} {K : AV → H → Prop}
theorem RgOk.useA {n m : Nat} {x : Dt} {al : List Dt} (R : RgOk n m x al) (q : hasF (dI 0 x) 97 = true) (r : dI 0 x ≠ 13 ∨ dI 2 x ≠ -1) : 0 ≤ dI 2 x ∧ dI 2 x < n := by
 refine R.uses _ ?_
 unfold usesF
 rw [if_pos ⟨q, r⟩]
 simp
theorem RgOk.useB {n m : Nat} {x : Dt} {al : List Dt} (R : RgOk n m x al) (q : hasF (dI 0 x) 98 = true) : 0 ≤ dI 3 x ∧ dI 3 x < n := by
 refine R.uses _ ?_
 unfold usesF
 rw [if_pos q]
 simp
theorem RgOk.useL {n m : Nat} {x : Dt} {al : List Dt} (R : RgOk n m x al) (q : hasF (dI 0 x) 108 = true) (j : Nat) (hj : j < al.length) : 0 ≤ iOf (el al j) ∧ iOf (el al j) < n := by
 refine R.uses _ ?_
 unfold usesF
 rw [if_pos q]
 have : iOf (el al j) ∈ al.map iOf := List.mem_map.2 ⟨el al j, by unfold el; rw [List.getD_eq_getElem?_getD, List.getElem?_eq_getElem hj]; exact List.getElem_mem hj, rfl⟩
 exact List.mem_append_right _ this
theorem RgOk.dstN {n m : Nat} {x : Dt} {al : List Dt} (R : RgOk n m x al) (q : hasF (dI 0 x) 100 = true) (r : dI 0 x ≠ 9 ∧ dI 0 x ≠ 10) : 0 ≤ dI 1 x ∧ dI 1 x < n := by
 rcases R.dst q with q | ⟨q, _⟩
 ·exact q
 ·omega
theorem types12_ev {m : Nat} {cl vl al : List Dt} {cv vv dv av : AV} {f x : Dt} (hall : ∀ id, id < 10000000 → seen c.vis id = true) (hcx : Cx c h) (hn : h.n + 2100 < 10000000) (h12 : cl.length ≤ 12) (h20 : al.length ≤ 20) (C : Sl 70 true h ShClass cl cv) (V : Sl 70 true h ShField vl vv) (A : Sl 70 true h (.int .i64) al av) (Ro : RgOk vl.length m x al) (k : ∀ e h', Grew h h' → h'.n ≤ h.n + 2100 → K (.int .i64 e) h') : Gv Tryz.prog X0 Mx c 161 [.agg [cv], .agg (funRow f vv dv), .agg (insRow x av)] h K := by
 have hnt : (57 : Nat) ≤ 1000000 := by decide
 refine gv_fn x_types12 (Mx_no rfl _ _ _) (by simp) hnt ?_
 unfold s_types12 SR.c SR.l SR.m SR.o SR.p
 obtain ⟨vid, vrows, VA, hvr, hvid, hvrow⟩ := at_Field V
 have hs1 := hall h.n (by omega)
 have hlow := hcx.low
 refine Yc (Yd (rg_go hnt rfl rfl (wo_boxA rfl rfl (by omega) fun h1 n1 b1 g1 => ?_)))
 have hs2 := hall h1.n (by omega)
 refine rg_go hnt rfl rfl (wo_boxA rfl rfl (by omega) fun hb nb bb gb => ?_)
 have hs3 := hall hb.n (by omega)
 refine rg_go hnt rfl rfl (wo_boxA rfl rfl (by omega) fun he ne be ge => ?_)
 have Bh : he.get h.n = some (.cells [cv]) := (ge.get h.n (by omega)).trans ((gb.get h.n (by omega)).trans b1)
 have Bf : he.get h1.n = some (.cells (funRow f vv dv)) := (ge.get h1.n (by omega)).trans bb
 have Bx : he.get hb.n = some (.cells (insRow x av)) := be
 have g0 := (g1.trans gb).trans ge
 have G := Grew.refl he
 have Le : he.n = h.n + 3 := by omega
 by_cases o1 : dI 0 x = 6 ∨ dI 0 x = 15
 ·have hF : hasF (dI 0 x) 100 = true := by rcases o1 with q | q <;> rw [q] <;> decide
  have hdr := Ro.dstN hF (by omega)
  have hvi := hvid (by omega)
  have hsv := hall vid (by omega)
  have VG := VA.grew (g0.trans G)
  obtain ⟨hwd, _⟩ := hvrow (dI 1 x).toNat (by omega)
  repeat' (first | refine Yu ?_ | refine Yp ?_ | refine z9 ?_ | refine zh ?_ | refine zi ?_ | refine zj ?_ | (refine Yq ?_ ?_ <;> intro hc <;> try first | contradiction | omega) | (refine zt ?_ ?_ <;> intro hc) | refine Yx ?_ | refine Yv ?_ | refine zx ?_ | refine Yz ?_ | refine Yy ?_)
  all_goals refine wo_call rfl rfl (isClass_ev hall (hcx.mono (by omega)) (by omega) (C.grew (g0.trans G)) (fun hc h4 g4 n4 => ?_) (fun hc h4 g4 n4 => ?_))
  all_goals
   have L4 := g4.le
   have G := G.trans g4
   have Bh := (g4.get h.n (by omega)).trans Bh
   have Bf := (g4.get h1.n (by omega)).trans Bf
   have Bx := (g4.get hb.n (by omega)).trans Bx
   have VG := VA.grew (g0.trans G)
   repeat' (first | refine Yu ?_ | refine Yp ?_ | refine z9 ?_ | refine zh ?_ | refine zi ?_ | refine zj ?_ | (refine Yq ?_ ?_ <;> intro hc <;> try first | contradiction | omega) | (refine zt ?_ ?_ <;> intro hc) | refine Yx ?_ | refine Yv ?_ | refine zx ?_ | refine Yz ?_ | refine Yy ?_)
   try exact ⟨Or.inr rfl, _, rfl, k _ _ (g0.trans G) (by omega)⟩
  all_goals
   refine rd_bar hnt rfl rfl (wo_call rfl rfl (Fits12_ev (fun id q => by by_cases z : id < h4.n; exact seen_old (by repeat (first | exact rs_nil | refine rs_add (by omega) ?_)) (by omega) z (hall id q); exact seen_here (by omega) (by unfold big; omega)) (Cx.mem (by omega)) (by omega) h12 (C.grew (g0.trans G)) fun bq h8 g8 n8 => ⟨(by repeat (first | exact unchF_nil | refine unchF_cons (by decide) ?_ | refine unchF_same (by assumption) ((g8.get _ (by omega)).trans (by assumption)) ?_)), ?_⟩))
   have L8 := g8.le
   have G := G.trans g8
   have Bh := (g8.get h.n (by omega)).trans Bh
   have Bf := (g8.get h1.n (by omega)).trans Bf
   have Bx := (g8.get hb.n (by omega)).trans Bx
   cases bq
   all_goals repeat' (first | refine Yu ?_ | refine Yp ?_ | refine z9 ?_ | refine zh ?_ | refine zi ?_ | refine zj ?_ | (refine Yq ?_ ?_ <;> intro hc <;> try first | contradiction | omega) | (refine zt ?_ ?_ <;> intro hc) | refine Yx ?_ | refine Yv ?_ | refine zx ?_ | refine Yz ?_ | refine Yy ?_)
   all_goals exact ⟨Or.inr rfl, _, rfl, k _ _ (g0.trans G) (by omega)⟩
 by_cases o2 : dI 0 x = 7 ∨ dI 0 x = 8
 ·have hF : hasF (dI 0 x) 97 = true := by rcases o2 with q | q <;> rw [q] <;> decide
  have a1 := Ro.useA hF (by omega)
  repeat' (first | refine Yu ?_ | refine Yp ?_ | refine z9 ?_ | refine zh ?_ | refine zi ?_ | refine zj ?_ | (refine Yq ?_ ?_ <;> intro hc <;> try first | contradiction | omega) | (refine zt ?_ ?_ <;> intro hc) | refine Yx ?_ | refine Yv ?_ | refine zx ?_ | refine Yz ?_ | refine Yy ?_)
  all_goals refine wo_call rfl rfl (access_ev (al := al) hall (hcx.mono (by omega)) (by omega) h12 (C.grew (g0.trans G)) (V.grew (g0.trans G)) o2 a1 (fun q => Ro.dstN (by rw [q]; decide) (by omega)) (fun q => Ro.useB (by rw [q]; decide)) fun e h4 g4 n4 => ?_)
  all_goals
   have L4 := g4.le
   have G := G.trans g4
   have Bh := (g4.get h.n (by omega)).trans Bh
   have Bf := (g4.get h1.n (by omega)).trans Bf
   have Bx := (g4.get hb.n (by omega)).trans Bx
   repeat' (first | refine Yu ?_ | refine Yp ?_ | refine z9 ?_ | refine zh ?_ | refine zi ?_ | refine zj ?_ | (refine Yq ?_ ?_ <;> intro hc <;> try first | contradiction | omega) | (refine zt ?_ ?_ <;> intro hc) | refine Yx ?_ | refine Yv ?_ | refine zx ?_ | refine Yz ?_ | refine Yy ?_)
   exact ⟨Or.inr rfl, _, rfl, k _ _ (g0.trans G) (by omega)⟩
 by_cases o3 : dI 0 x = 9 ∨ dI 0 x = 10
 ·repeat' (first | refine Yu ?_ | refine Yp ?_ | refine z9 ?_ | refine zh ?_ | refine zi ?_ | refine zj ?_ | (refine Yq ?_ ?_ <;> intro hc <;> try first | contradiction | omega) | (refine zt ?_ ?_ <;> intro hc) | refine Yx ?_ | refine Yv ?_ | refine zx ?_ | refine Yz ?_ | refine Yy ?_)
  all_goals refine wo_call rfl rfl (checkCall_ev (al := al) hall (hcx.mono (by omega)) (by omega) h12 h20 (C.grew (g0.trans G)) (V.grew (g0.trans G)) (A.grew (g0.trans G)) (fun q => Ro.useA (by rw [q]; decide) (by omega)) (Ro.useL (by rcases o3 with q | q <;> rw [q] <;> decide)) (by rcases Ro.dst (by rcases o3 with q | q <;> rw [q] <;> decide) with q | q; exact Or.inl q; exact Or.inr q.2) fun e h4 g4 n4 => ?_)
  all_goals
   have L4 := g4.le
   have G := G.trans g4
   have Bh := (g4.get h.n (by omega)).trans Bh
   have Bf := (g4.get h1.n (by omega)).trans Bf
   have Bx := (g4.get hb.n (by omega)).trans Bx
   repeat' (first | refine Yu ?_ | refine Yp ?_ | refine z9 ?_ | refine zh ?_ | refine zi ?_ | refine zj ?_ | (refine Yq ?_ ?_ <;> intro hc <;> try first | contradiction | omega) | (refine zt ?_ ?_ <;> intro hc) | refine Yx ?_ | refine Yv ?_ | refine zx ?_ | refine Yz ?_ | refine Yy ?_)
   exact ⟨Or.inr rfl, _, rfl, k _ _ (g0.trans G) (by omega)⟩
 have iA : hasF (dI 0 x) 97 = true → ¬ (0 ≤ dI 2 x ∧ ¬ dI 2 x < vl.length) := fun q => by
  by_cases r : dI 0 x ≠ 13 ∨ dI 2 x ≠ -1
  ·have := Ro.useA q r; omega
  ·omega
 by_cases o4 : dI 0 x = 13
 ·repeat' (first | refine Yu ?_ | refine Yp ?_ | refine z9 ?_ | refine zh ?_ | refine zi ?_ | refine zj ?_ | (refine Yq ?_ ?_ <;> intro hc <;> try first | contradiction | omega) | (refine zt ?_ ?_ <;> intro hc) | refine Yx ?_ | refine Yv ?_ | refine zx ?_ | refine Yz ?_ | refine Yy ?_)
  all_goals try exact ⟨Or.inr rfl, _, rfl, k _ _ (g0.trans G) (by omega)⟩
  all_goals refine wo_call rfl rfl (ints_ev hall (hcx.mono (by omega)) (by omega) h12 (C.grew (g0.trans G)) (V.grew (g0.trans G)) (fun q => Ro.dstN q (by omega)) iA (fun q => Ro.useB q) fun bq h4 g4 n4 => ?_)
  all_goals
   have L4 := g4.le
   have G := G.trans g4
   have Bh := (g4.get h.n (by omega)).trans Bh
   have Bf := (g4.get h1.n (by omega)).trans Bf
   have Bx := (g4.get hb.n (by omega)).trans Bx
   cases bq
   all_goals repeat' (first | refine Yu ?_ | refine Yp ?_ | refine z9 ?_ | refine zh ?_ | refine zi ?_ | refine zj ?_ | (refine Yq ?_ ?_ <;> intro hc <;> try first | contradiction | omega) | (refine zt ?_ ?_ <;> intro hc) | refine Yx ?_ | refine Yv ?_ | refine zx ?_ | refine Yz ?_ | refine Yy ?_)
   all_goals exact ⟨Or.inr rfl, _, rfl, k _ _ (g0.trans G) (by omega)⟩
 ·repeat' (first | refine Yu ?_ | refine Yp ?_ | refine z9 ?_ | refine zh ?_ | refine zi ?_ | refine zj ?_ | (refine Yq ?_ ?_ <;> intro hc <;> try first | contradiction | omega) | (refine zt ?_ ?_ <;> intro hc) | refine Yx ?_ | refine Yv ?_ | refine zx ?_ | refine Yz ?_ | refine Yy ?_)
  all_goals refine wo_call rfl rfl (ints_ev hall (hcx.mono (by omega)) (by omega) h12 (C.grew (g0.trans G)) (V.grew (g0.trans G)) (fun q => Ro.dstN q (by omega)) iA (fun q => Ro.useB q) fun bq h4 g4 n4 => ?_)
  all_goals
   have L4 := g4.le
   have G := G.trans g4
   have Bh := (g4.get h.n (by omega)).trans Bh
   have Bf := (g4.get h1.n (by omega)).trans Bf
   have Bx := (g4.get hb.n (by omega)).trans Bx
   cases bq
   all_goals repeat' (first | refine Yu ?_ | refine Yp ?_ | refine z9 ?_ | refine zh ?_ | refine zi ?_ | refine zj ?_ | (refine Yq ?_ ?_ <;> intro hc <;> try first | contradiction | omega) | (refine zt ?_ ?_ <;> intro hc) | refine Yx ?_ | refine Yv ?_ | refine zx ?_ | refine Yz ?_ | refine Yy ?_)
   all_goals exact ⟨Or.inr rfl, _, rfl, k _ _ (g0.trans G) (by omega)⟩
theorem instr12_ev {i : Nat} {cl vl dl : List Dt} {cv vv dv : AV} {f : Dt} (hall : ∀ id, id < 10000000 → seen c.vis id = true) (hcx : Cx c h) (hn : h.n + 2200 < 10000000) (h12 : cl.length ≤ 12) (hi : i < dl.length) (h20 : (dL 7 (el dl i)).length ≤ 20) (C : Sl 70 true h ShClass cl cv) (V : Sl 70 true h ShField vl vv) (Cd : Sl 70 true h ShInstr dl dv) (k : ∀ e h', Grew h h' → h'.n ≤ h.n + 2200 → (e = 0 → RgOk vl.length dl.length (el dl i) (dL 7 (el dl i))) → K (.int .i64 e) h') : Gv Tryz.prog X0 Mx c 84 [.agg [cv], .agg (funRow f vv dv), .int .i64 (i : Int)] h K := by
 have hnt : (46 : Nat) ≤ 1000000 := by decide
 refine gv_fn x_instr12 (Mx_no rfl _ _ _) (by simp) hnt ?_
 unfold s_instr12 SR.g SR.m SR.o SR.s
 obtain ⟨did, drows, DA, hdr, hdid, hdrow⟩ := at_Instr Cd
 have hs1 := hall h.n (by omega)
 have hlow := hcx.low
 have hdi := hdid (by omega)
 have hsd := hall did (by omega)
 have hil := Cd.le
 obtain ⟨av, hw, A, oc⟩ := hdrow i hi
 refine Yc (Yd (rg_go hnt rfl rfl (wo_boxA rfl rfl (by omega) fun h1 n1 b1 g1 => ?_)))
 have hs2 := hall h1.n (by omega)
 refine rg_go hnt rfl rfl (wo_boxA rfl rfl (by omega) fun h2 n2 bb gb => ?_)
 have hs3 := hall h2.n (by omega)
 have Bh : h2.get h.n = some (.cells [cv]) := (gb.get h.n (by omega)).trans b1
 have Bf : h2.get h1.n = some (.cells (funRow f vv dv)) := bb
 have DG := DA.grew (g1.trans gb)
 repeat' (first | refine Yu ?_ | refine Yp ?_ | refine z8 ?_ | refine zh ?_ | refine zi ?_ | refine zl ?_ | (refine Yq ?_ ?_ <;> intro hc <;> try first | contradiction | omega) | refine Yd ?_ | refine zu ?_ | refine zv ?_ | refine Yg ?_ | refine Yi ?_ | refine Yy ?_)
 refine Yc ?_
 repeat' (first | refine Yu ?_ | refine Yp ?_ | refine z8 ?_ | refine zh ?_ | refine zi ?_ | refine zl ?_ | (refine Yq ?_ ?_ <;> intro hc <;> try first | contradiction | omega) | refine Yd ?_ | refine zu ?_ | refine zv ?_ | refine Yg ?_ | refine Yi ?_ | refine Yy ?_)
 refine rg_bs hnt (hcx.mono (by omega)) (by omega) rfl rfl rfl rfl (by rfl) (by exact oc) fun hm nm Bm gm => ?_
 have Bh := (gm.get h.n (by omega)).trans Bh
 have Bf := (gm.get h1.n (by omega)).trans Bf
 have g0 := (g1.trans gb).trans gm
 have G := Grew.refl hm
 repeat' (first | refine Yu ?_ | refine Yp ?_ | refine z8 ?_ | refine zh ?_ | refine zi ?_ | refine zl ?_ | (refine Yq ?_ ?_ <;> intro hc <;> try first | contradiction | omega) | refine Yd ?_ | refine zu ?_ | refine zv ?_ | refine Yg ?_ | refine Yi ?_ | refine Yy ?_)
 refine wc_cut2 (ι := Unit) (fun (_ : Unit) => [(2, .int .i64 (i : Int)), (3, .ptr h.n 0), (4, .ptr h1.n 0), (7, .ptr h2.n 0)]) (fun _ h' => Grew hm h' ∧ h'.n ≤ hm.n + 5 ∧ h'.get h.n = some (.cells [cv]) ∧ h'.get h1.n = some (.cells (funRow f vv dv)) ∧ h'.get h2.n = some (.cells (insRow (el dl i) av))) ?_ ?_
 ·repeat' (first | refine Yu ?_ | refine Yp ?_ | refine z8 ?_ | refine zh ?_ | refine zi ?_ | refine zl ?_ | (refine Yq ?_ ?_ <;> intro hc <;> try first | contradiction | omega) | refine Yx ?_ | refine Yy ?_)
  refine wo_call rfl rfl (Name12_ev (hcx.mono (by omega)) (by omega) fun h11 g11 n11 => ?_)
  have L11 := g11.le
  have G := G.trans g11
  have Bh := (g11.get h.n (by omega)).trans Bh
  have Bf := (g11.get h1.n (by omega)).trans Bf
  have Bm := (g11.get h2.n (by omega)).trans Bm
  repeat' (first | refine Yu ?_ | refine Yp ?_ | refine z8 ?_ | refine zh ?_ | refine zi ?_ | refine zl ?_ | (refine Yq ?_ ?_ <;> intro hc <;> try first | contradiction | omega) | refine Yx ?_ | refine Yy ?_)
  all_goals first
   | exact Or.inr ⟨rfl, Or.inr rfl, _, rfl, k _ _ (g0.trans G) (by omega) (fun q => absurd q (by decide))⟩
   | exact Or.inl ⟨rfl, (), (Sc (Sc (Sc (Sc Sn)))), G, by omega, Bh, Bf, Bm⟩
 clear G Bh Bf Bm
 rintro _ h110 ⟨G, N11, Bh, Bf, Bm⟩
 have L11 := G.le
 refine wc_cut2 (ι := Unit) (fun (_ : Unit) => [(2, .int .i64 (i : Int)), (3, .ptr h.n 0), (4, .ptr h1.n 0), (7, .ptr h2.n 0)]) (fun _ h' => Grew hm h' ∧ h'.n ≤ hm.n + 30 ∧ h'.get h.n = some (.cells [cv]) ∧ h'.get h1.n = some (.cells (funRow f vv dv)) ∧ h'.get h2.n = some (.cells (insRow (el dl i) av))) ?_ ?_
 ·repeat' (first | refine Yu ?_ | refine Yp ?_ | refine z8 ?_ | refine zh ?_ | refine zi ?_ | refine zl ?_ | (refine Yq ?_ ?_ <;> intro hc <;> try first | contradiction | omega) | refine Yx ?_ | refine Yy ?_)
  refine wo_call rfl rfl (unused_ev hall (hcx.mono (by omega)) (by omega) (A.grew (g0.trans G)) fun bq h12 g12 n12 => ?_)
  have L12 := g12.le
  have G := G.trans g12
  have Bh := (g12.get h.n (by omega)).trans Bh
  have Bf := (g12.get h1.n (by omega)).trans Bf
  have Bm := (g12.get h2.n (by omega)).trans Bm
  cases bq
  all_goals repeat' (first | refine Yu ?_ | refine Yp ?_ | refine z8 ?_ | refine zh ?_ | refine zi ?_ | refine zl ?_ | (refine Yq ?_ ?_ <;> intro hc <;> try first | contradiction | omega) | refine Yx ?_ | refine Yy ?_)
  all_goals first
   | exact Or.inr ⟨rfl, Or.inr rfl, _, rfl, k _ _ (g0.trans G) (by omega) (fun q => absurd q (by decide))⟩
   | exact Or.inl ⟨rfl, (), (Sc (Sc (Sc (Sc Sn)))), G, by omega, Bh, Bf, Bm⟩
 clear G Bh Bf Bm
 rintro _ h120 ⟨G, N12, Bh, Bf, Bm⟩
 have L12 := G.le
 refine wc_cut2 (ι := Unit) (fun (_ : Unit) => [(2, .int .i64 (i : Int)), (3, .ptr h.n 0), (4, .ptr h1.n 0), (7, .ptr h2.n 0)]) (fun _ h' => Grew hm h' ∧ h'.n ≤ hm.n + 70 ∧ h'.get h.n = some (.cells [cv]) ∧ h'.get h1.n = some (.cells (funRow f vv dv)) ∧ h'.get h2.n = some (.cells (insRow (el dl i) av)) ∧ RgOk vl.length dl.length (el dl i) (dL 7 (el dl i))) ?_ ?_
 ·repeat' (first | refine Yu ?_ | refine Yp ?_ | refine z8 ?_ | refine zh ?_ | refine zi ?_ | refine zl ?_ | (refine Yq ?_ ?_ <;> intro hc <;> try first | contradiction | omega) | refine Yx ?_ | refine Yy ?_)
  refine wo_call rfl rfl (ranges_ev hall (hcx.mono (by omega)) (by omega) (by omega) (V.grew (g0.trans G)) (Cd.grew (g0.trans G)) (A.grew (g0.trans G)) (fun Ro h13 g13 n13 => ?_) (fun h13 g13 n13 => ?_))
  ·have L13 := g13.le
   have G := G.trans g13
   have Bh := (g13.get h.n (by omega)).trans Bh
   have Bf := (g13.get h1.n (by omega)).trans Bf
   have Bm := (g13.get h2.n (by omega)).trans Bm
   repeat' (first | refine Yu ?_ | refine Yp ?_ | refine z8 ?_ | refine zh ?_ | refine zi ?_ | refine zl ?_ | (refine Yq ?_ ?_ <;> intro hc <;> try first | contradiction | omega) | refine Yx ?_ | refine Yy ?_)
   exact Or.inl ⟨rfl, (), (Sc (Sc (Sc (Sc Sn)))), G, by omega, Bh, Bf, Bm, Ro⟩
  ·have L13 := g13.le
   have G := G.trans g13
   have Bh := (g13.get h.n (by omega)).trans Bh
   have Bf := (g13.get h1.n (by omega)).trans Bf
   have Bm := (g13.get h2.n (by omega)).trans Bm
   repeat' (first | refine Yu ?_ | refine Yp ?_ | refine z8 ?_ | refine zh ?_ | refine zi ?_ | refine zl ?_ | (refine Yq ?_ ?_ <;> intro hc <;> try first | contradiction | omega) | refine Yx ?_ | refine Yy ?_)
   exact Or.inr ⟨rfl, Or.inr rfl, _, rfl, k _ _ (g0.trans G) (by omega) (fun q => absurd q (by decide))⟩
 clear G Bh Bf Bm
 rintro _ h130 ⟨G, N13, Bh, Bf, Bm, Ro⟩
 have L13 := G.le
 refine wc_cut2 (ι := Unit) (fun (_ : Unit) => [(2, .int .i64 (i : Int)), (3, .ptr h.n 0), (4, .ptr h1.n 0), (7, .ptr h2.n 0)]) (fun _ h' => Grew hm h' ∧ h'.n ≤ hm.n + 80 ∧ h'.get h.n = some (.cells [cv]) ∧ h'.get h1.n = some (.cells (funRow f vv dv)) ∧ h'.get h2.n = some (.cells (insRow (el dl i) av))) ?_ ?_
 ·repeat' (first | refine Yu ?_ | refine Yp ?_ | refine z8 ?_ | refine zh ?_ | refine zi ?_ | refine zl ?_ | (refine Yq ?_ ?_ <;> intro hc <;> try first | contradiction | omega) | refine Yx ?_ | refine Yy ?_)
  refine wo_call rfl rfl (leaves_ev (i := i) hall (hcx.mono (by omega)) (by omega) hi (Cd.grew (g0.trans G)) Ro.goto fun bq h14 g14 n14 => ?_)
  have L14 := g14.le
  have G := G.trans g14
  have Bh := (g14.get h.n (by omega)).trans Bh
  have Bf := (g14.get h1.n (by omega)).trans Bf
  have Bm := (g14.get h2.n (by omega)).trans Bm
  cases bq
  all_goals repeat' (first | refine Yu ?_ | refine Yp ?_ | refine z8 ?_ | refine zh ?_ | refine zi ?_ | refine zl ?_ | (refine Yq ?_ ?_ <;> intro hc <;> try first | contradiction | omega) | refine Yx ?_ | refine Yy ?_)
  all_goals first
   | exact Or.inr ⟨rfl, Or.inr rfl, _, rfl, k _ _ (g0.trans G) (by omega) (fun q => absurd q (by decide))⟩
   | exact Or.inl ⟨rfl, (), (Sc (Sc (Sc (Sc Sn)))), G, by omega, Bh, Bf, Bm⟩
 clear G Bh Bf Bm
 rintro _ h140 ⟨G, N14, Bh, Bf, Bm⟩
 have L14 := G.le
 repeat' (first | refine Yu ?_ | refine Yp ?_ | refine z8 ?_ | refine zh ?_ | refine zi ?_ | refine zl ?_ | (refine Yq ?_ ?_ <;> intro hc <;> try first | contradiction | omega) | refine Yx ?_ | refine Yy ?_)
 refine wo_call rfl rfl (types12_ev hall (hcx.mono (by omega)) (by omega) h12 h20 (C.grew (g0.trans G)) (V.grew (g0.trans G)) (A.grew (g0.trans G)) Ro fun e h15 g15 n15 => ?_)
 have L15 := g15.le
 have G := G.trans g15
 have Bh := (g15.get h.n (by omega)).trans Bh
 have Bf := (g15.get h1.n (by omega)).trans Bf
 have Bm := (g15.get h2.n (by omega)).trans Bm
 repeat' (first | refine Yu ?_ | refine Yp ?_ | refine z8 ?_ | refine zh ?_ | refine zi ?_ | refine zl ?_ | (refine Yq ?_ ?_ <;> intro hc <;> try first | contradiction | omega) | refine Yx ?_ | refine Yy ?_)
 exact ⟨Or.inr rfl, _, rfl, k _ _ (g0.trans G) (by omega) (fun _ => Ro)⟩
theorem names12_ev {cl vl : List Dt} {cv vv dv : AV} {f : Dt} (hall : ∀ id, id < 10000000 → seen c.vis id = true) (hcx : Cx c h) (hn : h.n + 400 < 10000000) (h70 : vl.length ≤ 70) (C : Sl 70 true h ShClass cl cv) (V : Sl 70 true h ShField vl vv) (k : ∀ e h', Grew h h' → h'.n ≤ h.n + 400 → K (.int .i64 e) h') : Gv Tryz.prog X0 Mx c 83 [.agg [cv], .agg (funRow f vv dv)] h K := by
 have hnt : (75 : Nat) ≤ 1000000 := by decide
 refine gv_fn x_names12 (Mx_no rfl _ _ _) (by simp) hnt ?_
 unfold s_names12 SR.g SR.o SR.p
 obtain ⟨vid, vrows, VA, hvr, hvid, hvrow⟩ := at_Field V
 have hs1 := hall h.n (by omega)
 have hlow := hcx.low
 have hvl := V.le
 refine Yc (Yd (rg_go hnt rfl rfl (wo_boxA rfl rfl (by omega) fun h1 n1 b1 g1 => ?_)))
 have hs2 := hall h1.n (by omega)
 refine rg_go hnt rfl rfl (wo_boxA rfl rfl (by omega) fun hm n2 Bf gb => ?_)
 have Bh : hm.get h.n = some (.cells [cv]) := (gb.get h.n (by omega)).trans b1
 replace Bf : hm.get h1.n = some (.cells (funRow f vv dv)) := Bf
 have g0 := g1.trans gb
 have G := Grew.refl hm
 repeat' (first | refine Yu ?_ | refine Yp ?_ | refine z6 ?_ | refine z8 ?_ | refine za ?_ | refine zh ?_ | refine zi ?_ | refine zj ?_ | (refine Yq ?_ ?_ <;> intro hc <;> try first | contradiction | omega) | refine zI ?_ | refine zJ ?_ | refine Yx ?_ | refine Yv ?_ | refine zx ?_ | refine Yz ?_ | refine Yy ?_)
 refine wc_loopE (ι := Nat) (fun j => [(2, .ptr h.n 0), (3, .ptr h1.n 0), (5, .int .i64 (j : Int))]) (fun j h' => Grew hm h' ∧ h'.n ≤ hm.n + 3 * j ∧ h'.get h.n = some (.cells [cv]) ∧ h'.get h1.n = some (.cells (funRow f vv dv)) ∧ j ≤ vl.length) (fun j => vl.length - j) ?_ 0 ⟨G, by omega, Bh, Bf, Nat.zero_le _⟩ (Sc (Sc (Sc Sn)))
 clear G Bh Bf
 rintro j h3 ⟨G, N3, Bh, Bf, hj⟩
 have L3 := G.le
 have VG := VA.grew (g0.trans G)
 by_cases hlt : j < vl.length
 ·obtain ⟨hw, _⟩ := hvrow j hlt
  have hvi := hvid (by omega)
  have hsv := hall vid (by omega)
  refine Yc ?_
  refine Yc ?_
  repeat' (first | refine Yu ?_ | refine Yp ?_ | refine z6 ?_ | refine z8 ?_ | refine za ?_ | refine zh ?_ | refine zi ?_ | refine zj ?_ | (refine Yq ?_ ?_ <;> intro hc <;> try first | contradiction | omega) | refine zI ?_ | refine zJ ?_ | refine Yd ?_ | refine Ye ?_ | refine Yf ?_ | refine zu ?_ | refine zv ?_ | refine Yg ?_ | refine Yh ?_ | refine Yi ?_ | refine Yv ?_ | refine zx ?_ | refine Yz ?_ | refine Yy ?_)
  refine Yc ?_
  refine Yf ?_
  refine Yc ?_
  repeat' (first | refine Yu ?_ | refine Yp ?_ | refine z6 ?_ | refine z8 ?_ | refine za ?_ | refine zh ?_ | refine zi ?_ | refine zj ?_ | (refine Yq ?_ ?_ <;> intro hc <;> try first | contradiction | omega) | refine zI ?_ | refine zJ ?_ | refine Yd ?_ | refine Ye ?_ | refine Yf ?_ | refine zu ?_ | refine zv ?_ | refine Yg ?_ | refine Yh ?_ | refine Yi ?_ | refine Yv ?_ | refine zx ?_ | refine Yz ?_ | refine Yy ?_)
  refine wc_cut2 (ι := Bool) (fun b => [(2, .ptr h.n 0), (3, .ptr h1.n 0), (5, .int .i64 (j : Int)), (6, .str (dS 0 (el vl j))), (7, .str (dS 1 (el vl j))), (8, .bool b)]) (fun _ h' => h' = h3) ?_ ?_
  ·repeat' (first | refine Yu ?_ | refine Yp ?_ | refine z6 ?_ | refine z8 ?_ | refine za ?_ | refine zh ?_ | refine zi ?_ | refine zj ?_ | (refine Yq ?_ ?_ <;> intro hc <;> try first | contradiction | omega) | refine zI ?_ | refine zJ ?_ | refine Yx ?_ | refine Yv ?_ | refine zx ?_ | refine Yz ?_ | refine Yy ?_)
   all_goals try (generalize dB 2 f = sb; cases sb)
   all_goals repeat' (first | refine Yu ?_ | refine Yp ?_ | refine z6 ?_ | refine z8 ?_ | refine za ?_ | refine zh ?_ | refine zi ?_ | refine zj ?_ | (refine Yq ?_ ?_ <;> intro hc <;> try first | contradiction | omega) | refine zI ?_ | refine zJ ?_ | refine Yx ?_ | refine Yv ?_ | refine zx ?_ | refine Yz ?_ | refine Yy ?_)
   all_goals first
    | exact Or.inl ⟨rfl, true, (Sc (Sc (Sc (Sc (Sc (Sc Sn)))))), rfl⟩
    | exact Or.inl ⟨rfl, false, (Sc (Sc (Sc (Sc (Sc (Sc Sn)))))), rfl⟩
  rintro b h' hh
  have hh2 := hh.symm
  subst hh2
  refine wc_cut2 (ι := Unit) (fun _ => [(2, .ptr h.n 0), (3, .ptr h1.n 0), (5, .int .i64 (j : Int)), (7, .str (dS 1 (el vl j)))]) (fun _ h' => Grew hm h' ∧ h'.n ≤ hm.n + 3 * j + 1 ∧ h'.get h.n = some (.cells [cv]) ∧ h'.get h1.n = some (.cells (funRow f vv dv))) ?_ ?_
  ·cases b
   ·repeat' (first | refine Yu ?_ | refine Yp ?_ | refine z6 ?_ | refine z8 ?_ | refine za ?_ | refine zh ?_ | refine zi ?_ | refine zj ?_ | (refine Yq ?_ ?_ <;> intro hc <;> try first | contradiction | omega) | refine zI ?_ | refine zJ ?_ | (refine wo_call rfl rfl (Ident_ev (hcx.mono (by omega)) (by omega) fun b9 h9 g9 n9 => ?_)) | refine Yx ?_ | refine Yv ?_ | refine zx ?_ | refine Yz ?_ | refine Yy ?_)
    have L9 := g9.le
    have G := G.trans g9
    have Bh := (g9.get h.n (by omega)).trans Bh
    have Bf := (g9.get h1.n (by omega)).trans Bf
    cases b9
    all_goals repeat' (first | refine Yu ?_ | refine Yp ?_ | refine z6 ?_ | refine z8 ?_ | refine za ?_ | refine zh ?_ | refine zi ?_ | refine zj ?_ | (refine Yq ?_ ?_ <;> intro hc <;> try first | contradiction | omega) | refine zI ?_ | refine zJ ?_ | refine zN (l := 1) ?_ | (refine wo_call rfl rfl (Natural_ev (by simp only [List.length_drop, List.length_take]; omega) fun b8 => ?_)) | refine Yx ?_ | refine Yv ?_ | refine zx ?_ | refine Yz ?_ | refine Yy ?_)
    all_goals try cases b8
    all_goals repeat' (first | refine Yu ?_ | refine Yp ?_ | refine z6 ?_ | refine z8 ?_ | refine za ?_ | refine zh ?_ | refine zi ?_ | refine zj ?_ | (refine Yq ?_ ?_ <;> intro hc <;> try first | contradiction | omega) | refine zI ?_ | refine zJ ?_ | refine Yx ?_ | refine Yv ?_ | refine zx ?_ | refine Yz ?_ | refine Yy ?_)
    all_goals first
     | exact Or.inr ⟨rfl, Or.inr rfl, _, rfl, k _ _ (g0.trans G) (by omega)⟩
     | exact Or.inl ⟨rfl, (), (Sc (Sc (Sc (Sc Sn)))), G, by omega, Bh, Bf⟩
   ·repeat' (first | refine Yu ?_ | refine Yp ?_ | refine z6 ?_ | refine z8 ?_ | refine za ?_ | refine zh ?_ | refine zi ?_ | refine zj ?_ | (refine Yq ?_ ?_ <;> intro hc <;> try first | contradiction | omega) | refine zI ?_ | refine zJ ?_ | refine Yx ?_ | refine Yv ?_ | refine zx ?_ | refine Yz ?_ | refine Yy ?_)
    exact Or.inl ⟨rfl, (), (Sc (Sc (Sc (Sc Sn)))), G, by omega, Bh, Bf⟩
  clear G Bh Bf
  rintro _ h5 ⟨G, N5, Bh, Bf⟩
  have L5 := G.le
  repeat' (first | refine Yu ?_ | refine Yp ?_ | refine z6 ?_ | refine z8 ?_ | refine za ?_ | refine zh ?_ | refine zi ?_ | refine zj ?_ | (refine Yq ?_ ?_ <;> intro hc <;> try first | contradiction | omega) | refine zI ?_ | refine zJ ?_ | (refine wo_call rfl rfl (Type10_ev hall (hcx.mono (by omega)) (by omega) (C.grew (g0.trans G)) fun b6 h6 g6 n6 => ?_)) | refine Yx ?_ | refine Yv ?_ | refine zx ?_ | refine Yz ?_ | refine Yy ?_)
  all_goals try (cases b6 <;> have L6 := g6.le <;> have G := G.trans g6 <;> have Bh := (g6.get h.n (by omega)).trans Bh <;> have Bf := (g6.get h1.n (by omega)).trans Bf)
  all_goals repeat' (first | refine Yu ?_ | refine Yp ?_ | refine z6 ?_ | refine z8 ?_ | refine za ?_ | refine zh ?_ | refine zi ?_ | refine zj ?_ | (refine Yq ?_ ?_ <;> intro hc <;> try first | contradiction | omega) | refine zI ?_ | refine zJ ?_ | refine Yx ?_ | refine Yv ?_ | refine zx ?_ | refine Yz ?_ | refine Yy ?_)
  all_goals first
   | exact ⟨Or.inr rfl, _, rfl, k _ _ (g0.trans G) (by omega)⟩
   | exact ⟨j + 1, by simp; omega, (Sc (Sc (Sc Sn))), G, by omega, Bh, Bf, hlt⟩
 ·repeat' (first | refine Yu ?_ | refine Yp ?_ | refine z6 ?_ | refine z8 ?_ | refine za ?_ | refine zh ?_ | refine zi ?_ | refine zj ?_ | (refine Yq ?_ ?_ <;> intro hc <;> try first | contradiction | omega) | refine zI ?_ | refine zJ ?_ | refine Yx ?_ | refine Yv ?_ | refine zx ?_ | refine Yz ?_ | refine Yy ?_)
  all_goals exact ⟨Or.inr rfl, _, rfl, k _ _ (g0.trans G) (by omega)⟩
end Go.Proofs.YtmdceifbbmnfgaaGreatDoor.Ev
