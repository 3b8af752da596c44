/- Program: the table of classes, chains, fields. -/
import Derived.Test.YtmdceifbbmnfgaaGreatDoorTfD
import Derived.Test.YtmdceifbbmnfgaaGreatDoorTfL
import Derived.Test.YtmdceifbbmnfgaaGreatDoorTgB
set_option linter.unusedVariables false
set_option linter.unusedSimpArgs false
set_option maxHeartbeats 4000000
namespace Go.Proofs.YtmdceifbbmnfgaaGreatDoor.Ev
open Go
open Classical
variable {c : C} {h : H} {K : AV → H → Prop}
theorem wo_mkmapHA {P : Program} {X : Exts} {M : Mf} {env : Env'} {x : XV} {p : IntKind} {z : Int} (hx : evE env x = some (.int p z)) (hn : h.n < 10000000) (hk : ∀ h1, h1.n = h.n + 1 → h1.get h.n = some (.map [] 0) → Grew h h1 → K (.mp h.n) h1) : WO P X M c (.mkmapH x) env h K :=
 zM hn (hk _ rfl (get_new_same hn _) (Grew.new hn _)) hx
theorem partsE_one {env : Env'} {i : Nat} {x : XV} {v : AV} {ps : List (Nat × Nat × XV)} {l l' r : List AV} (hx : evE env x = some v) (hv : one v = true) (hs : spliceK i [v] l some = some l') (hr : partsE env ps l' = some r) : partsE env ((i, 1, x) :: ps) l = some r := by
 have hc : v.cells = [v] := by cases v <;> first | rfl | (exact absurd hv (by simp [one]))
 have ho : okT v = true := by first | exact okT_one hv | (cases v <;> first | rfl | (exact absurd hv (by simp [one])))
 have hl : Nat.beq (lenN [v]) 1 = true := by rw [lenN_eq]; rfl
 simp only [partsE, hx, hc, ho, hl, hs, Bool.and_self, cond_true]
 exact hr
theorem qS (a b : List Nat) : SQ.den (.b .str) (.str a) (.str b) = some (decide (a = b)) := by
 show eqStr (.str a) (.str b) = _
 simp only [eqStr, eqL_eq]
theorem qZ (a b : Int) : SQ.den (.b .int) (.int .i64 a) (.int .i64 b) = some (decide (a = b)) := eqInt_dec .i64 a b
theorem findI_snoc : ∀ (l : List (List Nat)) (x s : List Nat), findI (l ++ [x]) s = if 0 ≤ findI l s then findI l s else if x = s then (l.length : Int) else -1
 | [], x, s => by
  by_cases hx : x = s
  ·simp [findI, hx]
  ·simp [findI, hx]
 | y :: l, x, s => by
  have ih := findI_snoc l x s
  have hlt := findI_lt (l := l) (s := s)
  by_cases hy : y = s
  ·simp [findI, hy]
  ·simp only [List.cons_append, findI, if_neg hy, ih, List.length_cons]
   by_cases h0 : findI l s < 0
   ·have h1 : ¬ 0 ≤ findI l s := by omega
    have h2 : ¬ (0 : Int) ≤ -1 := by omega
    simp only [if_pos h0, if_neg h1, if_neg h2]
    by_cases hx : x = s
    ·have h3 : ¬ (l.length : Int) < 0 := by omega
     simp only [if_pos hx, if_neg h3]
     omega
    ·simp only [if_neg hx]
     rfl
   ·have h1 : 0 ≤ findI l s := by omega
    have h2 : 0 ≤ findI l s + 1 := by omega
    simp only [if_neg h0, if_pos h1, if_pos h2]
theorem findI_get {l : List (List Nat)} {s : List Nat} (h : 0 ≤ findI l s) : l.getD (findI l s).toNat [] = s := by
 rcases findI_spec l s with ⟨h1, _⟩ | ⟨j, h1, h2, h3, _⟩
 ·omega
 ·rw [h1]; simpa using h3
theorem findI_inj {l : List (List Nat)} {x y : List Nat} (h : 0 ≤ findI l x) (e : findI l x = findI l y) : x = y := by
 rw [← findI_get h, e, findI_get (by omega)]
def tblJ (ns : List (List Nat)) (j : Nat) : List Nat → Option AV := fun s => if 0 ≤ findI (ns.take j) s then some (.int .i64 (findI (ns.take j) s)) else none
theorem take_snoc' {ns : List (List Nat)} {j : Nat} (h : j < ns.length) : ns.take (j + 1) = ns.take j ++ [ns.getD j []] := by
 rw [List.take_add_one, List.getD_eq_getElem?_getD, List.getElem?_eq_getElem h]; rfl
theorem tbl_old {ns : List (List Nat)} {j : Nat} (hj : j < ns.length) (h : 0 ≤ findI (ns.take j) (ns.getD j [])) (s : List Nat) : tblJ ns j s = tblJ ns (j + 1) s := by
 unfold tblJ
 rw [take_snoc' hj, findI_snoc]
 by_cases q : 0 ≤ findI (ns.take j) s
 ·simp only [if_pos q]
 ·have hne : ns.getD j [] ≠ s := fun e => q (by rw [← e]; exact h)
  have h2 : ¬ (0 : Int) ≤ -1 := by omega
  simp only [if_neg q, if_neg hne, if_neg h2]
theorem tbl_new {ns : List (List Nat)} {j : Nat} (hj : j < ns.length) (h : ¬ 0 ≤ findI (ns.take j) (ns.getD j [])) (s : List Nat) : (if s = ns.getD j [] then some (AV.int .i64 (j : Int)) else tblJ ns j s) = tblJ ns (j + 1) s := by
 unfold tblJ
 rw [take_snoc' hj, findI_snoc]
 have hl : (ns.take j).length = j := by rw [List.length_take]; omega
 by_cases e : s = ns.getD j []
 ·subst e
  have h3 : (0 : Int) ≤ (j : Int) := by omega
  simp only [if_pos, if_neg h, hl, if_pos h3]
 ·have e' : ns.getD j [] ≠ s := fun q => e q.symm
  by_cases q : 0 ≤ findI (ns.take j) s
  ·simp only [if_neg e, if_pos q]
  ·have h2 : ¬ (0 : Int) ≤ -1 := by omega
   simp only [if_neg e, if_neg q, if_neg e', if_neg h2]
def tblF (ns : List (List Nat)) : List Nat → Option AV := fun s => if 0 ≤ findI ns s then some (.int .i64 (findI ns s)) else none
theorem tbl_full {ns : List (List Nat)} (s : List Nat) : tblJ ns ns.length s = tblF ns s := by unfold tblJ tblF; rw [List.take_length]
theorem tableOf_ev {cl : List Dt} {cv : AV} (hall : ∀ id, id < 10000000 → seen c.vis id = true) (hcx : Cx c h) (hn : h.n + 20 < 10000000) (h12 : cl.length ≤ 12) (C : Sl 70 true h ShClass cl cv) (k : ∀ h' mid, Grew h h' → h'.n ≤ h.n + 20 → h.n ≤ mid → mid < h'.n → Mp AV.str h' mid (tblF (nms cl)) → K (.agg [cv, .mp mid]) h') : Gv Tryz.prog X0 Mx c 85 [.agg [cv]] h K := by
 have hnt : (40 : Nat) ≤ 1000000 := by decide
 refine gv_fn x_tableOf (Mx_no rfl _ _ _) (by simp) hnt ?_
 unfold s_tableOf SR.S SR.o SR.p SR.s
 obtain ⟨id, rows, A, hr, hid, hrow⟩ := at_Class C
 have hlow := hcx.low
 have hcl := C.le
 have hnl : (nms cl).length = cl.length := nms_len
 have hone : one cv = true := C.one
 have hs1 := hall h.n (by omega)
 refine Yc (Yd (rg_go hnt rfl rfl (wo_boxA rfl rfl (by omega) fun h1 n1 b1 g1 => ?_)))
 have hs2 := hall h1.n (by omega)
 refine rg_go hnt rfl rfl (wo_boxA rfl rfl (by omega) fun h2 n2 b2 g2 => ?_)
 replace b1 : h2.get h.n = some (.cells [cv]) := (g2.get h.n (by omega)).trans b1
 repeat' (first | refine Yu ?_ | refine Yp ?_ | refine z6 ?_ | refine z8 ?_ | refine za ?_ | refine zh ?_ | refine zi ?_ | refine zl ?_ | (refine Yq ?_ ?_ <;> intro hc <;> try first | contradiction | omega) | (refine wo_mkmapHA rfl (by omega) fun h3 n3 m3 g3 => ?_) | (refine wo_build (partsE_one rfl hone rfl (by rfl)) ?_) | refine zw ?_ | refine Yx ?_ | refine zx ?_ | refine Yz ?_ | refine Yy ?_)
 have b1 := (g3.get h.n (by omega)).trans b1
 have b2 := (g3.get h1.n (by omega)).trans b2
 have oo : ones [cv, .mp h2.n] = true := by simp only [ones, hone]; rfl
 have hs3 := hall h2.n (by omega)
 refine rd_bs hnt (by omega) (by omega) rfl rfl rfl rfl (by rfl) (by exact oo) (by decide) (fun k1 k2 e1 e2 => by repeat (first | exact unchF_nil | refine unchF_cons (by decide) ?_)) fun h4 n4 b4 g4 => ?_
 have hs4 := hall h3.n (by omega)
 have b1 := (g4.get h.n (by omega)).trans b1
 have b2 := (g4.get h1.n (by omega)).trans b2
 have m4 : Mp AV.str h4 h2.n (tblJ (nms cl) 0) := (Mp.nil ((g4.get h2.n (by omega)).trans m3)).cong fun s => by simp [tblJ, findI]
 have g0 := ((g1.trans g2).trans g3).trans g4
 repeat' (first | refine Yu ?_ | refine Yp ?_ | refine z6 ?_ | refine z8 ?_ | refine za ?_ | refine zh ?_ | refine zi ?_ | refine zl ?_ | (refine Yq ?_ ?_ <;> intro hc <;> try first | contradiction | omega) | refine zw ?_ | refine Yx ?_ | refine zx ?_ | refine Yz ?_ | refine Yy ?_)
 refine wc_loopE (ι := Nat) (fun j => [(2, .ptr h1.n 0), (3, .ptr h3.n 0), (16, cv), (17, .int .i64 (rows.length : Int)), (18, .int .i64 (j : Int))]) (fun j h' => h4.n ≤ h'.n ∧ h'.n ≤ h4.n + j ∧ j ≤ cl.length ∧ (∀ x, x < h4.n → x ≠ h2.n → h'.get x = h4.get x) ∧ Mp AV.str h' h2.n (tblJ (nms cl) j)) (fun j => cl.length - j) ?_ 0 ⟨Nat.le_refl _, by omega, Nat.zero_le _, fun _ _ _ => rfl, m4⟩ (Sc (Sc (Sc (Sc (Sc Sn)))))
 rintro j h' ⟨L, N, hj, hk, m⟩
 have gD : Grew h h' := ⟨by omega, fun x hx => (hk x (by omega) (by omega)).trans (g0.get x hx)⟩
 have B2 := (hk h1.n (by omega) (by omega)).trans b2
 have B4 := (hk h3.n (by omega) (by omega)).trans b4
 by_cases hlt : j < cl.length
 ·obtain ⟨v2, v3, hw, _, _, oc⟩ := hrow j hlt
  have hsi := hall id (by have := hid (by omega); omega)
  have AG := A.grew gD
  have hng := nms_get hlt
  repeat' (first | refine Yu ?_ | refine Yp ?_ | refine z6 ?_ | refine z8 ?_ | refine za ?_ | refine zh ?_ | refine zi ?_ | refine zl ?_ | (refine Yq ?_ ?_ <;> intro hc <;> try first | contradiction | omega) | refine zw ?_ | refine Yx ?_ | refine zx ?_ | refine Yz ?_ | refine Yy ?_)
  refine rg_bs1 hnt rfl (hcx.mono (by omega)) (by omega) rfl rfl rfl rfl (by rfl) (by rfl) (by exact oc) fun h5 n5 b5 g5 => ?_
  have hs5 := hall h'.n (by omega)
  have m5 := m.keep (g5.get h2.n (by omega))
  have B4 := (g5.get h3.n (by omega)).trans B4
  repeat' (first | refine Yu ?_ | refine Yp ?_ | refine z6 ?_ | refine z8 ?_ | refine za ?_ | refine zh ?_ | refine zi ?_ | refine zl ?_ | (refine Yq ?_ ?_ <;> intro hc <;> try first | contradiction | omega) | refine zw ?_ | refine Yx ?_ | refine zx ?_ | refine Yz ?_ | refine Yy ?_)
  refine wo_lookupM m5 qS rfl (by rfl) hs3 ?_
  by_cases hf : 0 ≤ findI ((nms cl).take j) ((nms cl).getD j [])
  ·have e : tblJ (nms cl) j (dS 0 (el cl j)) = some (.int .i64 (findI ((nms cl).take j) (dS 0 (el cl j)))) := by unfold tblJ; rw [← hng, if_pos hf]
   rw [e]
   repeat' (first | refine Yu ?_ | refine Yp ?_ | refine z6 ?_ | refine z8 ?_ | refine za ?_ | refine zh ?_ | refine zi ?_ | refine zl ?_ | (refine Yq ?_ ?_ <;> intro hc <;> try first | contradiction | omega) | refine zw ?_ | refine Yx ?_ | refine zx ?_ | refine Yz ?_ | refine Yy ?_)
   exact ⟨j + 1, by simp; omega, (Sc (Sc (Sc (Sc (Sc Sn))))), by omega, by omega, hlt, fun x hx hne => (g5.get x (by omega)).trans (hk x hx hne), m5.cong (tbl_old (by omega) hf)⟩
  ·have e : tblJ (nms cl) j (dS 0 (el cl j)) = none := by unfold tblJ; rw [← hng, if_neg hf]
   rw [e]
   repeat' (first | refine Yu ?_ | refine Yp ?_ | refine z6 ?_ | refine z8 ?_ | refine za ?_ | refine zh ?_ | refine zi ?_ | refine zl ?_ | (refine Yq ?_ ?_ <;> intro hc <;> try first | contradiction | omega) | refine zw ?_ | refine Yx ?_ | refine zx ?_ | refine Yz ?_ | refine Yy ?_)
   refine rg_go0 hnt rfl (wo_mapupM m5 qS rfl (by rfl) rfl (by omega) hs3 (by omega) fun h6 n6 M6 k6 => ?_)
   repeat' (first | refine Yu ?_ | refine Yp ?_ | refine z6 ?_ | refine z8 ?_ | refine za ?_ | refine zh ?_ | refine zi ?_ | refine zl ?_ | (refine Yq ?_ ?_ <;> intro hc <;> try first | contradiction | omega) | refine zw ?_ | refine Yx ?_ | refine zx ?_ | refine Yz ?_ | refine Yy ?_)
   exact ⟨j + 1, by simp; omega, (Sc (Sc (Sc (Sc (Sc Sn))))), by omega, by omega, hlt, fun x hx hne => (k6 x hne).trans ((g5.get x (by omega)).trans (hk x hx hne)), M6.cong fun s => by rw [← hng]; exact tbl_new (by omega) hf s⟩
 ·have e : j = (nms cl).length := by omega
  repeat' (first | refine Yu ?_ | refine Yp ?_ | refine z6 ?_ | refine z8 ?_ | refine za ?_ | refine zh ?_ | refine zi ?_ | refine zl ?_ | (refine Yq ?_ ?_ <;> intro hc <;> try first | contradiction | omega) | refine zw ?_ | refine Yx ?_ | refine zx ?_ | refine Yz ?_ | refine Yy ?_)
  refine rg_go0 hnt rfl (wo_storeA rfl rfl (by omega) hs2 B2 rfl (by exact oo) (by decide) (by omega) (splice_all rfl) fun h7 n7 b7 k7 => ?_)
  repeat' (first | refine Yu ?_ | refine Yp ?_ | refine z6 ?_ | refine z8 ?_ | refine za ?_ | refine zh ?_ | refine zi ?_ | refine zl ?_ | (refine Yq ?_ ?_ <;> intro hc <;> try first | contradiction | omega) | refine zw ?_ | refine Yx ?_ | refine zx ?_ | refine Yz ?_ | refine Yy ?_)
  refine ⟨Or.inr rfl, _, resE_box rfl hs2 b7 rfl rfl, ?_⟩
  rw [e] at m
  exact k _ _ ⟨by omega, fun x hx => (k7 x (by omega)).trans (gD.get x hx)⟩ (by omega) (by omega) (by omega) ((m.keep (k7 _ (by omega))).cong tbl_full)
theorem tfind_ev {ns : List (List Nat)} {cv : AV} {s : List Nat} {mid : Nat} (hall : ∀ id, id < 10000000 → seen c.vis id = true) (hcx : Cx c h) (hn : h.n + 1 < 10000000) (hm : mid < h.n) (m : Mp AV.str h mid (tblF ns)) (k : ∀ h', Grew h h' → h'.n ≤ h.n + 1 → K (.int .i64 (findI ns s)) h') : Gv Tryz.prog X0 Mx c 163 [.agg [cv, .mp mid], .str s] h K := by
 have hnt : (16 : Nat) ≤ 1000000 := by decide
 refine gv_fn x_tfind (Mx_no rfl _ _ _) (by simp) hnt ?_
 unfold s_tfind SR.o
 have hlow := hcx.low
 have hs1 := hall h.n (by omega)
 have hsm := hall mid (by omega)
 refine Yc (Yd (rg_go hnt rfl rfl (wo_boxA rfl rfl (by omega) fun h1 n1 b1 g1 => ?_)))
 replace b1 : h1.get h.n = some (.cells [cv, .mp mid]) := b1
 have m1 := m.keep (g1.get mid hm)
 repeat' (first | refine Yu ?_ | refine Yp ?_ | refine zh ?_ | refine Yx ?_ | refine Yy ?_)
 refine wo_lookupM m1 qS rfl (by rfl) hsm ?_
 unfold tblF
 by_cases hf : 0 ≤ findI ns s
 ·rw [if_pos hf]
  repeat' (first | refine Yu ?_ | refine Yp ?_ | refine zh ?_ | refine Yx ?_ | refine Yy ?_)
  exact ⟨Or.inr rfl, _, rfl, k _ g1 (by omega)⟩
 ·rw [if_neg hf]
  repeat' (first | refine Yu ?_ | refine Yp ?_ | refine zh ?_ | refine Yx ?_ | refine Yy ?_)
  have e : findI ns s = -1 := by have := (findI_lt (l := ns) (s := s)).2; omega
  rw [e] at k
  exact ⟨Or.inr rfl, _, rfl, k _ g1 (by omega)⟩
def supI (cl : List Dt) (i : Nat) : Int := if dS 1 (el cl i) = [] then -1 else findI (nms cl) (dS 1 (el cl i))
theorem tsuper_ev {cl : List Dt} {cv : AV} {i mid : Nat} (hall : ∀ id, id < 10000000 → seen c.vis id = true) (hcx : Cx c h) (hn : h.n + 2 < 10000000) (hi : i < cl.length) (hm : mid < h.n) (C : Sl 70 true h ShClass cl cv) (m : Mp AV.str h mid (tblF (nms cl))) (k : ∀ h', Grew h h' → h'.n ≤ h.n + 2 → K (.int .i64 (supI cl i)) h') : Gv Tryz.prog X0 Mx c 277 [.agg [cv, .mp mid], .int .i64 (i : Int)] h K := by
 have hnt : (20 : Nat) ≤ 1000000 := by decide
 refine gv_fn x_tsuper (Mx_no rfl _ _ _) (by simp) hnt ?_
 unfold s_tsuper SR.c SR.l SR.o SR.p
 obtain ⟨id, rows, A, hr, hid, hrow⟩ := at_Class C
 have hlow := hcx.low
 have hs1 := hall h.n (by omega)
 have hsm := hall mid (by omega)
 obtain ⟨v2, v3, hw, _, _, oc⟩ := hrow i hi
 have hii := hid (by omega)
 have hsi := hall id (by omega)
 refine Yc (Yd (rg_go hnt rfl rfl (wo_boxA rfl rfl (by omega) fun h1 n1 b1 g1 => ?_)))
 replace b1 : h1.get h.n = some (.cells [cv, .mp mid]) := b1
 have m1 := m.keep (g1.get mid hm)
 have A1 := A.grew g1
 repeat' (first | refine Yu ?_ | refine Yp ?_ | refine z8 ?_ | refine zh ?_ | refine zi ?_ | refine zj ?_ | (refine Yq ?_ ?_ <;> intro hc <;> try first | contradiction | omega) | refine Yx ?_ | refine Yv ?_ | refine zx ?_ | refine Yy ?_)
 ·have e : supI cl i = -1 := by unfold supI; rw [if_pos hc]
  rw [e] at k
  exact ⟨Or.inr rfl, _, rfl, k _ g1 (by omega)⟩
 ·have e : supI cl i = findI (nms cl) (dS 1 (el cl i)) := by unfold supI; rw [if_neg hc]
  rw [e] at k
  refine rd_bar hnt rfl rfl (wo_call rfl rfl (tfind_ev (fun id q => by by_cases z : id < h1.n; exact seen_old (by repeat (first | exact rs_nil | refine rs_add (by omega) ?_)) (by omega) z (hall id q); exact seen_here (by omega) (by unfold big; omega)) (Cx.mem (by omega)) (by omega) (by omega) m1 fun h5 g5 n5 => ⟨(by repeat (first | exact unchF_nil | refine unchF_cons (by decide) ?_ | refine unchF_same (by assumption) ((g5.get _ (by omega)).trans (by assumption)) ?_)), ?_⟩))
  repeat' (first | refine Yu ?_ | refine Yp ?_ | refine z8 ?_ | refine zh ?_ | refine zi ?_ | refine zj ?_ | (refine Yq ?_ ?_ <;> intro hc <;> try first | contradiction | omega) | refine Yx ?_ | refine Yv ?_ | refine zx ?_ | refine Yy ?_)
  exact ⟨Or.inr rfl, _, rfl, k _ (g1.trans g5) (by omega)⟩
def seenF (ns out : List (List Nat)) : Int → Option AV := fun z => if z ∈ out.map (findI ns) then some (.bool true) else none
theorem seenF_snoc {ns out : List (List Nat)} {s : List Nat} {i : Int} (hi : i = findI ns s) (z : Int) : (if z = i then some (AV.bool true) else seenF ns out z) = seenF ns (out ++ [s]) z := by
 unfold seenF
 rw [List.map_append]
 subst hi
 by_cases q : z = findI ns s
 ·simp [q]
 ·simp [q]
theorem chain_none {cl : List Dt} {s : List Nat} (h : findI (nms cl) s < 0) : (chainR cl s).1 = [] := by
 unfold chainR
 simp only [chainF, if_pos h]
theorem seen_addR {p i n n' id : Nat} {base : List (Nat × Nat)} {rs : List (Nat × Nat × Nat)} (hp : Nat.testBit p i = true) (hn : n ≤ n') (h2 : id < n → seen (visOf p base rs) id = true) (h1 : id < n') : seen (visOf p base (addR i n n' rs)) id = true := by
 unfold addR
 cases hb : Nat.beq n n' with
 | true =>
  have e := Nat.eq_of_beq_eq_true hb
  simp only [cond]
  exact h2 (by omega)
 | false =>
  simp only [cond, visOf, hp]
  by_cases z : id < n
  ·exact seen_cons z (h2 z)
  ·exact seen_here (by omega) h1
theorem getB_all {c : C} {h : H} {id : Nat} {b : AB} (hs : ∀ id, id < 10000000 → seen c.vis id = true) (hid : id < 10000000) (hg : h.get id = some b) : getB c h id = some b := by
 unfold getB
 rw [hs id hid]
 exact hg
theorem seen_addS {p i n id : Nat} {base : List (Nat × Nat)} {rs : List (Nat × Nat × Nat)} (h2 : seen (visOf p base rs) id = true) : seen (visOf p base (addR i n n rs)) id = true := by
 have : Nat.beq n n = true := by simp
 unfold addR
 rw [this]
 exact h2
structure HcI where
 m : Nat
 out : List (List Nat)
 i : Int
 v : AV
 id : Nat
theorem SLi.keep {n0 sid : Nat} {h h' : H} {v : AV} {l : List Int} {id : Nat} (a : SLi n0 h v l id) (hle : h.n ≤ h'.n) (hs : sid < n0) (k : ∀ j, j ≠ sid → h'.get j = h.get j) : SLi n0 h' v l id := by
 by_cases q : l = []
 ·have e := a.nil q
  subst e q
  exact ⟨⟨Or.inl ⟨rfl, Or.inl rfl⟩⟩, fun _ => rfl, fun e => absurd rfl e⟩
 ·have ho := a.own q
  exact ⟨a.arr.keep hle fun _ => k id (by omega), a.nil, fun _ => ⟨ho.1, by omega⟩⟩
theorem tchain_ev {cl : List Dt} {cv : AV} {s : List Nat} {mid : Nat} (hall : ∀ id, id < 10000000 → seen c.vis id = true) (hcx : Cx c h) (hn : h.n + 60 < 10000000) (h12 : cl.length ≤ 12) (hmid : mid < h.n) (C : Sl 70 true h ShClass cl cv) (mt : Mp AV.str h mid (tblF (nms cl))) (k : ∀ b h' v id, Grew h h' → h'.n ≤ h.n + 60 → SLi h.n h' v ((chainR cl s).1.map (findI (nms cl))) id → K (.tup [v, .bool b]) h') : Gv Tryz.prog X0 Mx c 162 [.agg [cv, .mp mid], .int .i64 (findI (nms cl) s)] h K := by
 have hnt : (28 : Nat) ≤ 1000000 := by decide
 refine gv_fn x_tchain (Mx_no rfl _ _ _) (by simp) hnt ?_
 unfold s_tchain SR.g SR.m SR.o SR.s
 have hlow := hcx.low
 have hcl := C.le
 have hnl : (nms cl).length = cl.length := nms_len
 have hs1 := hall h.n (by omega)
 have hsm := hall mid (by omega)
 refine Yc (Yd (rg_go hnt rfl rfl (wo_boxA rfl rfl (by omega) fun h1 n1 b1 g1 => ?_)))
 replace b1 : h1.get h.n = some (.cells [cv, .mp mid]) := b1
 repeat' (first | refine Yu ?_ | refine Yp ?_ | refine zi ?_ | (refine Yq ?_ ?_ <;> intro hc <;> try first | contradiction | omega) | (refine wo_mkmapA (by omega) fun h2 n2 m2 g2 => ?_) | refine Yx ?_ | refine Yz ?_ | refine Yy ?_)
 have hsd := hall h1.n (by omega)
 have b2 := (g2.get h.n (by omega)).trans b1
 have g0 := g1.trans g2
 refine wc_loopE (ι := HcI) (fun q => [(1, .int .i64 q.i), (2, .ptr h.n 0), (4, q.v), (6, .mp h1.n)]) (fun q h' => Grew h h' ∧ h2.n ≤ h'.n ∧ h'.n ≤ h2.n + 4 * q.out.length ∧ h'.get h.n = some (.cells [cv, .mp mid]) ∧ Mp (AV.int .i64) h' h1.n (seenF (nms cl) q.out) ∧ SLi h2.n h' q.v (q.out.map (findI (nms cl))) q.id ∧ (∀ x ∈ q.out, 0 ≤ findI (nms cl) x) ∧ (q.i < 0 → (chainR cl s).1 = q.out) ∧ (0 ≤ q.i → ∃ t, q.i = findI (nms cl) t ∧ (chainR cl s).1 = (chainF (nms cl) (sps cl) q.m q.out t).1 ∧ 1 + cntO (nms cl) q.out ≤ q.m) ∧ q.m + q.out.length = cl.length + 1) (fun q => q.m) ?_ ⟨cl.length + 1, [], findI (nms cl) s, .nils, 0⟩ ⟨g0, Nat.le_refl _, by simp, b2, (Mp.nil m2).cong (fun z => by simp [seenF]), SLi.empty _ _, fun x hx => absurd hx (by simp), fun hi => chain_none hi, fun hi => ⟨s, rfl, rfl, by have := cntO_le (ns := nms cl) (out := []); simp only; omega⟩, by simp⟩ (Sc (Sc (Sc (Sc Sn))))
 rintro ⟨m0, out, i, v, vid⟩ h3 ⟨G, L, N, B, m, S, hge, hneg, hpos, hm⟩
 simp only at G L N B m S hge hneg hpos hm ⊢
 have hol : out.length ≤ 13 := by omega
 by_cases hi : 0 ≤ i
 ·obtain ⟨t, hit, hR, hcn⟩ := hpos hi
  have hil : i.toNat < cl.length := by have := findI_lt (l := nms cl) (s := t); omega
  have hie : i = ((i.toNat : Nat) : Int) := by omega
  by_cases hin : i ∈ out.map (findI (nms cl))
  ·have hsn : seenF (nms cl) out i = some (.bool true) := by unfold seenF; rw [if_pos hin]
   have hto : t ∈ out := by
    obtain ⟨x, hx, he⟩ := List.mem_map.1 hin
    have := findI_inj (hge x hx) (he.trans hit)
    rwa [← this]
   obtain ⟨m1, rfl⟩ : ∃ n, m0 = n + 1 := ⟨m0 - 1, by omega⟩
   have hf : ¬ findI (nms cl) t < 0 := by omega
   have hR2 : (chainR cl s).1 = out := by rw [hR]; simp only [chainF, if_neg hf, if_pos hto]
   repeat' (first | refine Yu ?_ | refine Yp ?_ | refine zi ?_ | (refine Yq ?_ ?_ <;> intro hc <;> try first | contradiction | omega) | (refine wo_lookupM m qZ rfl (by rfl) hsd ?_; rw [hsn]) | refine Yx ?_ | refine Yz ?_ | refine Yy ?_)
   rw [← hR2] at S
   exact ⟨Or.inr rfl, _, rfl, k _ _ _ _ G (by omega) (S.low (by omega))⟩
  ·have hsn : seenF (nms cl) out i = none := by unfold seenF; rw [if_neg hin]
   have hto : ¬ t ∈ out := fun q => hin (List.mem_map.2 ⟨t, q, hit.symm⟩)
   obtain ⟨m1, rfl⟩ : ∃ n, m0 = n + 1 := ⟨m0 - 1, by omega⟩
   have hf : ¬ findI (nms cl) t < 0 := by omega
   have hcl2 := cntO_lt (findI_mem (by omega : 0 ≤ findI (nms cl) t)) hto
   have hss := sps_get hil
   have hst : (sps cl).getD (findI (nms cl) t).toNat [] = dS 1 (el cl i.toNat) := by rw [← hit]; exact hss
   have hlen : (out ++ [t]).length = out.length + 1 := by simp
   repeat' (first | refine Yu ?_ | refine Yp ?_ | refine zi ?_ | (refine Yq ?_ ?_ <;> intro hc <;> try first | contradiction | omega) | (refine wo_lookupM m qZ rfl (by rfl) hsd ?_; rw [hsn]) | refine Yx ?_ | refine Yz ?_ | refine Yy ?_)
   refine rg_go0 hnt rfl (wo_mapupM m qZ rfl (by rfl) rfl (by omega) hsd (by omega) fun h4 n4 M4 k4 => ?_)
   have M4 := M4.cong (seenF_snoc (out := out) hit)
   have S4 : SLi h2.n h4 v (out.map (findI (nms cl))) vid := S.keep (by omega) (by omega) k4
   have G4 : Grew h h4 := ⟨by omega, fun x hx => (k4 x (by omega)).trans (G.get x hx)⟩
   have B4 := (k4 h.n (by omega)).trans B
   repeat' (first | refine Yu ?_ | refine Yp ?_ | refine zi ?_ | (refine Yq ?_ ?_ <;> intro hc <;> try first | contradiction | omega) | (refine wo_bsliceA rfl (by omega) fun h8 n8 b8 g8 => ?_) | refine Yx ?_ | refine Yz ?_ | refine Yy ?_)
   refine wo_addI rfl rfl (S4.grew g8) b8 (by omega) (by omega) (fun i _ z => hall i z) (by omega) (by omega) (by rw [List.length_map]; omega) fun h9 sv9 S9 n9 k9 => ?_
   have G9 : Grew h h9 := ⟨by omega, fun x hx => (k9 x (by omega)).trans ((G4.trans g8).get x hx)⟩
   have B9 := (k9 h.n (by omega)).trans ((g8.get h.n (by omega)).trans B4)
   have M9 := M4.keep ((k9 h1.n (by omega)).trans (g8.get h1.n (by omega)))
   repeat' (first | refine Yu ?_ | refine Yp ?_ | refine zi ?_ | (refine Yq ?_ ?_ <;> intro hc <;> try first | contradiction | omega) | refine Yx ?_ | refine Yz ?_ | refine Yy ?_)
   rw [hie]
   refine wo_call rfl rfl (tsuper_ev hall (hcx.mono (by omega)) (by omega) hil (by omega) (C.grew G9) (mt.keep (G9.get mid hmid)) fun h10 g10 n10 => ?_)
   have B10 := (g10.get h.n (by omega)).trans B9
   repeat' (first | refine Yu ?_ | refine Yp ?_ | refine zi ?_ | (refine Yq ?_ ?_ <;> intro hc <;> try first | contradiction | omega) | refine Yx ?_ | refine Yz ?_ | refine Yy ?_)
   refine ⟨⟨m1, out ++ [t], supI cl i.toNat, sv9, _⟩, by simp, (Sc (Sc (Sc (Sc Sn)))), G9.trans g10, by have := g10.le; omega, by simp only; omega, B10, M9.keep (g10.get h1.n (by omega)), by rw [List.map_append]; have := S9.grew g10; rw [hit] at this; exact this, fun x hx => ?_, fun hs0 => ?_, fun hs0 => ?_, by simp only; omega⟩
   ·rcases List.mem_append.1 hx with q | q
    ·exact hge x q
    ·rw [List.mem_singleton.1 q]; omega
   ·rw [hR]
    have hs2' : supI cl i.toNat < 0 := hs0
    unfold supI at hs2'
    by_cases he : dS 1 (el cl i.toNat) = []
    ·simp only [chainF, if_neg hf, if_neg hto, hst, if_pos he]
    ·rw [if_neg he] at hs2'
     obtain ⟨m2', rfl⟩ : ∃ n, m1 = n + 1 := ⟨m1 - 1, by omega⟩
     simp only [chainF, if_neg hf, if_neg hto, hst, if_neg he, if_pos hs2']
   ·have hs0 : 0 ≤ supI cl i.toNat := hs0
    unfold supI at hs0
    by_cases he : dS 1 (el cl i.toNat) = []
    ·rw [if_pos he] at hs0; omega
    ·refine ⟨dS 1 (el cl i.toNat), by simp only [supI, if_neg he], ?_, by simp only; omega⟩
     rw [hR]
     simp only [chainF, if_neg hf, if_neg hto, hst, if_neg he]
 ·have hR2 := hneg (by omega)
  repeat' (first | refine Yu ?_ | refine Yp ?_ | refine zi ?_ | (refine Yq ?_ ?_ <;> intro hc <;> try first | contradiction | omega) | refine Yx ?_ | refine Yz ?_ | refine Yy ?_)
  rw [← hR2] at S
  exact ⟨Or.inr rfl, _, rfl, k _ _ _ _ G (by omega) (S.low (by omega))⟩
theorem named_ev {cl : List Dt} {cv : AV} {s : List Nat} {mid : Nat} (hall : ∀ id, id < 10000000 → seen c.vis id = true) (hcx : Cx c h) (hn : h.n + 70 < 10000000) (h12 : cl.length ≤ 12) (hm : mid < h.n) (C : Sl 70 true h ShClass cl cv) (m : Mp AV.str h mid (tblF (nms cl))) (k : ∀ h' v id, Grew h h' → h'.n ≤ h.n + 70 → SLi h.n h' v ((chainR cl s).1.map (findI (nms cl))) id → K v h') : Gv Tryz.prog X0 Mx c 86 [.agg [cv, .mp mid], .str s] h K := by
 have hnt : (16 : Nat) ≤ 1000000 := by decide
 refine gv_fn x_named (Mx_no rfl _ _ _) (by simp) hnt ?_
 unfold s_named SR.c SR.l SR.p
 have hlow := hcx.low
 have hs1 := hall h.n (by omega)
 have hsm := hall mid (by omega)
 refine Yc (Yd (rg_go hnt rfl rfl (wo_boxA rfl rfl (by omega) fun h1 n1 b1 g1 => ?_)))
 replace b1 : h1.get h.n = some (.cells [cv, .mp mid]) := b1
 have m1 := m.keep (g1.get mid hm)
 repeat' (first | refine Yu ?_ | refine Yp ?_ | refine zi ?_ | refine Yx ?_ | refine Yv ?_ | refine zx ?_ | refine Yy ?_)
 refine rd_bar hnt rfl rfl (wo_call rfl rfl (tfind_ev (fun id q => by by_cases z : id < h1.n; exact seen_old (by repeat (first | exact rs_nil | refine rs_add (by omega) ?_)) (by omega) z (hall id q); exact seen_here (by omega) (by unfold big; omega)) (Cx.mem (by omega)) (by omega) (by omega) m1 fun h5 g5 n5 => ⟨(by repeat (first | exact unchF_nil | refine unchF_cons (by decide) ?_ | refine unchF_same (by assumption) ((g5.get _ (by omega)).trans (by assumption)) ?_)), ?_⟩))
 have b5 := (g5.get h.n (by omega)).trans b1
 have L5 := g5.le
 repeat' (first | refine Yu ?_ | refine Yp ?_ | refine zi ?_ | refine Yx ?_ | refine Yv ?_ | refine zx ?_ | refine Yy ?_)
 refine rd_bar hnt rfl rfl (wo_call rfl rfl (tchain_ev (fun id q => (Nat.lt_or_ge id h5.n).elim (fun z => seen_cons (r := (h5.n, big)) z (by (repeat (first | refine seen_addS ?_ | refine seen_addR (by decide) (by omega) (fun z => ?_) (by omega))); exact seen_cut (hall id q) (by omega))) (fun z => seen_here (e := big) z (by unfold big; omega))) (Cx.mem (by omega)) (by omega) h12 (by omega) (C.grew (g1.trans g5)) (m1.keep (g5.get mid (by omega))) fun b h6 v id g6 n6 S => ⟨(by repeat (first | exact unchF_nil | refine unchF_cons (by decide) ?_ | refine unchF_same (by assumption) ((g6.get _ (by omega)).trans (by assumption)) ?_)), ?_⟩))
 have L6 := g6.le
 repeat' (first | refine Yu ?_ | refine Yp ?_ | refine zi ?_ | refine Yx ?_ | refine Yv ?_ | refine zx ?_ | refine Yy ?_)
 exact ⟨Or.inr rfl, _, rfl, k _ _ _ ((g1.trans g5).trans g6) (by omega) (S.low (by omega))⟩
theorem hSupers_ev {cl : List Dt} {cv : AV} {s : List Nat} (hall : ∀ id, id < 10000000 → seen c.vis id = true) (hcx : Cx c h) (hn : h.n + 130 < 10000000) (h12 : cl.length ≤ 12) (C : Sl 70 true h ShClass cl cv) (k : ∀ h' v id, Grew h h' → h'.n ≤ h.n + 130 → SLo h.n h' v (chainR cl s).1 id → K v h') : Gv Tryz.prog X0 Mx c 42 [.agg [cv], .str s] h K := by
 have hnt : (30 : Nat) ≤ 1000000 := by decide
 refine gv_fn x_hSupers (Mx_no rfl _ _ _) (by simp) hnt ?_
 unfold s_hSupers SR.m SR.o SR.s
 obtain ⟨id, rows, A, hr, hid, hrow⟩ := at_Class C
 have hlow := hcx.low
 have hcl := C.le
 have hone : one cv = true := C.one
 have hs1 := hall h.n (by omega)
 refine Yc (Yd (rg_go hnt rfl rfl (wo_boxA rfl rfl (by omega) fun h1 n1 b1 g1 => ?_)))
 replace b1 : h1.get h.n = some (.cells [cv]) := b1
 repeat' (first | refine Yu ?_ | refine Yp ?_ | refine z6 ?_ | refine z8 ?_ | refine z9 ?_ | refine za ?_ | refine zh ?_ | refine zi ?_ | refine zj ?_ | refine zk ?_ | (refine Yq ?_ ?_ <;> intro hc <;> try first | contradiction | omega) | refine Yx ?_ | refine Yz ?_ | refine Yy ?_)
 refine wo_call rfl rfl (tableOf_ev hall (hcx.mono (by omega)) (by omega) h12 (C.grew g1) fun h2 mid g2 n2 hm0 hm1 mt => ?_)
 have L2 := g2.le
 have oo : ones [cv, .mp mid] = true := by simp only [ones, hone]; rfl
 repeat' (first | refine Yu ?_ | refine Yp ?_ | refine z6 ?_ | refine z8 ?_ | refine z9 ?_ | refine za ?_ | refine zh ?_ | refine zi ?_ | refine zj ?_ | refine zk ?_ | (refine Yq ?_ ?_ <;> intro hc <;> try first | contradiction | omega) | refine Yx ?_ | refine Yz ?_ | refine Yy ?_)
 refine rg_bs hnt (hcx.mono (by omega)) (by omega) rfl rfl rfl rfl (by rfl) (by exact oo) fun h3 n3 b3 g3 => ?_
 have hs3 := hall h2.n (by omega)
 have mt3 := mt.keep (g3.get mid hm1)
 have g0 := (g1.trans g2).trans g3
 repeat' (first | refine Yu ?_ | refine Yp ?_ | refine z6 ?_ | refine z8 ?_ | refine z9 ?_ | refine za ?_ | refine zh ?_ | refine zi ?_ | refine zj ?_ | refine zk ?_ | (refine Yq ?_ ?_ <;> intro hc <;> try first | contradiction | omega) | refine Yx ?_ | refine Yz ?_ | refine Yy ?_)
 refine wo_call rfl rfl (named_ev hall (hcx.mono (by omega)) (by omega) h12 (by omega) (C.grew g0) mt3 fun h4 lv lid g4 n4 L => ?_)
 have L4 := g4.le
 have b4 := (g4.get h2.n (by omega)).trans b3
 have g04 := g0.trans g4
 have hcm : ∀ x ∈ (chainR cl s).1, 0 ≤ findI (nms cl) x := chainR_mem
 have hcl13 := chainR_len (cl := cl) (s := s)
 have hnl : (nms cl).length = cl.length := nms_len
 generalize (chainR cl s).1 = ch at L hcm hcl13 k
 obtain ⟨lrows, LA, hlr, hlrow⟩ := L.rows
 rw [List.length_map] at hlr hlrow
 have hlg : ∀ j, j < ch.length → (ch.map (findI (nms cl))).getD j 0 = findI (nms cl) (ch.getD j []) := fun j hj => by simp [hj]
 have hown : 0 < ch.length → lid < h4.n := fun q => (L.own (fun e => by rw [List.map_eq_nil_iff] at e; rw [e] at q; simp at q)).2
 repeat' (first | refine Yu ?_ | refine Yp ?_ | refine z6 ?_ | refine z8 ?_ | refine z9 ?_ | refine za ?_ | refine zh ?_ | refine zi ?_ | refine zj ?_ | refine zk ?_ | (refine Yq ?_ ?_ <;> intro hc <;> try first | contradiction | omega) | refine Yx ?_ | refine Yz ?_ | refine Yy ?_)
 refine wc_loopE (ι := FdI) (fun q => [(5, .ptr h2.n 0), (6, q.v), (13, lv), (14, .int .i64 (lrows.length : Int)), (15, .int .i64 (q.j : Int))]) (fun q h' => Grew h4 h' ∧ SLo h4.n h' q.v (ch.take q.j) q.id ∧ h'.n ≤ h4.n + 2 * q.j ∧ q.j ≤ ch.length) (fun q => ch.length - q.j) ?_ ⟨0, .nils, 0⟩ ⟨Grew.refl _, by simpa using SLo.empty _ _, by simp, Nat.zero_le _⟩ (Sc (Sc (Sc (Sc (Sc Sn)))))
 rintro ⟨j, v, vid⟩ h5 ⟨G, S, N5, hj⟩
 simp only at G S N5 hj ⊢
 have L5 := G.le
 have B5 := (G.get h2.n (by omega)).trans b4
 by_cases hlt : j < ch.length
 ·have hw := hlrow j hlt
  rw [hlg j hlt] at hw
  have hx := hcm _ (getD_mem hlt)
  have hli := hown (by omega)
  have hsl := hall lid (by omega)
  have hfi : (findI (nms cl) (ch.getD j [])).toNat < cl.length := by have := findI_lt (l := nms cl) (s := ch.getD j []); omega
  have hsi := hall id (by have := hid (by omega); omega)
  obtain ⟨w2, w3, hwc, _, _, _⟩ := hrow _ hfi
  have hnm : dS 0 (el cl (findI (nms cl) (ch.getD j [])).toNat) = ch.getD j [] := by rw [← nms_get hfi]; exact findI_get hx
  rw [hnm] at hwc
  have LG := LA.grew G
  have AG := A.grew (g04.trans G)
  repeat' (first | refine Yu ?_ | refine Yp ?_ | refine z6 ?_ | refine z8 ?_ | refine z9 ?_ | refine za ?_ | refine zh ?_ | refine zi ?_ | refine zj ?_ | refine zk ?_ | (refine Yq ?_ ?_ <;> intro hc <;> try first | contradiction | omega) | (refine wo_bsliceA rfl (by omega) fun h8 n8 b8 g8 => ?_) | refine Yx ?_ | refine Yz ?_ | refine Yy ?_)
  refine wo_addS rfl rfl (S.grew g8) b8 (by omega) (hcx.mono (by omega)) (fun i _ z => hall i z) (by omega) (by omega) (by omega) (by rw [List.length_take]; omega) fun h9 sv9 S9 n9 k9 => ?_
  repeat' (first | refine Yu ?_ | refine Yp ?_ | refine z6 ?_ | refine z8 ?_ | refine z9 ?_ | refine za ?_ | refine zh ?_ | refine zi ?_ | refine zj ?_ | refine zk ?_ | (refine Yq ?_ ?_ <;> intro hc <;> try first | contradiction | omega) | refine Yx ?_ | refine Yz ?_ | refine Yy ?_)
  refine ⟨⟨j + 1, sv9, h8.n⟩, by simp; omega, (Sc (Sc (Sc (Sc (Sc Sn))))), ⟨by omega, fun x hx => (k9 x hx).trans ((G.trans g8).get x hx)⟩, ?_, by simp only; omega, hlt⟩
  simp only
  rw [take_snoc' hlt]
  exact S9
 ·have e : ch.take j = ch := List.take_of_length_le (by omega)
  rw [e] at S
  repeat' (first | refine Yu ?_ | refine Yp ?_ | refine z6 ?_ | refine z8 ?_ | refine z9 ?_ | refine za ?_ | refine zh ?_ | refine zi ?_ | refine zj ?_ | refine zk ?_ | (refine Yq ?_ ?_ <;> intro hc <;> try first | contradiction | omega) | refine Yx ?_ | refine Yz ?_ | refine Yy ?_)
  exact ⟨Or.inr rfl, _, rfl, k _ _ _ (g04.trans G) (by omega) (S.low (by omega))⟩
theorem hFind1_ev {a b s : List Nat} {x y : AV} {bid : Nat} (hall : ∀ id, id < 10000000 → seen c.vis id = true) (hcx : Cx c h) (hn : h.n + 1 < 10000000) (hbi : bid < h.n) (hb : h.get bid = some (.cells [.str s])) (kt : a = s → ∀ h', Grew h h' → h'.n = h.n + 1 → K (.bool true) h') (kf : ¬ a = s → ∀ h', Grew h h' → h'.n = h.n + 1 → K (.bool false) h') : Gv Tryz.prog X0 Mx c 88 [.agg [.str a, .str b, x, y], .ptr bid 0] h K := by
 have hnt : (8 : Nat) ≤ 1000000 := by decide
 refine gv_fn x_hFind1 (Mx_no rfl _ _ _) (by simp) hnt ?_
 unfold s_hFind1 SR.o
 have hlow := hcx.low
 have hs1 := hall h.n (by omega)
 refine Yc (Yd (rg_go hnt rfl rfl (wo_boxA rfl rfl (by omega) fun h1 n1 b1 g1 => ?_)))
 replace b1 : h1.get h.n = some (.cells [.str a, .str b, x, y]) := b1
 have bb := (g1.get bid (by omega)).trans hb
 have hsb := hall bid (by omega)
 repeat' (first | refine Yu ?_ | refine Yp ?_ | refine zh ?_ | (refine Yq ?_ ?_ <;> intro hc <;> try first | contradiction | omega) | refine Yx ?_ | refine Yy ?_)
 ·exact ⟨Or.inr rfl, _, rfl, kt hc _ g1 n1⟩
 ·exact ⟨Or.inr rfl, _, rfl, kf hc _ g1 n1⟩
theorem IndexFunc_ev {cl : List Dt} {cv : AV} {s : List Nat} {bid : Nat} (hall : ∀ id, id < 10000000 → seen c.vis id = true) (hcx : Cx c h) (hn : h.n + 13 < 10000000) (h12 : cl.length ≤ 12) (hbi : bid < h.n) (hb : h.get bid = some (.cells [.str s])) (C : Sl 70 true h ShClass cl cv) (k : ∀ h', Grew h h' → h'.n ≤ h.n + 13 → K (.int .i64 (findI (nms cl) s)) h') : Gv Tryz.prog X0 Mx c 87 [cv, .fn 88 [.ptr bid 0]] h K := by
 have hnt : (19 : Nat) ≤ 1000000 := by decide
 refine gv_fn x_IndexFunc (Mx_no rfl _ _ _) (by simp) hnt ?_
 unfold s_IndexFunc SR.m SR.o
 obtain ⟨id, rows, A, hr, hid, hrow⟩ := at_Class C
 have hlow := hcx.low
 have hcl := C.le
 have hnl : (nms cl).length = cl.length := nms_len
 repeat' (first | refine Yu ?_ | refine Yp ?_ | refine z6 ?_ | refine z8 ?_ | refine za ?_ | refine zl ?_ | (refine Yq ?_ ?_ <;> intro hc <;> try first | contradiction | omega) | refine Yx ?_ | refine Yz ?_ | refine Yy ?_)
 refine wc_loopE (ι := Nat) (fun j => [(0, cv), (1, .fn 88 [.ptr bid 0]), (7, .int .i64 (rows.length : Int)), (8, .int .i64 (j : Int))]) (fun j h' => Grew h h' ∧ h'.n ≤ h.n + j ∧ j ≤ cl.length ∧ ∀ i, i < j → (nms cl).getD i [] ≠ s) (fun j => cl.length - j) ?_ 0 ⟨Grew.refl _, by omega, Nat.zero_le _, fun i hi => absurd hi (by omega)⟩ (Sc (Sc (Sc (Sc Sn))))
 rintro j h1 ⟨G, N, hj, hd⟩
 have L := G.le
 by_cases hlt : j < cl.length
 ·obtain ⟨v2, v3, hw, _, _, _⟩ := hrow j hlt
  have hsi := hall id (by have := hid (by omega); omega)
  have AG := A.grew G
  have hng := nms_get hlt
  repeat' (first | refine Yu ?_ | refine Yp ?_ | refine z6 ?_ | refine z8 ?_ | refine za ?_ | refine zl ?_ | (refine Yq ?_ ?_ <;> intro hc <;> try first | contradiction | omega) | refine Yx ?_ | refine Yz ?_ | refine Yy ?_)
  refine wo_call rfl rfl (hFind1_ev hall (hcx.mono (by omega)) (by omega) (by omega) ((G.get bid hbi).trans hb) (fun he h2 g2 n2 => ?_) (fun he h2 g2 n2 => ?_))
  ·repeat' (first | refine Yu ?_ | refine Yp ?_ | refine z6 ?_ | refine z8 ?_ | refine za ?_ | refine zl ?_ | (refine Yq ?_ ?_ <;> intro hc <;> try first | contradiction | omega) | refine Yx ?_ | refine Yz ?_ | refine Yy ?_)
   have e := findI_at (l := nms cl) (s := s) (j := j) (by omega) (by rw [hng]; exact he) hd
   rw [e] at k
   exact ⟨Or.inr rfl, _, rfl, k _ (G.trans g2) (by omega)⟩
  ·repeat' (first | refine Yu ?_ | refine Yp ?_ | refine z6 ?_ | refine z8 ?_ | refine za ?_ | refine zl ?_ | (refine Yq ?_ ?_ <;> intro hc <;> try first | contradiction | omega) | refine Yx ?_ | refine Yz ?_ | refine Yy ?_)
   exact ⟨j + 1, by simp; omega, (Sc (Sc (Sc (Sc Sn)))), G.trans g2, by omega, hlt, fun i hi => by
    by_cases q : i < j
    ·exact hd i q
    ·have e : i = j := by omega
     subst e; rw [hng]; exact he⟩
 ·repeat' (first | refine Yu ?_ | refine Yp ?_ | refine z6 ?_ | refine z8 ?_ | refine za ?_ | refine zl ?_ | (refine Yq ?_ ?_ <;> intro hc <;> try first | contradiction | omega) | refine Yx ?_ | refine Yz ?_ | refine Yy ?_)
  have e := findI_no (l := nms cl) (s := s) (fun i hi => hd i (by omega))
  rw [e] at k
  exact ⟨Or.inr rfl, _, rfl, k _ G (by omega)⟩
theorem hFind_ev {cl : List Dt} {cv : AV} {s : List Nat} (hall : ∀ id, id < 10000000 → seen c.vis id = true) (hcx : Cx c h) (hn : h.n + 15 < 10000000) (h12 : cl.length ≤ 12) (C : Sl 70 true h ShClass cl cv) (k : ∀ h', Grew h h' → h'.n ≤ h.n + 15 → K (.int .i64 (findI (nms cl) s)) h') : Gv Tryz.prog X0 Mx c 43 [.agg [cv], .str s] h K := by
 have hnt : (9 : Nat) ≤ 1000000 := by decide
 refine gv_fn x_hFind (Mx_no rfl _ _ _) (by simp) hnt ?_
 unfold s_hFind SR.m SR.o
 have hlow := hcx.low
 have hs1 := hall h.n (by omega)
 refine Yc (Yd (rg_go hnt rfl rfl (wo_boxA rfl rfl (by omega) fun h1 n1 b1 g1 => ?_)))
 have hs2 := hall h1.n (by omega)
 refine rg_go hnt rfl rfl (wo_boxA rfl rfl (by omega) fun h2 n2 b2 g2 => ?_)
 replace b1 : h2.get h.n = some (.cells [cv]) := (g2.get h.n (by omega)).trans b1
 replace b2 : h2.get h1.n = some (.cells [.str s]) := b2
 repeat' (first | refine Yu ?_ | refine Yp ?_ | refine zh ?_ | (refine wo_mkfn (by rfl) ?_) | refine Yx ?_ | refine Yy ?_)
 refine wo_call rfl rfl (IndexFunc_ev hall (hcx.mono (by omega)) (by omega) h12 (by omega) b2 (C.grew (g1.trans g2)) fun h3 g3 n3 => ?_)
 repeat' (first | refine Yu ?_ | refine Yp ?_ | refine zh ?_ | refine Yx ?_ | refine Yy ?_)
 exact ⟨Or.inr rfl, _, rfl, k _ ((g1.trans g2).trans g3) (by omega)⟩
/-! the order -/
theorem ltL_nil {y : List Nat} : ltL y [] = false := by cases y <;> rfl
theorem ltL_cons {a b : Nat} {x y : List Nat} : ltL (a :: x) (b :: y) = true ↔ a < b ∨ (a = b ∧ ltL x y = true) := by
 show (bif Nat.blt a b then true else bif Nat.beq a b then ltL x y else false) = true ↔ _
 cases h1 : Nat.blt a b with
 | true => simp only [cond_true, true_iff]; exact Or.inl (by simpa [Nat.blt_eq] using h1)
 | false =>
  have h1' : ¬ a < b := fun q => by rw [show Nat.blt a b = true by simpa [Nat.blt_eq] using q] at h1; cases h1
  cases h2 : Nat.beq a b with
  | true =>
   have := Nat.eq_of_beq_eq_true h2
   subst this
   simp
  | false =>
   have h2' : a ≠ b := fun q => by subst q; simp at h2
   simp [h1', h2']
theorem ltL_irr : ∀ (x : List Nat), ltL x x = false
 | [] => rfl
 | a :: x => by
  cases hb : ltL (a :: x) (a :: x) with
  | false => rfl
  | true =>
   rcases ltL_cons.1 hb with q | ⟨_, q⟩
   ·omega
   ·rw [ltL_irr x] at q; cases q
theorem ltL_trans : ∀ {x y z : List Nat}, ltL x y = true → ltL y z = true → ltL x z = true
 | x, y, [], _, h => by rw [ltL_nil] at h; cases h
 | x, [], z, h, _ => by rw [ltL_nil] at h; cases h
 | [], b :: y, d :: z, _, _ => rfl
 | a :: x, b :: y, d :: z, h1, h2 => by
  rw [ltL_cons] at h1 h2 ⊢
  rcases h1 with q1 | ⟨e1, q1⟩ <;> rcases h2 with q2 | ⟨e2, q2⟩
  ·exact Or.inl (by omega)
  ·exact Or.inl (by omega)
  ·exact Or.inl (by omega)
  ·exact Or.inr ⟨by omega, ltL_trans q1 q2⟩
theorem ltL_tri : ∀ (x y : List Nat), ltL x y = false → x ≠ y → ltL y x = true
 | [], [], _, h => absurd rfl h
 | [], b :: y, h, _ => by cases h
 | a :: x, [], _, _ => rfl
 | a :: x, b :: y, h1, h2 => by
  rw [ltL_cons]
  rcases Nat.lt_trichotomy a b with q | q | q
  ·have := ltL_cons (a := a) (b := b) (x := x) (y := y) |>.2 (Or.inl q)
   rw [h1] at this; cases this
  ·subst q
   refine Or.inr ⟨rfl, ltL_tri x y ?_ fun e => h2 (by rw [e])⟩
   cases hb : ltL x y with
   | false => rfl
   | true =>
    have := ltL_cons (a := a) (b := a) (x := x) (y := y) |>.2 (Or.inr ⟨rfl, hb⟩)
    rw [h1] at this; cases this
  ·exact Or.inl q
/-! insertion -/
theorem insS_none {s : List Nat} : ∀ {l : List (List Nat)}, (∀ x ∈ l, ltL s x = false) → insS s l = l ++ [s]
 | [], _ => rfl
 | x :: l, h => by
  unfold insS
  rw [h x (by simp), cond_false, insS_none fun y hy => h y (by simp [hy])]; rfl
theorem insS_snoc {s y : List Nat} : ∀ {l : List (List Nat)}, (∃ x ∈ l, ltL s x = true) → insS s (l ++ [y]) = insS s l ++ [y]
 | [], h => by obtain ⟨x, hx, _⟩ := h; cases hx
 | x :: l, h => by
  rw [List.cons_append]
  unfold insS
  cases hb : ltL s x with
  | true => simp
  | false =>
   simp only [cond_false, List.cons_append]
   rw [insS_snoc]
   obtain ⟨z, hz, hz2⟩ := h
   rcases List.mem_cons.1 hz with rfl | q
   ·rw [hb] at hz2; cases hz2
   ·exact ⟨z, q, hz2⟩
theorem insS_snoc2 {s y : List Nat} : ∀ {l : List (List Nat)}, (∀ x ∈ l, ltL s x = false) → ltL s y = true → insS s (l ++ [y]) = l ++ [s] ++ [y]
 | [], _, hy => by show (bif ltL s y then s :: [y] else y :: insS s []) = _; rw [hy]; rfl
 | x :: l, h, hy => by
  rw [List.cons_append]
  unfold insS
  rw [h x (by simp), cond_false, insS_snoc2 (fun y hy => h y (by simp [hy])) hy]; rfl
theorem insP_eq {l : List (List Nat)} {s : List Nat} : ∀ i, i ≤ l.length → ((insP l s i).2 = true → (∃ x ∈ l.take i, ltL s x = true) ∧ (insP l s i).1 = insS s (l.take i)) ∧ ((insP l s i).2 = false → (∀ x ∈ l.take i, ltL s x = false) ∧ (insP l s i).1 = l.take i)
 | 0, _ => ⟨fun q => (by cases q), fun _ => ⟨fun x hx => by simp at hx, rfl⟩⟩
 | i + 1, hi => by
  obtain ⟨ih1, ih2⟩ := insP_eq (l := l) (s := s) i (by omega)
  have ht : l.take (i + 1) = l.take i ++ [l.getD i []] := take_snoc (by omega)
  have hx : insP l s (i + 1) = if (insP l s i).2 = false ∧ ltL s (l.getD i []) = true then ((insP l s i).1 ++ [s] ++ [l.getD i []], true) else ((insP l s i).1 ++ [l.getD i []], (insP l s i).2) := rfl
  rw [ht, hx]
  cases hp : (insP l s i).2 with
  | true =>
   rw [if_neg (by simp)]
   obtain ⟨h1, h2⟩ := ih1 hp
   refine ⟨fun _ => ⟨?_, ?_⟩, fun q => (by cases q)⟩
   ·obtain ⟨x, hx, hx2⟩ := h1
    exact ⟨x, by simp only [List.mem_append]; exact Or.inl hx, hx2⟩
   ·simp only; rw [h2, insS_snoc h1]
  | false =>
   obtain ⟨h1, h2⟩ := ih2 hp
   cases hb : ltL s (l.getD i []) with
   | true =>
    rw [if_pos ⟨rfl, rfl⟩]
    refine ⟨fun _ => ⟨⟨l.getD i [], by simp only [List.mem_append]; exact Or.inr (by simp), hb⟩, ?_⟩, fun q => (by cases q)⟩
    simp only; rw [h2, insS_snoc2 h1 hb]
   | false =>
    rw [if_neg (by simp)]
    refine ⟨fun q => (by cases q), fun _ => ⟨fun x hx => ?_, by simp only; rw [h2]⟩⟩
    rcases List.mem_append.1 hx with q | q
    ·exact h1 x q
    ·rw [List.mem_singleton.1 q]; exact hb
theorem insF_eq (l : List (List Nat)) (s : List Nat) : insF l s = insS s l := by
 obtain ⟨h1, h2⟩ := insP_eq (l := l) (s := s) l.length (Nat.le_refl _)
 rw [List.take_length] at h1 h2
 unfold insF
 cases hp : (insP l s l.length).2 with
 | true => rw [if_pos rfl]; exact (h1 hp).2
 | false => rw [if_neg (by simp), (h2 hp).2, insS_none (h2 hp).1]
theorem insAll_eq (l : List (List Nat)) : insAll l = sortS l := by
 unfold insAll sortS
 congr 1
 funext a s
 exact insF_eq a s
theorem insS_perm (s : List Nat) : ∀ (l : List (List Nat)), (insS s l).Perm (s :: l)
 | [] => List.Perm.refl _
 | x :: l => by
  unfold insS
  cases ltL s x with
  | true => exact List.Perm.refl _
  | false => exact ((insS_perm s l).cons x).trans (List.Perm.swap s x l)
theorem sortS_perm (l : List (List Nat)) : (sortS l).Perm l := by
 have : ∀ (l a : List (List Nat)), (l.foldl (fun a s => insS s a) a).Perm (a ++ l) := by
  intro l
  induction l with
  | nil => intro a; simp
  | cons x l ih =>
   intro a
   rw [List.foldl_cons]
   refine (ih _).trans (((insS_perm x a).append_right l).trans ?_)
   rw [List.cons_append]
   exact List.perm_middle.symm
 simpa [sortS] using this l []
theorem sortS_len (l : List (List Nat)) : (sortS l).length = l.length := (sortS_perm l).length_eq
def Asc (l : List (List Nat)) : Prop := l.Pairwise fun a b => ltL a b = true
theorem insS_asc {s : List Nat} : ∀ {l : List (List Nat)}, Asc l → s ∉ l → Asc (insS s l)
 | [], _, _ => by simp [insS, Asc]
 | x :: l, ha, hs => by
  have ha' := ha
  unfold Asc at ha'
  rw [List.pairwise_cons] at ha'
  have hsx : s ≠ x := fun e => hs (by simp [e])
  have hsl : s ∉ l := fun e => hs (by simp [e])
  unfold insS
  cases hb : ltL s x with
  | true =>
   show Asc (s :: x :: l)
   unfold Asc
   rw [List.pairwise_cons]
   refine ⟨fun y hy => ?_, ha⟩
   rcases List.mem_cons.1 hy with rfl | q
   ·exact hb
   ·exact ltL_trans hb (ha'.1 y q)
  | false =>
   show Asc (x :: insS s l)
   unfold Asc
   rw [List.pairwise_cons]
   refine ⟨fun y hy => ?_, insS_asc ha'.2 hsl⟩
   rcases List.mem_cons.1 ((insS_perm s l).mem_iff.1 hy) with rfl | q
   ·exact ltL_tri _ _ hb hsx
   ·exact ha'.1 y q
theorem sortS_asc {l : List (List Nat)} (hn : l.Nodup) : Asc (sortS l) := by
 have : ∀ (l a : List (List Nat)), Asc a → (∀ x ∈ l, x ∉ a) → l.Nodup → Asc (l.foldl (fun a s => insS s a) a) := by
  intro l
  induction l with
  | nil => intro a ha _ _; exact ha
  | cons x l ih =>
   intro a ha hx hn
   rw [List.foldl_cons]
   rw [List.nodup_cons] at hn
   refine ih _ (insS_asc ha (hx x (by simp))) (fun y hy q => ?_) hn.2
   rcases List.mem_cons.1 ((insS_perm x a).mem_iff.1 q) with e | q
   ·exact hn.1 (e ▸ hy)
   ·exact hx y (by simp [hy]) q
 exact this l [] List.Pairwise.nil (fun x _ q => by cases q) hn
theorem asc_ascS : ∀ {l : List (List Nat)}, Asc l → ascS l = true
 | [], _ => rfl
 | [x], _ => rfl
 | x :: y :: l, h => by
  unfold Asc at h
  rw [List.pairwise_cons] at h
  show (ltL x y && ascS (y :: l)) = true
  rw [h.1 y (by simp), asc_ascS (l := y :: l) h.2]; rfl
theorem asc_nodup {l : List (List Nat)} (h : Asc l) : l.Nodup := h.imp fun {a b} q e => by subst e; rw [ltL_irr] at q; cases q
theorem find_asc {x : List Nat} : ∀ {l : List (List Nat)}, Asc l → (isAt x l (cntLt x l) = true → cntLt x l < l.length ∧ l.getD (cntLt x l) [] = x) ∧ (isAt x l (cntLt x l) = false → x ∉ l)
 | [], _ => ⟨fun q => (by cases q), fun _ q => (by cases q)⟩
 | y :: l, h => by
  have h' := h
  unfold Asc at h'
  rw [List.pairwise_cons] at h'
  obtain ⟨i1, i2⟩ := find_asc (x := x) (l := l) h'.2
  cases hb : ltL y x with
  | true =>
   have hc : cntLt x (y :: l) = cntLt x l + 1 := by show (bif ltL y x then Nat.succ (cntLt x l) else 0) = _; rw [hb]; rfl
   have hi : isAt x (y :: l) (cntLt x l + 1) = isAt x l (cntLt x l) := rfl
   rw [hc, hi]
   refine ⟨fun q => ?_, fun q e => ?_⟩
   ·have := i1 q
    exact ⟨by simp; omega, by simpa using this.2⟩
   ·rcases List.mem_cons.1 e with rfl | e
    ·rw [ltL_irr] at hb; cases hb
    ·exact i2 q e
  | false =>
   have hc : cntLt x (y :: l) = 0 := by show (bif ltL y x then Nat.succ (cntLt x l) else 0) = _; rw [hb]; rfl
   have hi : isAt x (y :: l) 0 = eqL y x := rfl
   rw [hc, hi, eqL_eq]
   refine ⟨fun q => ⟨by simp, by simpa using q⟩, fun q e => ?_⟩
   have q : ¬ y = x := by simpa using q
   rcases List.mem_cons.1 e with e | e
   ·exact q e.symm
   ·have h1 := h'.1 x e
    rw [hb] at h1; cases h1
/-! calls -/
theorem SLo.cellsT {n0 : Nat} {v : AV} {l : List (List Nat)} {id : Nat} (S : SLo n0 h v l id) (hp : l ≠ []) : ∃ cap vs, v = .sl id 0 l.length 1 cap ∧ id < h.n ∧ h.get id = some (.cells vs) ∧ l.length ≤ vs.length ∧ vs.take l.length = l.map .str := by
 have hp' : 0 < (l.map fun s => ([.str s] : List AV)).length := by rw [List.length_map]; exact List.length_pos_iff.2 hp
 obtain ⟨⟨cap, e⟩, h1, ⟨vs, h2, h3, h4⟩, _⟩ := S.arr.full hp'
 rw [List.length_map] at e h3 h4
 rw [Nat.mul_one] at h3 h4
 refine ⟨cap, vs, e, h1, h2, h3, ?_⟩
 rw [h4]
 clear h4 h3 h2 e S hp hp'
 induction l with
 | nil => rfl
 | cons x l ih => simp [ih]
theorem txtsOf_eq {n0 : Nat} {l : List (List Nat)} {id : Nat} {vs : List AV} (hs : seen c.vis id = true) (hg : h.get id = some (.cells vs)) (hp : l ≠ []) (hl : l.length < 1000000) (hle : l.length ≤ vs.length) (ht : vs.take l.length = l.map .str) : txtsOf c h id l.length = some (vs, l) := by
 have hp' : 0 < l.length := List.length_pos_iff.2 hp
 have e1 : Nat.ble l.length vs.length = true := Nat.ble_eq_true_of_le hle
 have e2 : Nat.blt 0 l.length = true := by simpa [Nat.blt_eq] using hp'
 have e3 : Nat.blt l.length 1000000 = true := by simpa [Nat.blt_eq] using hl
 unfold txtsOf
 rw [getB_eq hs, hg]
 simp only [lenN_eq, e1, e2, e3, Bool.and_self, cond_true, ht, txts_map]
theorem gv_sort {P : Program} {X : Exts} {n0 : Nat} {v : AV} {l : List (List Nat)} {id : Nat} (hall : ∀ id, id < 10000000 → seen c.vis id = true) (hn : h.n < 10000000) (hfl : c.floor ≤ n0) (hl : l.length < 1000000) (S : SLo n0 h v l id) (k : ∀ h', h'.n = h.n → SLo n0 h' v (sortS l) id → (∀ j, j < n0 → h'.get j = h.get j) → K (.tup []) h') : Gv P X Mx c srF [v] h K := by
 by_cases hp : l = []
 ·have e := S.nil hp
  subst hp e
  refine gv_memo (v := .tup []) (h' := h) ?_ (k h rfl S fun _ _ => rfl)
  exact (orM_right (knM_no rfl _ _ _)).trans (orM_left (by unfold sortSM; rw [show Nat.beq srF srF = true by rfl]; rfl))
 ·obtain ⟨cap, vs, e, h1, h2, h3, h4⟩ := S.cellsT hp
  have ho := S.own hp
  have hs := hall id (by omega)
  subst e
  have hq := sortS_len l
  have hp' : 0 < l.length := List.length_pos_iff.2 hp
  have hB : h.n = (h.put id (.cells ((sortS l).map .str ++ vs.drop l.length))).n := rfl
  refine gv_memo (v := .tup []) (h' := h.put id (.cells ((sortS l).map .str ++ vs.drop l.length))) ?_ (k _ rfl ?_ fun j hj => get_put_other (by omega) _ (by omega))
  ·refine (orM_right (knM_no rfl _ _ _)).trans (orM_left ?_)
   unfold sortSM
   rw [show Nat.beq srF srF = true by rfl, cond_true]
   simp only [txtsOf_eq (n0 := n0) hs h2 hp hl h3 h4, setB_eq (by omega : c.floor ≤ id) hs]
  ·refine ⟨⟨Or.inr ⟨by rw [List.length_map, hq]; exact hp', ⟨cap, by rw [List.length_map, hq]⟩, h1, _, get_put_same (by omega) _, ?_, fun i row hi => ?_⟩⟩, fun q => ?_, fun _ => ho⟩
   ·simp only [List.length_map, List.length_append, hq]; omega
   ·rw [List.getElem?_map] at hi
    simp only [Option.map_eq_some_iff] at hi
    obtain ⟨a, ha, rfl⟩ := hi
    obtain ⟨hi1, hi2⟩ := List.getElem?_eq_some_iff.1 ha
    rw [Nat.mul_one, List.drop_append_of_le_length (by rw [List.length_map]; omega)]
    rw [List.drop_eq_getElem_cons (by rw [List.length_map]; exact hi1)]
    simp [hi2]
   ·exact absurd (List.eq_nil_of_length_eq_zero (by rw [← hq, q]; rfl)) hp
theorem gv_comp {P : Program} {X : Exts} {n0 : Nat} {v : AV} {l : List (List Nat)} {id : Nat} (hall : ∀ id, id < 10000000 → seen c.vis id = true) (hn : h.n < 10000000) (hfl : c.floor ≤ n0) (hl : l.length < 1000000) (S : SLo n0 h v l id) (ha : ascS l = true) (k : K v h) : Gv P X Mx c cpF [v] h K := by
 by_cases hp : l = []
 ·have e := S.nil hp
  subst hp e
  refine gv_memo (v := .nils) (h' := h) ?_ k
  exact (orM_right (knM_no rfl _ _ _)).trans ((orM_right (sortSM_no rfl _ _ _)).trans (orM_left (by unfold compSM; rw [show Nat.beq cpF cpF = true by rfl]; rfl)))
 ·obtain ⟨cap, vs, e, h1, h2, h3, h4⟩ := S.cellsT hp
  have ho := S.own hp
  have hs := hall id (by omega)
  subst e
  refine gv_memo (h' := h) ?_ k
  refine (orM_right (knM_no rfl _ _ _)).trans ((orM_right (sortSM_no rfl _ _ _)).trans (orM_left ?_))
  unfold compSM
  rw [show Nat.beq cpF cpF = true by rfl, cond_true]
  have hf : Nat.ble c.floor id = true := Nat.ble_eq_true_of_le (by omega)
  simp only [txtsOf_eq (n0 := n0) hs h2 hp hl h3 h4, ha, hf, Bool.and_self, cond_true]
theorem gv_bs {P : Program} {X : Exts} {n0 : Nat} {v : AV} {l : List (List Nat)} {id : Nat} {x : List Nat} (hall : ∀ id, id < h.n → seen c.vis id = true) (hl : l.length < 1000000) (S : SLo n0 h v l id) (ha : ascS l = true) (k : K (.tup [.int .i64 ((cntLt x l : Nat) : Int), .bool (isAt x l (cntLt x l))]) h) : Gv P X Mx c bsF [v, .str x] h K := by
 by_cases hp : l = []
 ·have e := S.nil hp
  subst hp e
  refine gv_memo (h' := h) ?_ k
  exact (orM_right (knM_no rfl _ _ _)).trans ((orM_right (sortSM_no rfl _ _ _)).trans ((orM_right (compSM_no rfl _ _ _)).trans (by unfold findSM; rw [show Nat.beq bsF bsF = true by rfl]; rfl)))
 ·obtain ⟨cap, vs, e, h1, h2, h3, h4⟩ := S.cellsT hp
  have ho := S.own hp
  have hs := hall id (by omega)
  subst e
  refine gv_memo (h' := h) ?_ k
  refine (orM_right (knM_no rfl _ _ _)).trans ((orM_right (sortSM_no rfl _ _ _)).trans ((orM_right (compSM_no rfl _ _ _)).trans ?_))
  unfold findSM
  rw [show Nat.beq bsF bsF = true by rfl, cond_true]
  simp only [txtsOf_eq (n0 := n0) hs h2 hp hl h3 h4, ha, cond_true]
  rfl
theorem fieldsOf_ev {cl : List Dt} {cv : AV} {s : List Nat} (hall : ∀ id, id < 10000000 → seen c.vis id = true) (hcx : Cx c h) (hn : h.n + 1300 < 10000000) (h12 : cl.length ≤ 12) (hF20 : ∀ i, i < cl.length → (dL 2 (el cl i)).length ≤ 20) (C : Sl 70 true h ShClass cl cv) (ha : ascS (sortS (fldsA cl (chainR cl s).1)) = true) (k : ∀ h' v id, Grew h h' → h'.n ≤ h.n + 1300 → SLo h.n h' v (sortS (fldsA cl (chainR cl s).1)) id → K v h') : Gv Tryz.prog X0 Mx c 24 [.agg [cv], .str s] h K := by
 have hnt : (46 : Nat) ≤ 1000000 := by decide
 refine gv_fn x_fieldsOf (Mx_no rfl _ _ _) (by simp) hnt ?_
 unfold s_fieldsOf SR.m SR.o SR.s
 obtain ⟨id, rows, A, hr, hid, hrow⟩ := at_Class C
 have hlow := hcx.low
 have hs1 := hall h.n (by omega)
 have hcl := C.le
 refine Yc (Yd (rg_go hnt rfl rfl (wo_boxA rfl rfl (by omega) fun h1 n1 b1 g1 => ?_)))
 replace b1 : h1.get h.n = some (.cells [cv]) := b1
 repeat' (first | refine Yu ?_ | refine Yp ?_ | refine z6 ?_ | refine z8 ?_ | refine z9 ?_ | refine za ?_ | refine zh ?_ | refine zi ?_ | refine zj ?_ | refine zk ?_ | refine zl ?_ | (refine Yq ?_ ?_ <;> intro hc <;> try first | contradiction | omega) | refine Yx ?_ | refine Yz ?_ | refine Yy ?_)
 refine wo_call rfl rfl (hSupers_ev hall (hcx.mono (by omega)) (by omega) h12 (C.grew g1) fun h2 sv sid g2 n2 SS => ?_)
 have hcm : ∀ x ∈ (chainR cl s).1, 0 ≤ findI (nms cl) x := chainR_mem
 have hcl13 := chainR_len (cl := cl) (s := s)
 have hnl : (nms cl).length = cl.length := nms_len
 generalize (chainR cl s).1 = ch at SS hcm hcl13 k ha
 obtain ⟨srows, SA, hsr, hsrow⟩ := SS.rows
 have L12 := g2.le
 have b2 := (g2.get h.n (by omega)).trans b1
 repeat' (first | refine Yu ?_ | refine Yp ?_ | refine z6 ?_ | refine z8 ?_ | refine z9 ?_ | refine za ?_ | refine zh ?_ | refine zi ?_ | refine zj ?_ | refine zk ?_ | refine zl ?_ | (refine Yq ?_ ?_ <;> intro hc <;> try first | contradiction | omega) | refine Yx ?_ | refine Yz ?_ | refine Yy ?_)
 refine wc_loopE (ι := FdI) (fun q => [(2, .ptr h.n 0), (5, q.v), (13, sv), (14, .int .i64 (srows.length : Int)), (15, .int .i64 (q.j : Int))]) (fun q h' => Grew h2 h' ∧ SLo h2.n h' q.v (fldsA cl (ch.take q.j)) q.id ∧ h'.n ≤ h2.n + 80 * q.j ∧ (fldsA cl (ch.take q.j)).length ≤ 20 * q.j ∧ q.j ≤ ch.length) (fun q => ch.length - q.j) ?_ ⟨0, .nils, 0⟩ ⟨Grew.refl _, by simpa [fldsA] using SLo.empty _ _, by simp, by simp [fldsA], Nat.zero_le _⟩ (Sc (Sc (Sc (Sc (Sc Sn)))))
 rintro ⟨j, v, vid⟩ h3 ⟨G, S, N3, hfl, hj⟩
 simp only at G S N3 hfl hj ⊢
 have L3 := G.le
 have gB := (g1.trans g2).trans G
 have B4 := (G.get h.n (by omega)).trans b2
 by_cases hlt : j < ch.length
 ·have hfx := hcm _ (getD_mem hlt)
  have hw := hsrow j hlt
  have hown := SS.own (fun q => by rw [q] at hlt; simp at hlt)
  have hs2 := hall sid (by omega)
  have hfi : (findI (nms cl) (ch.getD j [])).toNat < cl.length := by have := findI_lt (l := nms cl) (s := ch.getD j []); omega
  have hii := hid (by omega)
  have hsi := hall id (by omega)
  obtain ⟨w2, w3, hwc, F, _, oc⟩ := hrow _ hfi
  have hF20 := hF20 _ hfi
  have SG := SA.grew G
  have htk : ch.take (j + 1) = ch.take j ++ [ch.getD j []] := take_snoc hlt
  have hfa : fldsA cl (ch.take (j + 1)) = fldsA cl (ch.take j) ++ fnames cl (ch.getD j []) := by rw [htk]; simp [fldsA]
  have hfn : (fnames cl (ch.getD j [])).length = (dL 2 (el cl (findI (nms cl) (ch.getD j [])).toNat)).length := by simp [fnames]
  generalize hjx : ch.getD j [] = nmx at hfx hfi hwc F oc hF20 hfa hfn hw
  obtain ⟨fid, frows, FA0, hfr, hfid, hfrow⟩ := at_Field F
  repeat' (first | refine Yu ?_ | refine Yp ?_ | refine z6 ?_ | refine z8 ?_ | refine z9 ?_ | refine za ?_ | refine zh ?_ | refine zi ?_ | refine zj ?_ | refine zk ?_ | refine zl ?_ | (refine Yq ?_ ?_ <;> intro hc <;> try first | contradiction | omega) | refine Yx ?_ | refine Yz ?_ | refine Yy ?_)
  refine wo_call rfl rfl (hFind_ev hall (hcx.mono (by omega)) (by omega) h12 (C.grew gB) fun h5 g5 n5 => ?_)
  have g5l := g5.le
  have A5 := A.grew (gB.trans g5)
  have G := G.trans g5
  have S := S.grew g5
  have B5 := (g5.get h.n (by omega)).trans B4
  repeat' (first | refine Yu ?_ | refine Yp ?_ | refine z6 ?_ | refine z8 ?_ | refine z9 ?_ | refine za ?_ | refine zh ?_ | refine zi ?_ | refine zj ?_ | refine zk ?_ | refine zl ?_ | (refine Yq ?_ ?_ <;> intro hc <;> try first | contradiction | omega) | refine Yx ?_ | refine Yz ?_ | refine Yy ?_)
  clear SG A5
  refine wc_loopE (ι := FdI) (fun q => [(2, .ptr h.n 0), (5, q.v), (13, sv), (14, .int .i64 (srows.length : Int)), (15, .int .i64 (j : Int)), (29, w2), (30, .int .i64 (frows.length : Int)), (31, .int .i64 (q.j : Int))]) (fun q h' => Grew h2 h' ∧ SLo h2.n h' q.v (fldsA cl (ch.take j) ++ (fnames cl nmx).take q.j) q.id ∧ h'.n ≤ h5.n + 3 * q.j ∧ h5.n ≤ h'.n ∧ q.j ≤ frows.length) (fun q => frows.length - q.j) ?_ ⟨0, v, vid⟩ ⟨G, by simpa using S, by simp, Nat.le_refl _, Nat.zero_le _⟩ (Sc (Sc (Sc (Sc (Sc (Sc (Sc (Sc Sn))))))))
  clear G S B4 B5
  rintro ⟨i, v', vid'⟩ h7 ⟨G, S, N7, L7, hi⟩
  simp only at G S N7 L7 hi ⊢
  by_cases hlt2 : i < frows.length
  ·obtain ⟨hw2, of⟩ := hfrow i (by omega)
   have FG := FA0.grew ((g1.trans g2).trans G)
   have hsf := hall fid (by have := hfid (by omega); omega)
   have hgd : (fnames cl nmx).getD i [] = dS 0 (el (dL 2 (el cl (findI (nms cl) nmx).toNat)) i) := by
    have hi2 : i < (dL 2 (el cl (findI (nms cl) nmx).toNat)).length := by omega
    exact nms_get hi2
   have htk2 : (fnames cl nmx).take (i + 1) = (fnames cl nmx).take i ++ [dS 0 (el (dL 2 (el cl (findI (nms cl) nmx).toNat)) i)] := by
    rw [take_snoc (d := []) (by omega), hgd]
   have hil : (fldsA cl (ch.take j) ++ (fnames cl nmx).take i).length ≤ 400 := by rw [List.length_append, List.length_take]; omega
   repeat' (first | refine Yu ?_ | refine Yp ?_ | refine z6 ?_ | refine z8 ?_ | refine z9 ?_ | refine za ?_ | refine zh ?_ | refine zi ?_ | refine zj ?_ | refine zk ?_ | refine zl ?_ | (refine Yq ?_ ?_ <;> intro hc <;> try first | contradiction | omega) | refine Yx ?_ | refine Yz ?_ | refine Yy ?_)
   refine rg_bs hnt (hcx.mono (by omega)) (by omega) rfl rfl rfl rfl (by rfl) (by exact of) fun h6 n6 b6 g6 => ?_
   have hs6 := hall h7.n (by omega)
   repeat' (first | refine Yu ?_ | refine Yp ?_ | refine z6 ?_ | refine z8 ?_ | refine z9 ?_ | refine za ?_ | refine zh ?_ | refine zi ?_ | refine zj ?_ | refine zk ?_ | refine zl ?_ | (refine Yq ?_ ?_ <;> intro hc <;> try first | contradiction | omega) | (refine wo_bsliceA rfl (by omega) fun h8 n8 b8 g8 => ?_) | refine Yx ?_ | refine Yz ?_ | refine Yy ?_)
   refine wo_addS rfl rfl (S.grew (g6.trans g8)) b8 (by omega) (hcx.mono (by omega)) (fun i _ z => hall i z) (by omega) (by omega) (by omega) (by omega) fun h9 sv9 S9 n9 k9 => ?_
   repeat' (first | refine Yu ?_ | refine Yp ?_ | refine z6 ?_ | refine z8 ?_ | refine z9 ?_ | refine za ?_ | refine zh ?_ | refine zi ?_ | refine zj ?_ | refine zk ?_ | refine zl ?_ | (refine Yq ?_ ?_ <;> intro hc <;> try first | contradiction | omega) | refine Yx ?_ | refine Yz ?_ | refine Yy ?_)
   refine ⟨⟨i + 1, sv9, h8.n⟩, by simp; omega, (Sc (Sc (Sc (Sc (Sc (Sc (Sc (Sc Sn)))))))), ⟨by omega, fun x hx => (k9 x hx).trans ((G.trans (g6.trans g8)).get x hx)⟩, ?_, by simp only; omega, by omega, hlt2⟩
   simp only
   rw [htk2, ← List.append_assoc]
   exact S9
  ·have e : i = (fnames cl nmx).length := by omega
   repeat' (first | refine Yu ?_ | refine Yp ?_ | refine z6 ?_ | refine z8 ?_ | refine z9 ?_ | refine za ?_ | refine zh ?_ | refine zi ?_ | refine zj ?_ | refine zk ?_ | refine zl ?_ | (refine Yq ?_ ?_ <;> intro hc <;> try first | contradiction | omega) | refine Yx ?_ | refine Yz ?_ | refine Yy ?_)
   have e2 : (fnames cl nmx).take i = fnames cl nmx := by rw [e, List.take_length]
   rw [e2, ← hfa] at S
   have hl2 : (fldsA cl (ch.take (j + 1))).length = (fldsA cl (ch.take j)).length + i := by rw [hfa, List.length_append]; omega
   exact ⟨⟨j + 1, v', vid'⟩, by simp; omega, (Sc (Sc (Sc (Sc (Sc Sn))))), G, S, by simp only; omega, by simp only; rw [hl2]; omega, hlt⟩
 ·have e : ch.take j = ch := List.take_of_length_le (by omega)
  rw [e] at S hfl
  repeat' (first | refine Yu ?_ | refine Yp ?_ | refine z6 ?_ | refine z8 ?_ | refine z9 ?_ | refine za ?_ | refine zh ?_ | refine zi ?_ | refine zj ?_ | refine zk ?_ | refine zl ?_ | (refine Yq ?_ ?_ <;> intro hc <;> try first | contradiction | omega) | refine Yx ?_ | refine Yz ?_ | refine Yy ?_)
  refine wo_call rfl rfl (gv_sort hall (by omega) (by omega) (by omega) S fun h6 n6 S6 k6 => ?_)
  have hsl := sortS_len (fldsA cl ch)
  repeat' (first | refine Yu ?_ | refine Yp ?_ | refine z6 ?_ | refine z8 ?_ | refine z9 ?_ | refine za ?_ | refine zh ?_ | refine zi ?_ | refine zj ?_ | refine zk ?_ | refine zl ?_ | (refine Yq ?_ ?_ <;> intro hc <;> try first | contradiction | omega) | refine Yx ?_ | refine Yz ?_ | refine Yy ?_)
  refine wo_call rfl rfl (gv_comp hall (by omega) (by omega) (by omega) S6 ha ?_)
  repeat' (first | refine Yu ?_ | refine Yp ?_ | refine z6 ?_ | refine z8 ?_ | refine z9 ?_ | refine za ?_ | refine zh ?_ | refine zi ?_ | refine zj ?_ | refine zk ?_ | refine zl ?_ | (refine Yq ?_ ?_ <;> intro hc <;> try first | contradiction | omega) | refine Yx ?_ | refine Yz ?_ | refine Yy ?_)
  exact ⟨Or.inr rfl, _, rfl, k _ _ _ ⟨by omega, fun x hx => (k6 x (by omega)).trans (gB.get x hx)⟩ (by omega) (S6.low (by omega))⟩
end Go.Proofs.YtmdceifbbmnfgaaGreatDoor.Ev
