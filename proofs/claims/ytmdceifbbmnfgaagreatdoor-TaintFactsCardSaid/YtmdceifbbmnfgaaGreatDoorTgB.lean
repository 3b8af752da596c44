/- The fields of a class, ascending (reference). -/
import Derived.Test.YtmdceifbbmnfgaaGreatDoorTfD
set_option linter.unusedVariables false
set_option linter.unusedSimpArgs false
set_option maxHeartbeats 4000000
namespace Go.Proofs.YtmdceifbbmnfgaaGreatDoor.Ev
open Go
open Classical
variable {c : C} {h : H} {K : AV → H → Prop}
def insP (l : List (List Nat)) (s : List Nat) : Nat → List (List Nat) × Bool
 | 0 => ([], false)
 | i + 1 => if (insP l s i).2 = false ∧ ltL s (l.getD i []) = true then ((insP l s i).1 ++ [s] ++ [l.getD i []], true) else ((insP l s i).1 ++ [l.getD i []], (insP l s i).2)
def insF (l : List (List Nat)) (s : List Nat) : List (List Nat) := if (insP l s l.length).2 = true then (insP l s l.length).1 else (insP l s l.length).1 ++ [s]
theorem insP_len {l : List (List Nat)} {s : List Nat} : ∀ i, (insP l s i).1.length = i + if (insP l s i).2 = true then 1 else 0
 | 0 => rfl
 | i + 1 => by
  have ih := insP_len (l := l) (s := s) i
  unfold insP
  split
  ·rename_i hc
   simp only [List.length_append, List.length_cons, List.length_nil, ih, hc.1]
   simp
  ·simp only [List.length_append, List.length_cons, List.length_nil, ih]
   omega
theorem insF_len {l : List (List Nat)} {s : List Nat} : (insF l s).length = l.length + 1 := by
 have := insP_len (l := l) (s := s) l.length
 unfold insF
 split
 ·rename_i hc; rw [this, if_pos hc]
 ·rename_i hc; rw [List.length_append, this, if_neg hc]; rfl
structure InI where
 j : Nat
 put : Bool
 v : AV
 id : Nat
def fnames (cl : List Dt) (n : List Nat) : List (List Nat) := (dL 2 (el cl (findI (nms cl) n).toNat)).map (dS 0)
def fldsA (cl : List Dt) (l : List (List Nat)) : List (List Nat) := l.flatMap (fnames cl)
def insAll (l : List (List Nat)) : List (List Nat) := l.foldl insF []
def rfieldsF (cl : List Dt) (s : List Nat) : List (List Nat) := insAll (fldsA cl (chainR cl s).1)
theorem insAll_snoc {l : List (List Nat)} {x : List Nat} : insAll (l ++ [x]) = insF (insAll l) x := by simp [insAll]
theorem insAll_len : ∀ (l : List (List Nat)), (insAll l).length = l.length := by
 intro l
 have : ∀ (l a : List (List Nat)), (l.foldl insF a).length = a.length + l.length := by
  intro l
  induction l with
  | nil => intro a; rfl
  | cons x l ih => intro a; rw [List.foldl_cons, ih, insF_len, List.length_cons]; omega
 simpa [insAll] using this l []
def bq : Nat → Nat
 | 0 => 0
 | n + 1 => bq n + (2 * n + 2)
theorem bq_le {a : Nat} : ∀ {b : Nat}, a ≤ b → bq a ≤ bq b
 | 0, h => by have : a = 0 := (by omega); subst this; exact Nat.le_refl _
 | n + 1, h => by
  by_cases q : a = n + 1
  ·subst q; exact Nat.le_refl _
  ·exact Nat.le_trans (bq_le (b := n) (by omega)) (Nat.le_add_right _ _)
theorem bq_eq : ∀ n, bq n = n * (n + 1)
 | 0 => rfl
 | n + 1 => by
  show bq n + (2 * n + 2) = _
  rw [bq_eq n]
  simp only [Nat.mul_add, Nat.add_mul]
  omega
theorem bq_top : bq 260 = 67860 := bq_eq 260
theorem insert_ev {l : List (List Nat)} {s : List Nat} {v : AV} {n0 id : Nat} (hall : ∀ id, id < 10000000 → seen c.vis id = true) (hcx : Cx c h) (hn : h.n + (2 * l.length + 2) < 10000000) (hl : l.length ≤ 1000) (L : SLo n0 h v l id) (k : ∀ h' v id, Grew h h' → h'.n ≤ h.n + (2 * l.length + 2) → SLo h.n h' v (insF l s) id → K v h') : Gv Tryz.prog X0 Mx c 50 [v, .str s] h K := by
 have hnt : (42 : Nat) ≤ 1000000 := by decide
 refine gv_fn x_insert (Mx_no rfl _ _ _) (by simp) hnt ?_
 unfold s_insert SR.g SR.m SR.o
 obtain ⟨lrows, LA, hlr, hlrow⟩ := L.rows
 have hlow := hcx.low
 repeat' (first | refine Yu ?_ | refine Yp ?_ | refine z6 ?_ | refine z8 ?_ | refine za ?_ | refine zk ?_ | (refine Yq ?_ ?_ <;> intro hc <;> try first | contradiction | omega) | refine zK ?_ | refine Yx ?_ | refine Yz ?_ | refine Yy ?_)
 refine wc_loopE (ι := InI) (fun q => [(0, v), (1, .str s), (5, q.v), (6, .bool q.put), (7, .int .i64 (q.j : Int))]) (fun q h' => Grew h h' ∧ SLo h.n h' q.v (insP l s q.j).1 q.id ∧ q.put = (insP l s q.j).2 ∧ h'.n ≤ h.n + 2 * (insP l s q.j).1.length ∧ q.j ≤ l.length) (fun q => l.length - q.j) ?_ ⟨0, false, .nils, 0⟩ ⟨Grew.refl _, SLo.empty _ _, rfl, by simp, Nat.zero_le _⟩ (Sc (Sc (Sc (Sc (Sc Sn)))))
 rintro ⟨j, put, v', id'⟩ h2 ⟨G, S, hp, N2, hj⟩
 simp only at G S hp N2 hj ⊢
 have L2 := G.le
 have hlen := insP_len (l := l) (s := s) j
 have hput : (if (insP l s j).2 = true then 1 else 0) ≤ 1 := by split <;> omega
 by_cases hlt : j < l.length
 ·have LG := LA.grew G
  have hw := hlrow j hlt
  have hsl := hall id (by have := L.own (fun q => by rw [q] at hlt; simp at hlt); omega)
  have hx0 : insP l s (j + 1) = if (insP l s j).2 = false ∧ ltL s (l.getD j []) = true then ((insP l s j).1 ++ [s] ++ [l.getD j []], true) else ((insP l s j).1 ++ [l.getD j []], (insP l s j).2) := rfl
  cases put
  ·have hl0 : (insP l s j).1.length = j := by rw [hlen, if_neg (by rw [← hp]; decide)]; rfl
   repeat' (first | refine Yu ?_ | refine Yp ?_ | refine z6 ?_ | refine z8 ?_ | refine za ?_ | refine zk ?_ | (refine Yq ?_ ?_ <;> intro hc <;> try first | contradiction | omega) | refine zK ?_ | (refine wo_bsliceA rfl (by omega) fun h8 n8 b8 g8 => ?_) | refine Yx ?_ | refine Yz ?_ | refine Yy ?_)
   cases hb : ltL s (l.getD j [])
   ·have hx : insP l s (j + 1) = ((insP l s j).1 ++ [l.getD j []], (insP l s j).2) := by rw [hx0, if_neg (fun q => by rw [hb] at q; exact absurd q.2 (by decide))]
    repeat' (first | refine Yu ?_ | refine Yp ?_ | refine z6 ?_ | refine z8 ?_ | refine za ?_ | refine zk ?_ | (refine Yq ?_ ?_ <;> intro hc <;> try first | contradiction | omega) | refine zK ?_ | (refine wo_bsliceA rfl (by omega) fun h8 n8 b8 g8 => ?_) | refine Yx ?_ | refine Yz ?_ | refine Yy ?_)
    refine wo_addS rfl rfl (S.grew g8) b8 (by omega) (hcx.mono (by omega)) (fun i _ z => hall i z) (by omega) (by omega) (by omega) (by omega) fun h9 sv9 S9 n9 k9 => ?_
    have G9 : Grew h h9 := ⟨by omega, fun x hx => (k9 x hx).trans ((G.trans g8).get x hx)⟩
    repeat' (first | refine Yu ?_ | refine Yp ?_ | refine z6 ?_ | refine z8 ?_ | refine za ?_ | refine zk ?_ | (refine Yq ?_ ?_ <;> intro hc <;> try first | contradiction | omega) | refine zK ?_ | refine Yx ?_ | refine Yz ?_ | refine Yy ?_)
    exact ⟨⟨j + 1, false, sv9, h8.n⟩, by simp; omega, (Sc (Sc (Sc (Sc (Sc Sn))))), G9, by simp only [hx]; exact S9, by simp only [hx]; exact hp, by simp only [hx, List.length_append, List.length_cons, List.length_nil]; omega, hlt⟩
   ·have hx : insP l s (j + 1) = ((insP l s j).1 ++ [s] ++ [l.getD j []], true) := by rw [hx0, if_pos ⟨hp.symm, hb⟩]
    repeat' (first | refine Yu ?_ | refine Yp ?_ | refine z6 ?_ | refine z8 ?_ | refine za ?_ | refine zk ?_ | (refine Yq ?_ ?_ <;> intro hc <;> try first | contradiction | omega) | refine zK ?_ | (refine wo_bsliceA rfl (by omega) fun h8 n8 b8 g8 => ?_) | refine Yx ?_ | refine Yz ?_ | refine Yy ?_)
    refine wo_addS rfl rfl (S.grew g8) b8 (by omega) (hcx.mono (by omega)) (fun i _ z => hall i z) (by omega) (by omega) (by omega) (by omega) fun h9 sv9 S9 n9 k9 => ?_
    have G9 : Grew h h9 := ⟨by omega, fun x hx => (k9 x hx).trans ((G.trans g8).get x hx)⟩
    have LG := LA.grew G9
    repeat' (first | refine Yu ?_ | refine Yp ?_ | refine z6 ?_ | refine z8 ?_ | refine za ?_ | refine zk ?_ | (refine Yq ?_ ?_ <;> intro hc <;> try first | contradiction | omega) | refine zK ?_ | (refine wo_bsliceA rfl (by omega) fun h18 n18 b18 g18 => ?_) | refine Yx ?_ | refine Yz ?_ | refine Yy ?_)
    refine wo_addS rfl rfl (S9.grew g18) b18 (by omega) (hcx.mono (by omega)) (fun i _ z => hall i z) (by omega) (by omega) (by omega) (by rw [List.length_append]; simp; omega) fun h19 sv19 S19 n19 k19 => ?_
    have G19 : Grew h h19 := ⟨by omega, fun x hx => (k19 x hx).trans ((G9.trans g18).get x hx)⟩
    repeat' (first | refine Yu ?_ | refine Yp ?_ | refine z6 ?_ | refine z8 ?_ | refine za ?_ | refine zk ?_ | (refine Yq ?_ ?_ <;> intro hc <;> try first | contradiction | omega) | refine zK ?_ | refine Yx ?_ | refine Yz ?_ | refine Yy ?_)
    exact ⟨⟨j + 1, true, sv19, h18.n⟩, by simp; omega, (Sc (Sc (Sc (Sc (Sc Sn))))), G19, by simp only [hx]; exact S19, by simp only [hx], by simp only [hx, List.length_append, List.length_cons, List.length_nil]; omega, hlt⟩
  ·have hx : insP l s (j + 1) = ((insP l s j).1 ++ [l.getD j []], (insP l s j).2) := by rw [hx0, if_neg (by rw [← hp]; simp)]
   repeat' (first | refine Yu ?_ | refine Yp ?_ | refine z6 ?_ | refine z8 ?_ | refine za ?_ | refine zk ?_ | (refine Yq ?_ ?_ <;> intro hc <;> try first | contradiction | omega) | refine zK ?_ | (refine wo_bsliceA rfl (by omega) fun h8 n8 b8 g8 => ?_) | refine Yx ?_ | refine Yz ?_ | refine Yy ?_)
   refine wo_addS rfl rfl (S.grew g8) b8 (by omega) (hcx.mono (by omega)) (fun i _ z => hall i z) (by omega) (by omega) (by omega) (by omega) fun h9 sv9 S9 n9 k9 => ?_
   have G9 : Grew h h9 := ⟨by omega, fun x hx => (k9 x hx).trans ((G.trans g8).get x hx)⟩
   repeat' (first | refine Yu ?_ | refine Yp ?_ | refine z6 ?_ | refine z8 ?_ | refine za ?_ | refine zk ?_ | (refine Yq ?_ ?_ <;> intro hc <;> try first | contradiction | omega) | refine zK ?_ | refine Yx ?_ | refine Yz ?_ | refine Yy ?_)
   exact ⟨⟨j + 1, true, sv9, h8.n⟩, by simp; omega, (Sc (Sc (Sc (Sc (Sc Sn))))), G9, by simp only [hx]; exact S9, by simp only [hx]; exact hp, by simp only [hx, List.length_append, List.length_cons, List.length_nil]; omega, hlt⟩
 ·have e : j = l.length := by omega
  subst e
  cases put
  ·have hl0 : (insP l s l.length).1.length = l.length := by rw [hlen, if_neg (by rw [← hp]; decide)]; rfl
   have hF : insF l s = (insP l s l.length).1 ++ [s] := by unfold insF; rw [if_neg (by rw [← hp]; simp)]
   repeat' (first | refine Yu ?_ | refine Yp ?_ | refine z6 ?_ | refine z8 ?_ | refine za ?_ | refine zk ?_ | (refine Yq ?_ ?_ <;> intro hc <;> try first | contradiction | omega) | refine zK ?_ | (refine wo_bsliceA rfl (by omega) fun h8 n8 b8 g8 => ?_) | refine Yx ?_ | refine Yz ?_ | refine Yy ?_)
   refine wo_addS rfl rfl (S.grew g8) b8 (by omega) (hcx.mono (by omega)) (fun i _ z => hall i z) (by omega) (by omega) (by omega) (by omega) fun h9 sv9 S9 n9 k9 => ?_
   have G9 : Grew h h9 := ⟨by omega, fun x hx => (k9 x hx).trans ((G.trans g8).get x hx)⟩
   repeat' (first | refine Yu ?_ | refine Yp ?_ | refine z6 ?_ | refine z8 ?_ | refine za ?_ | refine zk ?_ | (refine Yq ?_ ?_ <;> intro hc <;> try first | contradiction | omega) | refine zK ?_ | refine Yx ?_ | refine Yz ?_ | refine Yy ?_)
   rw [← hF] at S9
   exact ⟨Or.inr rfl, _, rfl, k _ _ _ G9 (by omega) S9⟩
  ·have hF : insF l s = (insP l s l.length).1 := by unfold insF; rw [if_pos hp.symm]
   repeat' (first | refine Yu ?_ | refine Yp ?_ | refine z6 ?_ | refine z8 ?_ | refine za ?_ | refine zk ?_ | (refine Yq ?_ ?_ <;> intro hc <;> try first | contradiction | omega) | refine zK ?_ | refine Yx ?_ | refine Yz ?_ | refine Yy ?_)
   rw [← hF] at S
   exact ⟨Or.inr rfl, _, rfl, k _ _ _ G (by omega) S⟩
theorem take_snoc {α : Type} {l : List α} {j : Nat} {d : α} (h : j < l.length) : l.take (j + 1) = l.take j ++ [l.getD j d] := by
 rw [List.take_add_one, List.getD_eq_getElem?_getD, List.getElem?_eq_getElem h]; rfl
structure FdI where
 j : Nat
 v : AV
 id : Nat
theorem rfields_ev {cl : List Dt} {cv fv : AV} {mn : Int} {s : List Nat} (hall : ∀ id, id < 10000000 → seen c.vis id = true) (hcx : Cx c h) (hn : h.n + 68000 < 10000000) (h12 : cl.length ≤ 12) (hF20 : ∀ i, i < cl.length → (dL 2 (el cl i)).length ≤ 20) (C : Sl 70 true h ShClass cl cv) (k : ∀ h' v id, Grew h h' → h'.n ≤ h.n + 68000 → SLo h.n h' v (rfieldsF cl s) id → K v h') : Gv Tryz.prog X0 Mx c 27 [.agg [cv, fv, .int .i64 mn], .str s] h K := by
 have hnt : (48 : Nat) ≤ 1000000 := by decide
 refine gv_fn x_rfields (Mx_no rfl _ _ _) (by simp) hnt ?_
 unfold s_rfields SR.S SR.c SR.l SR.m SR.o SR.p
 obtain ⟨id, rows, A, hr, hid, hrow⟩ := at_Class C
 have hlow := hcx.low
 have hs1 := hall h.n (by omega)
 have hcl := C.le
 repeat' (first | refine Yu ?_ | refine Yp ?_ | refine z6 ?_ | refine z8 ?_ | refine z9 ?_ | refine za ?_ | refine zh ?_ | refine zi ?_ | refine zj ?_ | refine zk ?_ | refine zl ?_ | (refine Yq ?_ ?_ <;> intro hc <;> try first | contradiction | omega) | (refine wo_boxA rfl rfl (by omega) fun h1 n1 b1 g1 => ?_) | refine zw ?_ | refine Yx ?_ | refine zx ?_ | refine Yz ?_ | refine Yy ?_)
 replace b1 : h1.get h.n = some (.cells [cv, fv, .int .i64 mn]) := b1
 refine wo_call rfl rfl (rSupers_ev hall (hcx.mono (by omega)) (by omega) h12 (C.grew g1) fun h2 sv sid g2 n2 SS => ?_)
 have hcm : ∀ x ∈ (chainR cl s).1, 0 ≤ findI (nms cl) x := chainR_mem
 have hcl13 := chainR_len (cl := cl) (s := s)
 have hnl : (nms cl).length = cl.length := nms_len
 generalize hch : (chainR cl s).1 = ch at SS hcm hcl13
 have hF : rfieldsF cl s = insAll (fldsA cl ch) := by unfold rfieldsF; rw [hch]
 obtain ⟨srows, SA, hsr, hsrow⟩ := SS.rows
 have L12 := g2.le
 have b2 := (g2.get h.n (by omega)).trans b1
 repeat' (first | refine Yu ?_ | refine Yp ?_ | refine z6 ?_ | refine z8 ?_ | refine z9 ?_ | refine za ?_ | refine zh ?_ | refine zi ?_ | refine zj ?_ | refine zk ?_ | refine zl ?_ | (refine Yq ?_ ?_ <;> intro hc <;> try first | contradiction | omega) | refine zw ?_ | refine Yx ?_ | refine zx ?_ | refine Yz ?_ | refine Yy ?_)
 refine wc_loopE (ι := FdI) (fun q => [(2, .ptr h.n 0), (5, q.v), (6, sv), (7, .int .i64 (q.j : Int))]) (fun q h' => Grew h2 h' ∧ SLo h2.n h' q.v (insAll (fldsA cl (ch.take q.j))) q.id ∧ h'.n ≤ h2.n + 2 * q.j + bq (fldsA cl (ch.take q.j)).length ∧ (fldsA cl (ch.take q.j)).length ≤ 20 * q.j ∧ q.j ≤ ch.length) (fun q => ch.length - q.j) ?_ ⟨0, .nils, 0⟩ ⟨Grew.refl _, by simpa [insAll, fldsA] using SLo.empty _ _, by simp [fldsA], by simp [fldsA], Nat.zero_le _⟩ (Sc (Sc (Sc (Sc Sn))))
 rintro ⟨j, v, vid⟩ h3 ⟨G, S, N3, hfl, hj⟩
 simp only at G S N3 hfl hj ⊢
 have L3 := G.le
 have gB := (g1.trans g2).trans G
 have B4 := (G.get h.n (by omega)).trans b2
 have hb1 := bq_le (a := (fldsA cl (ch.take j)).length) (b := 260) (by omega)
 rw [bq_top] at hb1
 by_cases hlt : j < ch.length
 ·have hfx := hcm _ (getD_mem hlt)
  have hw := hsrow j hlt
  have hown := SS.own (fun q => by rw [q] at hlt; simp at hlt)
  have hs2 := hall sid (by omega)
  have hfi : (findI (nms cl) (ch.getD j [])).toNat < cl.length := by have := findI_lt (l := nms cl) (s := ch.getD j []); omega
  have hsi := hall id (by have := hid (by omega); omega)
  obtain ⟨w2, w3, hwc, F, _, oc⟩ := hrow _ hfi
  have hF20 := hF20 _ hfi
  have SG := SA.grew G
  have AG := A.grew gB
  have htk : ch.take (j + 1) = ch.take j ++ [ch.getD j []] := take_snoc hlt
  have hfa : fldsA cl (ch.take (j + 1)) = fldsA cl (ch.take j) ++ fnames cl (ch.getD j []) := by rw [htk]; simp [fldsA]
  have hfn : (fnames cl (ch.getD j [])).length = (dL 2 (el cl (findI (nms cl) (ch.getD j [])).toNat)).length := by simp [fnames]
  generalize hjx : ch.getD j [] = nmx at hfx hfi hwc F oc hF20 hfa hfn hw
  obtain ⟨fid, frows, FA0, hfr, hfid, hfrow⟩ := at_Field F
  repeat' (first | refine Yu ?_ | refine Yp ?_ | refine z6 ?_ | refine z8 ?_ | refine z9 ?_ | refine za ?_ | refine zh ?_ | refine zi ?_ | refine zj ?_ | refine zk ?_ | refine zl ?_ | (refine Yq ?_ ?_ <;> intro hc <;> try first | contradiction | omega) | refine zw ?_ | refine Yx ?_ | refine zx ?_ | refine Yz ?_ | refine Yy ?_)
  refine rd_bar hnt rfl rfl (wo_call rfl rfl (rFind_ev (fun id q => by by_cases z : id < h3.n; exact seen_old (by repeat (first | exact rs_nil | refine rs_add (by omega) ?_)) (by omega) z (hall id q); exact seen_here (by omega) (by unfold big; omega)) (Cx.mem (by omega)) (by omega) (C.grew gB) fun h5 g5 n5 => ⟨(by repeat (first | exact unchF_nil | refine unchF_cons (by decide) ?_ | refine unchF_same (by assumption) ((g5.get _ (by omega)).trans (by assumption)) ?_)), ?_⟩))
  have g5l := g5.le
  have A5 := A.grew (gB.trans g5)
  repeat' (first | refine Yu ?_ | refine Yp ?_ | refine z6 ?_ | refine z8 ?_ | refine z9 ?_ | refine za ?_ | refine zh ?_ | refine zi ?_ | refine zj ?_ | refine zk ?_ | refine zl ?_ | (refine Yq ?_ ?_ <;> intro hc <;> try first | contradiction | omega) | refine zw ?_ | refine Yx ?_ | refine zx ?_ | refine Yz ?_ | refine Yy ?_)
  refine rd_bs hnt (by omega) (by omega) rfl rfl rfl rfl (by rfl) (by exact oc) (by decide) (fun k1 k2 e1 e2 => by repeat (first | exact unchF_nil | refine unchF_cons (by decide) ?_)) fun h6 n6 b6 g6 => ?_
  have g6l := g6.le
  have gC := (gB.trans g5).trans g6
  have hs5 := hall h5.n (by omega)
  have G := (G.trans g5).trans g6
  have S := S.grew (g5.trans g6)
  repeat' (first | refine Yu ?_ | refine Yp ?_ | refine z6 ?_ | refine z8 ?_ | refine z9 ?_ | refine za ?_ | refine zh ?_ | refine zi ?_ | refine zj ?_ | refine zk ?_ | refine zl ?_ | (refine Yq ?_ ?_ <;> intro hc <;> try first | contradiction | omega) | refine zw ?_ | refine Yx ?_ | refine zx ?_ | refine Yz ?_ | refine Yy ?_)
  clear SG AG A5
  refine wc_loopE (ι := FdI) (fun q => [(2, .ptr h.n 0), (5, q.v), (6, sv), (7, .int .i64 (j : Int)), (8, .ptr h5.n 0), (9, .int .i64 (q.j : Int))]) (fun q h' => Grew h2 h' ∧ Grew h6 h' ∧ SLo h2.n h' q.v (insAll (fldsA cl (ch.take j) ++ (fnames cl nmx).take q.j)) q.id ∧ h'.n ≤ h2.n + 2 * (j + 1) + bq ((fldsA cl (ch.take j)).length + q.j) ∧ q.j ≤ frows.length) (fun q => frows.length - q.j) ?_ ⟨0, v, vid⟩ ⟨G, Grew.refl _, by simpa using S, by simp only [Nat.add_zero]; omega, Nat.zero_le _⟩ (Sc (Sc (Sc (Sc (Sc (Sc Sn))))))
  clear G S B4
  rintro ⟨i, v', vid'⟩ h7 ⟨G, G7, S, N7, hi⟩
  simp only at G G7 S N7 hi ⊢
  have L7 := G7.le
  have B7 := (G7.get h5.n (by omega)).trans b6
  have hb2 := bq_le (a := (fldsA cl (ch.take j)).length + i) (b := 260) (by omega)
  rw [bq_top] at hb2
  by_cases hlt2 : i < frows.length
  ·obtain ⟨hw2, _⟩ := hfrow i (by omega)
   have FG := FA0.grew ((g1.trans g2).trans G)
   have hsf := hall fid (by have := hfid (by omega); omega)
   have hgd : (fnames cl nmx).getD i [] = dS 0 (el (dL 2 (el cl (findI (nms cl) nmx).toNat)) i) := by
    have hi2 : i < (dL 2 (el cl (findI (nms cl) nmx).toNat)).length := by omega
    exact nms_get hi2
   have htk2 : (fnames cl nmx).take (i + 1) = (fnames cl nmx).take i ++ [dS 0 (el (dL 2 (el cl (findI (nms cl) nmx).toNat)) i)] := by
    rw [take_snoc (d := []) (by omega), hgd]
   have hil : (insAll (fldsA cl (ch.take j) ++ (fnames cl nmx).take i)).length = (fldsA cl (ch.take j)).length + i := by rw [insAll_len, List.length_append, List.length_take]; omega
   have hbs : bq ((fldsA cl (ch.take j)).length + (i + 1)) = bq ((fldsA cl (ch.take j)).length + i) + (2 * ((fldsA cl (ch.take j)).length + i) + 2) := rfl
   have hb3 := bq_le (a := (fldsA cl (ch.take j)).length + (i + 1)) (b := 260) (by omega)
   rw [bq_top] at hb3
   repeat' (first | refine Yu ?_ | refine Yp ?_ | refine z6 ?_ | refine z8 ?_ | refine z9 ?_ | refine za ?_ | refine zh ?_ | refine zi ?_ | refine zj ?_ | refine zk ?_ | refine zl ?_ | (refine Yq ?_ ?_ <;> intro hc <;> try first | contradiction | omega) | refine zw ?_ | refine Yx ?_ | refine zx ?_ | refine Yz ?_ | refine Yy ?_)
   refine wo_call rfl rfl (insert_ev hall (hcx.mono (by omega)) (by omega) (by omega) S fun h8 v8 id8 g8 n8 S8 => ?_)
   repeat' (first | refine Yu ?_ | refine Yp ?_ | refine z6 ?_ | refine z8 ?_ | refine z9 ?_ | refine za ?_ | refine zh ?_ | refine zi ?_ | refine zj ?_ | refine zk ?_ | refine zl ?_ | (refine Yq ?_ ?_ <;> intro hc <;> try first | contradiction | omega) | refine zw ?_ | refine Yx ?_ | refine zx ?_ | refine Yz ?_ | refine Yy ?_)
   refine ⟨⟨i + 1, v8, id8⟩, by simp; omega, (Sc (Sc (Sc (Sc (Sc (Sc Sn)))))), G.trans g8, G7.trans g8, ?_, by simp only; omega, hlt2⟩
   simp only
   rw [htk2, ← List.append_assoc, insAll_snoc]
   exact S8.low (by omega)
  ·have e : i = (fnames cl nmx).length := by omega
   repeat' (first | refine Yu ?_ | refine Yp ?_ | refine z6 ?_ | refine z8 ?_ | refine z9 ?_ | refine za ?_ | refine zh ?_ | refine zi ?_ | refine zj ?_ | refine zk ?_ | refine zl ?_ | (refine Yq ?_ ?_ <;> intro hc <;> try first | contradiction | omega) | refine zw ?_ | refine Yx ?_ | refine zx ?_ | refine Yz ?_ | refine Yy ?_)
   have e2 : (fnames cl nmx).take i = fnames cl nmx := by rw [e, List.take_length]
   rw [e2, ← hfa] at S
   have hl2 : (fldsA cl (ch.take (j + 1))).length = (fldsA cl (ch.take j)).length + i := by rw [hfa, List.length_append]; omega
   exact ⟨⟨j + 1, v', vid'⟩, by simp; omega, (Sc (Sc (Sc (Sc Sn)))), G, S, by simp only; rw [hl2]; omega, by simp only; rw [hl2]; omega, hlt⟩
 ·have e : ch.take j = ch := List.take_of_length_le (by omega)
  rw [e] at S
  repeat' (first | refine Yu ?_ | refine Yp ?_ | refine z6 ?_ | refine z8 ?_ | refine z9 ?_ | refine za ?_ | refine zh ?_ | refine zi ?_ | refine zj ?_ | refine zk ?_ | refine zl ?_ | (refine Yq ?_ ?_ <;> intro hc <;> try first | contradiction | omega) | refine zw ?_ | refine Yx ?_ | refine zx ?_ | refine Yz ?_ | refine Yy ?_)
  rw [← hF] at S
  exact ⟨Or.inr rfl, _, rfl, k _ _ _ gB (by omega) (S.low (by omega))⟩
end Go.Proofs.YtmdceifbbmnfgaaGreatDoor.Ev