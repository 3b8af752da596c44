/- Program and reference: facts of variables, cells. -/
import Derived.Test.YtmdceifbbmnfgaaGreatDoorTfA
set_option linter.unusedVariables false
set_option linter.unusedSimpArgs false
set_option maxHeartbeats 4000000
namespace Go.Proofs.YtmdceifbbmnfgaaGreatDoor.Ev
open Go
open Classical
variable {c : C} {h : H} {K : AV → H → Prop}
structure SLr (esz n0 : Nat) (h : H) (v : AV) (l : List (List AV)) (id : Nat) : Prop where
 arr : Arr h v esz l id
 nil : l = [] → v = .nils
 own : l ≠ [] → n0 ≤ id ∧ id < h.n
theorem SLr.empty (esz n0 : Nat) (h : H) : SLr esz n0 h .nils [] 0 := ⟨⟨Or.inl ⟨rfl, Or.inl rfl⟩⟩, fun _ => rfl, fun q => absurd rfl q⟩
theorem SLr.grew {esz n0 : Nat} {h h' : H} {v : AV} {l : List (List AV)} {id : Nat} (a : SLr esz n0 h v l id) (g : Grew h h') : SLr esz n0 h' v l id :=
 ⟨a.arr.grew g, a.nil, fun q => ⟨(a.own q).1, Nat.lt_of_lt_of_le (a.own q).2 g.le⟩⟩
theorem SLr.low {esz n0 n1 : Nat} {h : H} {v : AV} {l : List (List AV)} {id : Nat} (a : SLr esz n1 h v l id) (hle : n0 ≤ n1) : SLr esz n0 h v l id := ⟨a.arr, a.nil, fun q => ⟨Nat.le_trans hle (a.own q).1, (a.own q).2⟩⟩
theorem wo_addR {P : Program} {X : Exts} {M : Mf} {env : Env'} {s x : XV} {sv : AV} {esz : Nat} {l : List (List AV)} {id n0 xid : Nat} {w : List AV} {cap : Option Nat} (hs0 : evE env s = some sv) (hx : evE env x = some (.sl xid 0 1 esz cap)) (a : SLr esz n0 h sv l id) (hX : h.get xid = some (.cells w)) (hw : w.length = esz) (ho : ones w = true) (hxl : xid < h.n) (hsee : ∀ i, n0 ≤ i → i < 10000000 → seen c.vis i = true) (hxn : n0 ≤ xid) (hn : h.n < 10000000) (hfl : c.floor ≤ n0) (hl : l.length ≤ 999999)
  (hk : ∀ h' sv', SLr esz n0 h' sv' (l ++ [w]) h.n → h'.n = h.n + 1 → (∀ j, j < n0 → h'.get j = h.get j) → K sv' h') : WO P X M c (.append esz s x) env h K := by
 have A1 : Arr h (.sl xid 0 1 esz cap) esz [w] xid := Arr.mk' (rows := [w]) (by simp) hxl hX (by simp) (fun row hr => by simp at hr; subst hr; exact hw)
 refine wo_appArr hs0 hx a.arr ?_ A1 (by simp) (hsee xid hxn (by omega)) (by simpa using ho) (fun q => ?_) (by simp; omega) hn fun h' sv' A' e' g' => hk h' sv' ⟨A', fun q => absurd q (by simp), fun _ => ?_⟩ e' fun j hj => g' j ?_ fun q e => ?_
 ·by_cases q : l = []
  ·exact Or.inr (a.nil q)
  ·exact Or.inl q
 ·have := a.own q
  exact ⟨hsee id this.1 (by omega), by omega⟩
 ·omega
 ·omega
 ·have := a.own q; omega
def sitesC (i : Nat) (dl : List Dt) : Nat → List (Nat × Nat × List Nat)
 | 0 => []
 | j + 1 => sitesC i dl j ++ if dI 0 (el dl j) = 6 then [(i, j, dS 5 (el dl j))] else []
def sitesF (fl : List Dt) : Nat → List (Nat × Nat × List Nat)
 | 0 => []
 | i + 1 => sitesF fl i ++ sitesC i (dL 6 (el fl i)) (dL 6 (el fl i)).length
def codeN (fl : List Dt) : Nat → Nat
 | 0 => 0
 | i + 1 => codeN fl i + (dL 6 (el fl i)).length
theorem codeN_le {fl : List Dt} {i : Nat} : ∀ {n : Nat}, i ≤ n → codeN fl i ≤ codeN fl n
 | 0, h => by have : i = 0 := (by omega); subst this; exact Nat.le_refl _
 | n + 1, h => by
  by_cases q : i = n + 1
  ·subst q; exact Nat.le_refl _
  ·exact Nat.le_trans (codeN_le (n := n) (by omega)) (Nat.le_add_right _ _)
theorem sitesC_len {i : Nat} {dl : List Dt} : ∀ j, (sitesC i dl j).length ≤ j
 | 0 => Nat.le_refl _
 | j + 1 => by
  have := sitesC_len (i := i) (dl := dl) j
  simp only [sitesC, List.length_append]
  split <;> simp <;> omega
theorem sitesF_len {fl : List Dt} : ∀ i, (sitesF fl i).length ≤ codeN fl i
 | 0 => Nat.le_refl _
 | i + 1 => by
  have h1 := sitesF_len (fl := fl) i
  have h2 := sitesC_len (i := i) (dl := dL 6 (el fl i)) (dL 6 (el fl i)).length
  simp only [sitesF, List.length_append, codeN]
  omega
def siteRow (p : Nat × Nat × List Nat) : List AV := [.int .i64 (p.1 : Int), .int .i64 (p.2.1 : Int), .str p.2.2]
structure StI where
 i : Nat
 v : AV
 id : Nat
theorem rSites_ev {fl : List Dt} {cv fv : AV} {mn : Int} (hall : ∀ id, id < 10000000 → seen c.vis id = true) (hcx : Cx c h) (hn : h.n + 240 < 10000000) (h20 : fl.length ≤ 20) (hc : codeN fl fl.length ≤ 70) (F : Sl 70 true h ShFunc fl fv) (k : ∀ h' v id, Grew h h' → h'.n ≤ h.n + 240 → SLr 3 h.n h' v ((sitesF fl fl.length).map siteRow) id → K v h') : Gv Tryz.prog X0 Mx c 26 [.agg [cv, fv, .int .i64 mn]] h K := by
 have hnt : (52 : Nat) ≤ 1000000 := by decide
 refine gv_fn x_rSites (Mx_no rfl _ _ _) (by simp) hnt ?_
 unfold s_rSites SR.m SR.o
 obtain ⟨fid, frows, FA, hfr, hfid, hfrow⟩ := at_Func F
 have hlow := hcx.low
 have hfl := F.le
 have hs1 := hall h.n (by omega)
 repeat' (first | refine Yu ?_ | refine Yp ?_ | refine z6 ?_ | refine z8 ?_ | refine za ?_ | refine zh ?_ | refine zj ?_ | (refine Yq ?_ ?_ <;> intro hc <;> try first | contradiction | omega) | (refine wo_boxA rfl rfl (by omega) fun h1 n1 b1 g1 => ?_) | refine Yx ?_ | refine Yz ?_ | refine Yy ?_)
 replace b1 : h1.get h.n = some (.cells [cv, fv, .int .i64 mn]) := b1
 replace FA := FA.grew g1
 refine wc_loopE (ι := StI) (fun q => [(1, .ptr h.n 0), (3, q.v), (4, .int .i64 (q.i : Int))]) (fun q h' => Grew h1 h' ∧ SLr 3 h1.n h' q.v ((sitesF fl q.i).map siteRow) q.id ∧ h'.n ≤ h1.n + (q.i + 3 * codeN fl q.i) ∧ q.i ≤ fl.length) (fun q => fl.length - q.i) ?_ ⟨0, .nils, 0⟩ ⟨Grew.refl _, SLr.empty _ _ _, by simp, Nat.zero_le _⟩ (Sc (Sc (Sc Sn)))
 rintro ⟨i, v, sid⟩ h2 ⟨G, S, N2, hi⟩
 simp only at G S N2 hi ⊢
 have L2 := G.le
 have hci := codeN_le (fl := fl) hi
 have hlF := sitesF_len (fl := fl) i
 by_cases hlt : i < fl.length
 ·have hci1 := codeN_le (fl := fl) (i := i + 1) hlt
  have hcd : codeN fl (i + 1) = codeN fl i + (dL 6 (el fl i)).length := rfl
  obtain ⟨v4, v6, hw, V4, V6, oc⟩ := hfrow i hlt
  obtain ⟨did, drows, DA, hdr, hdid, hdrow⟩ := at_Instr V6
  have hsf := hall fid (by have := hfid (by omega); omega)
  have FG := FA.grew G
  have B1 := (G.get h.n (by omega)).trans b1
  repeat' (first | refine Yu ?_ | refine Yp ?_ | refine z6 ?_ | refine z8 ?_ | refine za ?_ | refine zh ?_ | refine zj ?_ | (refine Yq ?_ ?_ <;> intro hc <;> try first | contradiction | omega) | refine Yx ?_ | refine Yz ?_ | refine Yy ?_)
  have h3 := h2
  have g3 := Grew.refl h2
  clear FG B1
  refine wc_loopE (ι := StI) (fun q => [(1, .ptr h.n 0), (3, q.v), (4, .int .i64 (i : Int)), (5, .int .i64 (q.i : Int))]) (fun q h' => Grew h1 h' ∧ SLr 3 h1.n h' q.v ((sitesF fl i ++ sitesC i (dL 6 (el fl i)) q.i).map siteRow) q.id ∧ h'.n ≤ h2.n + 3 * q.i ∧ h2.n ≤ h'.n ∧ q.i ≤ drows.length) (fun q => drows.length - q.i) ?_ ⟨0, v, sid⟩ ⟨G, by simpa [sitesC] using S, by simp, Nat.le_refl _, Nat.zero_le _⟩ (Sc (Sc (Sc (Sc Sn))))
  clear G S
  rintro ⟨j, v', sid'⟩ h4 ⟨G, S, N4, L4, hj⟩
  simp only at G S N4 L4 hj ⊢
  have FG := FA.grew G
  have DG := DA.grew (g1.trans G)
  have B1 := (G.get h.n (by omega)).trans b1
  by_cases hl2 : j < drows.length
  ·obtain ⟨v9, hw2, _, oi⟩ := hdrow j (by omega)
   have hsd := hall did (by have := hdid (by omega); omega)
   have hlC := sitesC_len (i := i) (dl := dL 6 (el fl i)) j
   have hla : (sitesF fl i ++ sitesC i (dL 6 (el fl i)) j).length ≤ 70 := by rw [List.length_append]; omega
   have hsc : sitesC i (dL 6 (el fl i)) (j + 1) = sitesC i (dL 6 (el fl i)) j ++ if dI 0 (el (dL 6 (el fl i)) j) = 6 then [(i, j, dS 5 (el (dL 6 (el fl i)) j))] else [] := rfl
   repeat' (first | refine Yu ?_ | refine Yp ?_ | refine z6 ?_ | refine z8 ?_ | refine za ?_ | refine zh ?_ | refine zj ?_ | (refine Yq ?_ ?_ <;> intro hc <;> try first | contradiction | omega) | (refine wo_bsliceA rfl (by omega) fun h8 n8 b8 g8 => ?_) | refine Yx ?_ | refine Yz ?_ | refine Yy ?_)
   
   rotate_left
   ·exact ⟨⟨j + 1, v', sid'⟩, by simp; omega, (Sc (Sc (Sc (Sc Sn)))), G, by (try simp only); rw [hsc, if_neg (by assumption), List.append_nil]; exact S, by (try simp only); omega, by omega, hl2⟩
   refine wo_addR rfl rfl (S.grew g8) b8 (by rfl) (by rfl) (by omega) (fun i _ z => hall i z) (by omega) (by omega) (by omega) (by rw [List.length_map]; omega) fun h9 sv9 S9 n9 k9 => ?_
   repeat' (first | refine Yu ?_ | refine Yp ?_ | refine z6 ?_ | refine z8 ?_ | refine za ?_ | refine zh ?_ | refine zj ?_ | (refine Yq ?_ ?_ <;> intro hc <;> try first | contradiction | omega) | refine Yx ?_ | refine Yz ?_ | refine Yy ?_)
   refine ⟨⟨j + 1, sv9, h8.n⟩, by simp; omega, (Sc (Sc (Sc (Sc Sn)))), ⟨by omega, fun x hx => (k9 x hx).trans ((G.trans g8).get x hx)⟩, ?_, by (try simp only); omega, by (try simp only); omega, hl2⟩
   simp only
   rw [hsc, if_pos (by assumption), ← List.append_assoc, List.map_append]
   exact S9
  ·have e : j = (dL 6 (el fl i)).length := by omega
   repeat' (first | refine Yu ?_ | refine Yp ?_ | refine z6 ?_ | refine z8 ?_ | refine za ?_ | refine zh ?_ | refine zj ?_ | (refine Yq ?_ ?_ <;> intro hc <;> try first | contradiction | omega) | refine Yx ?_ | refine Yz ?_ | refine Yy ?_)
   subst e
   exact ⟨⟨i + 1, v', sid'⟩, by simp; omega, (Sc (Sc (Sc Sn))), G, S, by (try simp only); rw [hcd]; omega, hlt⟩
 ·have e : i = fl.length := by omega
  have FG := FA.grew G
  have B1 := (G.get h.n (by omega)).trans b1
  repeat' (first | refine Yu ?_ | refine Yp ?_ | refine z6 ?_ | refine z8 ?_ | refine za ?_ | refine zh ?_ | refine zj ?_ | (refine Yq ?_ ?_ <;> intro hc <;> try first | contradiction | omega) | refine Yx ?_ | refine Yz ?_ | refine Yy ?_)
  subst e
  exact ⟨Or.inr rfl, _, rfl, k _ _ _ (g1.trans G) (by omega) (S.low (by omega))⟩
theorem oSites_ev {fl : List Dt} {cv fv : AV} {mn : Int} (hall : ∀ id, id < 10000000 → seen c.vis id = true) (hcx : Cx c h) (hn : h.n + 240 < 10000000) (h20 : fl.length ≤ 20) (hc : codeN fl fl.length ≤ 70) (F : Sl 70 true h ShFunc fl fv) (k : ∀ h' v id, Grew h h' → h'.n ≤ h.n + 240 → SLr 3 h.n h' v ((sitesF fl fl.length).map siteRow) id → K v h') : Gv Tryz.prog X0 Mx c 23 [.agg [cv, fv, .int .i64 mn]] h K := by
 have hnt : (38 : Nat) ≤ 1000000 := by decide
 refine gv_fn x_oSites (Mx_no rfl _ _ _) (by simp) hnt ?_
 unfold s_oSites SR.m SR.o SR.s
 obtain ⟨fid, frows, FA, hfr, hfid, hfrow⟩ := at_Func F
 have hlow := hcx.low
 have hfl := F.le
 have hs1 := hall h.n (by omega)
 repeat' (first | refine Yu ?_ | refine Yp ?_ | refine z6 ?_ | refine z8 ?_ | refine za ?_ | refine zh ?_ | refine zl ?_ | (refine Yq ?_ ?_ <;> intro hc <;> try first | contradiction | omega) | (refine wo_boxA rfl rfl (by omega) fun h1 n1 b1 g1 => ?_) | refine Yx ?_ | refine Yz ?_ | refine Yy ?_)
 replace b1 : h1.get h.n = some (.cells [cv, fv, .int .i64 mn]) := b1
 replace FA := FA.grew g1
 refine wc_loopE (ι := StI) (fun q => [(3, q.v), (9, fv), (10, .int .i64 (frows.length : Int)), (11, .int .i64 (q.i : Int))]) (fun q h' => Grew h1 h' ∧ SLr 3 h1.n h' q.v ((sitesF fl q.i).map siteRow) q.id ∧ h'.n ≤ h1.n + (q.i + 3 * codeN fl q.i) ∧ q.i ≤ fl.length) (fun q => fl.length - q.i) ?_ ⟨0, .nils, 0⟩ ⟨Grew.refl _, SLr.empty _ _ _, by simp, Nat.zero_le _⟩ (Sc (Sc (Sc (Sc Sn))))
 rintro ⟨i, v, sid⟩ h2 ⟨G, S, N2, hi⟩
 simp only at G S N2 hi ⊢
 have L2 := G.le
 have hci := codeN_le (fl := fl) hi
 have hlF := sitesF_len (fl := fl) i
 by_cases hlt : i < fl.length
 ·have hci1 := codeN_le (fl := fl) (i := i + 1) hlt
  have hcd : codeN fl (i + 1) = codeN fl i + (dL 6 (el fl i)).length := rfl
  obtain ⟨v4, v6, hw, V4, V6, oc⟩ := hfrow i hlt
  obtain ⟨did, drows, DA, hdr, hdid, hdrow⟩ := at_Instr V6
  have hsf := hall fid (by have := hfid (by omega); omega)
  have FG := FA.grew G
  have B1 := (G.get h.n (by omega)).trans b1
  repeat' (first | refine Yu ?_ | refine Yp ?_ | refine z6 ?_ | refine z8 ?_ | refine za ?_ | refine zh ?_ | refine zl ?_ | (refine Yq ?_ ?_ <;> intro hc <;> try first | contradiction | omega) | refine Yx ?_ | refine Yz ?_ | refine Yy ?_)
  refine rg_bs1 hnt rfl (hcx.mono (by omega)) (by omega) rfl rfl rfl rfl (by rfl) (by rfl) (by exact oc) fun h3 n3 b3 g3 => ?_
  have hs3 := hall h2.n (by omega)
  have G := G.trans g3
  have S := S.grew g3
  repeat' (first | refine Yu ?_ | refine Yp ?_ | refine z6 ?_ | refine z8 ?_ | refine za ?_ | refine zh ?_ | refine zl ?_ | (refine Yq ?_ ?_ <;> intro hc <;> try first | contradiction | omega) | refine Yx ?_ | refine Yz ?_ | refine Yy ?_)
  clear FG B1
  refine wc_loopE (ι := StI) (fun q => [(3, q.v), (4, .int .i64 (i : Int)), (9, fv), (10, .int .i64 (frows.length : Int)), (11, .int .i64 (i : Int)), (17, v6), (18, .int .i64 (drows.length : Int)), (19, .int .i64 (q.i : Int))]) (fun q h' => Grew h1 h' ∧ SLr 3 h1.n h' q.v ((sitesF fl i ++ sitesC i (dL 6 (el fl i)) q.i).map siteRow) q.id ∧ h'.n ≤ h3.n + 3 * q.i ∧ h3.n ≤ h'.n ∧ q.i ≤ drows.length) (fun q => drows.length - q.i) ?_ ⟨0, v, sid⟩ ⟨G, by simpa [sitesC] using S, by simp, Nat.le_refl _, Nat.zero_le _⟩ (Sc (Sc (Sc (Sc (Sc (Sc (Sc (Sc Sn))))))))
  clear G S
  rintro ⟨j, v', sid'⟩ h4 ⟨G, S, N4, L4, hj⟩
  simp only at G S N4 L4 hj ⊢
  have FG := FA.grew G
  have DG := DA.grew (g1.trans G)
  have B1 := (G.get h.n (by omega)).trans b1
  by_cases hl2 : j < drows.length
  ·obtain ⟨v9, hw2, _, oi⟩ := hdrow j (by omega)
   have hsd := hall did (by have := hdid (by omega); omega)
   have hlC := sitesC_len (i := i) (dl := dL 6 (el fl i)) j
   have hla : (sitesF fl i ++ sitesC i (dL 6 (el fl i)) j).length ≤ 70 := by rw [List.length_append]; omega
   have hsc : sitesC i (dL 6 (el fl i)) (j + 1) = sitesC i (dL 6 (el fl i)) j ++ if dI 0 (el (dL 6 (el fl i)) j) = 6 then [(i, j, dS 5 (el (dL 6 (el fl i)) j))] else [] := rfl
   repeat' (first | refine Yu ?_ | refine Yp ?_ | refine z6 ?_ | refine z8 ?_ | refine za ?_ | refine zh ?_ | refine zl ?_ | (refine Yq ?_ ?_ <;> intro hc <;> try first | contradiction | omega) | (refine wo_bsliceA rfl (by omega) fun h8 n8 b8 g8 => ?_) | refine Yx ?_ | refine Yz ?_ | refine Yy ?_)
   refine rg_bs1 hnt rfl (hcx.mono (by omega)) (by omega) rfl rfl rfl rfl (by rfl) (by rfl) (by exact oi) fun h5 n5 b5 g5 => ?_
   have hs5 := hall h4.n (by omega)
   have G := G.trans g5
   have S := S.grew g5
   repeat' (first | refine Yu ?_ | refine Yp ?_ | refine z6 ?_ | refine z8 ?_ | refine za ?_ | refine zh ?_ | refine zl ?_ | (refine Yq ?_ ?_ <;> intro hc <;> try first | contradiction | omega) | (refine wo_bsliceA rfl (by omega) fun h8 n8 b8 g8 => ?_) | refine Yx ?_ | refine Yz ?_ | refine Yy ?_)
   rotate_left
   ·exact ⟨⟨j + 1, v', sid'⟩, by simp; omega, (Sc (Sc (Sc (Sc (Sc (Sc (Sc (Sc Sn)))))))), G, by (try simp only); rw [hsc, if_neg (by assumption), List.append_nil]; exact S, by (try simp only); omega, by omega, hl2⟩
   refine wo_addR rfl rfl (S.grew g8) b8 (by rfl) (by rfl) (by omega) (fun i _ z => hall i z) (by omega) (by omega) (by omega) (by rw [List.length_map]; omega) fun h9 sv9 S9 n9 k9 => ?_
   repeat' (first | refine Yu ?_ | refine Yp ?_ | refine z6 ?_ | refine z8 ?_ | refine za ?_ | refine zh ?_ | refine zl ?_ | (refine Yq ?_ ?_ <;> intro hc <;> try first | contradiction | omega) | refine Yx ?_ | refine Yz ?_ | refine Yy ?_)
   refine ⟨⟨j + 1, sv9, h8.n⟩, by simp; omega, (Sc (Sc (Sc (Sc (Sc (Sc (Sc (Sc Sn)))))))), ⟨by omega, fun x hx => (k9 x hx).trans ((G.trans g8).get x hx)⟩, ?_, by (try simp only); omega, by (try simp only); omega, hl2⟩
   simp only
   rw [hsc, if_pos (by assumption), ← List.append_assoc, List.map_append]
   exact S9
  ·have e : j = (dL 6 (el fl i)).length := by omega
   repeat' (first | refine Yu ?_ | refine Yp ?_ | refine z6 ?_ | refine z8 ?_ | refine za ?_ | refine zh ?_ | refine zl ?_ | (refine Yq ?_ ?_ <;> intro hc <;> try first | contradiction | omega) | refine Yx ?_ | refine Yz ?_ | refine Yy ?_)
   subst e
   exact ⟨⟨i + 1, v', sid'⟩, by simp; omega, (Sc (Sc (Sc (Sc Sn)))), G, S, by (try simp only); rw [hcd]; omega, hlt⟩
 ·have e : i = fl.length := by omega
  have FG := FA.grew G
  have B1 := (G.get h.n (by omega)).trans b1
  repeat' (first | refine Yu ?_ | refine Yp ?_ | refine z6 ?_ | refine z8 ?_ | refine za ?_ | refine zh ?_ | refine zl ?_ | (refine Yq ?_ ?_ <;> intro hc <;> try first | contradiction | omega) | refine Yx ?_ | refine Yz ?_ | refine Yy ?_)
  subst e
  exact ⟨Or.inr rfl, _, rfl, k _ _ _ (g1.trans G) (by omega) (S.low (by omega))⟩
def offN (fl : List Dt) : Nat → Nat
 | 0 => 0
 | i + 1 => offN fl i + (dL 4 (el fl i)).length + 2
theorem offN_le {fl : List Dt} (hV : ∀ i, i < fl.length → (dL 4 (el fl i)).length ≤ 70) : ∀ i, i ≤ fl.length → offN fl i ≤ 72 * i
 | 0, _ => Nat.le_refl _
 | i + 1, hi => by
  have h1 := offN_le hV i (by omega)
  have h2 := hV i (by omega)
  show offN fl i + (dL 4 (el fl i)).length + 2 ≤ _
  omega
def factI (fl : List Dt) (f v : Int) : Int := if f < 0 ∨ f ≥ (fl.length : Int) ∨ v < 0 ∨ v > ((dL 4 (el fl f.toNat)).length : Int) + 1 then -1 else 1 + (offN fl f.toNat : Int) + v
theorem offset_ev {fl : List Dt} {cv fv : AV} {mn : Int} {f : Nat} (hall : ∀ id, id < 10000000 → seen c.vis id = true) (hcx : Cx c h) (hn : h.n + 1 < 10000000) (hf : f ≤ fl.length) (h20 : fl.length ≤ 20) (hV : ∀ i, i < fl.length → (dL 4 (el fl i)).length ≤ 70) (F : Sl 70 true h ShFunc fl fv) (k : ∀ h', Grew h h' → h'.n ≤ h.n + 1 → K (.int .i64 (offN fl f : Int)) h') : Gv Tryz.prog X0 Mx c 22 [.agg [cv, fv, .int .i64 mn], .int .i64 (f : Int)] h K := by
 have hnt : (23 : Nat) ≤ 1000000 := by decide
 refine gv_fn x_offset (Mx_no rfl _ _ _) (by simp) hnt ?_
 unfold s_offset SR.o
 obtain ⟨fid, frows, FA, hfr, hfid, hfrow⟩ := at_Func F
 have hlow := hcx.low
 have hfl := F.le
 have hs1 := hall h.n (by omega)
 repeat' (first | refine Yu ?_ | refine Yp ?_ | refine z6 ?_ | refine z8 ?_ | refine za ?_ | refine zh ?_ | refine zj ?_ | (refine Yq ?_ ?_ <;> intro hc <;> try first | contradiction | omega) | (refine wo_boxA rfl rfl (by omega) fun h1 n1 b1 g1 => ?_) | refine Yx ?_ | refine Yz ?_ | refine Yy ?_)
 replace b1 : h1.get h.n = some (.cells [cv, fv, .int .i64 mn]) := b1
 replace FA := FA.grew g1
 refine wc_loopE (ι := Int × Nat) (fun s => [(1, .int .i64 (f : Int)), (2, .ptr h.n 0), (5, .int .i64 s.1), (6, .int .i64 (s.2 : Int))]) (fun s h' => h' = h1 ∧ s.2 ≤ f ∧ s.1 = (offN fl s.2 : Int)) (fun s => f - s.2) ?_ (0, 0) ⟨rfl, Nat.zero_le _, rfl⟩ (Sc (Sc (Sc (Sc Sn))))
 rintro ⟨s, j⟩ h' ⟨hh, hj, hs⟩
 have hh2 := hh.symm
 subst hh2
 simp only at hj hs ⊢
 have hle := offN_le hV j (by omega)
 by_cases hlt : j < f
 ·obtain ⟨v4, v6, hw, V4, V6, oc⟩ := hfrow j (by omega)
  obtain ⟨vid, vrows, VA, hvr, hvid, hvrow⟩ := at_Field V4
  have hsf := hall fid (by have := hfid (by omega); omega)
  have ho : offN fl (j + 1) = offN fl j + (dL 4 (el fl j)).length + 2 := rfl
  have h70 := hV j (by omega)
  repeat' (first | refine Yu ?_ | refine Yp ?_ | refine z6 ?_ | refine z8 ?_ | refine za ?_ | refine zh ?_ | refine zj ?_ | (refine Yq ?_ ?_ <;> intro hc <;> try first | contradiction | omega) | refine Yx ?_ | refine Yz ?_ | refine Yy ?_)
  exact ⟨(_, j + 1), by simp; omega, (Sc (Sc (Sc (Sc Sn)))), rfl, hlt, by simp only; omega⟩
 ·have e : j = f := by omega
  subst e
  repeat' (first | refine Yu ?_ | refine Yp ?_ | refine z6 ?_ | refine z8 ?_ | refine za ?_ | refine zh ?_ | refine zj ?_ | (refine Yq ?_ ?_ <;> intro hc <;> try first | contradiction | omega) | refine Yx ?_ | refine Yz ?_ | refine Yy ?_)
  subst hs
  exact ⟨Or.inr rfl, _, rfl, k _ g1 (by omega)⟩
theorem rFact_ev {fl : List Dt} {cv fv : AV} {mn : Int} {f v : Int} (hall : ∀ id, id < 10000000 → seen c.vis id = true) (hcx : Cx c h) (hn : h.n + 2 < 10000000) (h20 : fl.length ≤ 20) (hV : ∀ i, i < fl.length → (dL 4 (el fl i)).length ≤ 70) (F : Sl 70 true h ShFunc fl fv) (k : ∀ r h', r = factI fl f v → Grew h h' → h'.n ≤ h.n + 2 → K (.int .i64 r) h') : Gv Tryz.prog X0 Mx c 13 [.agg [cv, fv, .int .i64 mn], .int .i64 f, .int .i64 v] h K := by
 have hnt : (38 : Nat) ≤ 1000000 := by decide
 refine gv_fn x_rFact (Mx_no rfl _ _ _) (by simp) hnt ?_
 unfold s_rFact SR.g SR.m SR.o
 obtain ⟨fid, frows, FA, hfr, hfid, hfrow⟩ := at_Func F
 have hlow := hcx.low
 have hfl := F.le
 have hs1 := hall h.n (by omega)
 refine Yc (Yd (rg_go hnt rfl rfl (wo_boxA rfl rfl (by omega) fun h1 n1 b1 g1 => ?_)))
 replace b1 : h1.get h.n = some (.cells [cv, fv, .int .i64 mn]) := b1
 replace FA := FA.grew g1
 by_cases hf : 0 ≤ f ∧ f < (fl.length : Int)
 ·obtain ⟨v4, v6, hw, V4, V6, oc⟩ := hfrow f.toNat (by omega)
  obtain ⟨vid, vrows, VA, hvr, hvid, hvrow⟩ := at_Field V4
  have hsf := hall fid (by have := hfid (by omega); omega)
  have h70 := hV f.toNat (by omega)
  have hle := offN_le hV f.toNat (by omega)
  have hfe : f = ((f.toNat : Nat) : Int) := by omega
  repeat' (first | refine Yu ?_ | refine Yp ?_ | refine z6 ?_ | refine z9 ?_ | refine za ?_ | refine zh ?_ | refine zi ?_ | refine zj ?_ | (refine Yq ?_ ?_ <;> intro hc <;> try first | contradiction | omega) | refine Yx ?_ | refine Yy ?_)
  all_goals try exact ⟨Or.inr rfl, _, rfl, k _ _ (by unfold factI; split <;> omega) g1 (by omega)⟩
  all_goals rw [hfe]
  all_goals refine wo_call rfl rfl (offset_ev (fl := fl) (f := f.toNat) hall (hcx.mono (by omega)) (by omega) (by omega) h20 hV (F.grew g1) fun h2 g2 n2 => ?_)
  all_goals repeat' (first | refine Yu ?_ | refine Yp ?_ | refine z6 ?_ | refine z9 ?_ | refine za ?_ | refine zh ?_ | refine zi ?_ | refine zj ?_ | (refine Yq ?_ ?_ <;> intro hc <;> try first | contradiction | omega) | refine Yx ?_ | refine Yy ?_)
  all_goals exact ⟨Or.inr rfl, _, rfl, k _ _ (by unfold factI; split <;> omega) (g1.trans g2) (by omega)⟩
 ·repeat' (first | refine Yu ?_ | refine Yp ?_ | refine z6 ?_ | refine z9 ?_ | refine za ?_ | refine zh ?_ | refine zi ?_ | refine zj ?_ | (refine Yq ?_ ?_ <;> intro hc <;> try first | contradiction | omega) | refine Yx ?_ | refine Yy ?_)
  all_goals exact ⟨Or.inr rfl, _, rfl, k _ _ (by unfold factI; split <;> omega) g1 (by omega)⟩
theorem rVarFact_ev {fl : List Dt} {cv fv : AV} {mn : Int} {f v : Int} (hall : ∀ id, id < 10000000 → seen c.vis id = true) (hcx : Cx c h) (hn : h.n + 3 < 10000000) (h20 : fl.length ≤ 20) (hV : ∀ i, i < fl.length → (dL 4 (el fl i)).length ≤ 70) (F : Sl 70 true h ShFunc fl fv) (k : ∀ r h', r = factI fl f v → Grew h h' → h'.n ≤ h.n + 3 → K (.int .i64 r) h') : Gv Tryz.prog X0 Mx c 6 [.agg [cv, fv, .int .i64 mn], .int .i64 f, .int .i64 v] h K := by
 have hnt : (11 : Nat) ≤ 1000000 := by decide
 refine gv_fn x_rVarFact (Mx_no rfl _ _ _) (by simp) hnt ?_
 unfold s_rVarFact SR.m SR.o
 obtain ⟨fid, frows, FA, hfr, hfid, hfrow⟩ := at_Func F
 have hlow := hcx.low
 have hfl := F.le
 have hs1 := hall h.n (by omega)
 repeat' (first | refine Yu ?_ | refine Yp ?_ | refine zi ?_ | (refine wo_boxA rfl rfl (by omega) fun h1 n1 b1 g1 => ?_) | refine Yx ?_ | refine Yy ?_)
 refine wo_call rfl rfl (rFact_ev hall (hcx.mono (by omega)) (by omega) h20 hV (F.grew g1) fun r h2 hr g2 n2 => ?_)
 repeat' (first | refine Yu ?_ | refine Yp ?_ | refine zi ?_ | refine Yx ?_ | refine Yy ?_)
 exact ⟨Or.inr rfl, _, rfl, k _ _ hr (g1.trans g2) (by omega)⟩
theorem Count_ev {fl : List Dt} {cv fv : AV} {mn : Int} (hall : ∀ id, id < 10000000 → seen c.vis id = true) (hcx : Cx c h) (hn : h.n + 2 < 10000000) (h20 : fl.length ≤ 20) (hV : ∀ i, i < fl.length → (dL 4 (el fl i)).length ≤ 70) (F : Sl 70 true h ShFunc fl fv) (k : ∀ h', Grew h h' → h'.n ≤ h.n + 2 → K (.int .i64 ((1 + offN fl fl.length : Nat) : Int)) h') : Gv Tryz.prog X0 Mx c 17 [.agg [cv, fv, .int .i64 mn]] h K := by
 have hnt : (9 : Nat) ≤ 1000000 := by decide
 refine gv_fn x_Count (Mx_no rfl _ _ _) (by simp) hnt ?_
 unfold s_Count SR.m SR.o
 obtain ⟨fid, frows, FA, hfr, hfid, hfrow⟩ := at_Func F
 have hlow := hcx.low
 have hfl := F.le
 have hs1 := hall h.n (by omega)
 repeat' (first | refine Yu ?_ | refine Yp ?_ | refine z6 ?_ | refine za ?_ | refine zh ?_ | refine zi ?_ | (refine wo_boxA rfl rfl (by omega) fun h1 n1 b1 g1 => ?_) | refine Yx ?_ | refine Yy ?_)
 replace b1 : h1.get h.n = some (.cells [cv, fv, .int .i64 mn]) := b1
 replace FA := FA.grew g1
 refine wo_call rfl rfl ?_
 rw [hfr]
 refine offset_ev (fl := fl) (f := fl.length) hall (hcx.mono (by omega)) (by omega) (Nat.le_refl _) h20 hV (F.grew g1) fun h2 g2 n2 => ?_
 have hle := offN_le hV fl.length (Nat.le_refl _)
 repeat' (first | refine Yu ?_ | refine Yp ?_ | refine z6 ?_ | refine za ?_ | refine zh ?_ | refine zi ?_ | refine Yx ?_ | refine Yy ?_)
 have e : (1 : Int) + (offN fl fl.length : Int) = ((1 + offN fl fl.length : Nat) : Int) := by omega
 rw [e]
 exact ⟨Or.inr rfl, _, rfl, k _ (g1.trans g2) (by omega)⟩
theorem uFact_ev {fl : List Dt} {cv fv : AV} {mn : Int} {f v : Int} (hall : ∀ id, id < 10000000 → seen c.vis id = true) (hcx : Cx c h) (hn : h.n + 21 < 10000000) (h20 : fl.length ≤ 20) (hV : ∀ i, i < fl.length → (dL 4 (el fl i)).length ≤ 70) (F : Sl 70 true h ShFunc fl fv) (k : ∀ r h', r = factI fl f v → Grew h h' → h'.n ≤ h.n + 21 → K (.int .i64 r) h') : Gv Tryz.prog X0 Mx c 12 [.agg [cv, fv, .int .i64 mn], .int .i64 f, .int .i64 v] h K := by
 have hnt : (54 : Nat) ≤ 1000000 := by decide
 refine gv_fn x_uFact (Mx_no rfl _ _ _) (by simp) hnt ?_
 unfold s_uFact SR.g SR.o SR.s
 obtain ⟨fid, frows, FA, hfr, hfid, hfrow⟩ := at_Func F
 have hlow := hcx.low
 have hfl := F.le
 have hs1 := hall h.n (by omega)
 refine Yc (Yd (rg_go hnt rfl rfl (wo_boxA rfl rfl (by omega) fun h1 n1 b1 g1 => ?_)))
 replace b1 : h1.get h.n = some (.cells [cv, fv, .int .i64 mn]) := b1
 replace FA := FA.grew g1
 by_cases hf : 0 ≤ f ∧ f < (fl.length : Int)
 ·obtain ⟨v4, v6, hw, V4, V6, oc⟩ := hfrow f.toNat (by omega)
  obtain ⟨vid, vrows, VA, hvr, hvid, hvrow⟩ := at_Field V4
  have hsf := hall fid (by have := hfid (by omega); omega)
  have h70 := hV f.toNat (by omega)
  obtain ⟨⟨cap, ecap⟩, _⟩ := FA.full (by omega)
  have hfe : f = ((f.toNat : Nat) : Int) := by omega
  generalize f.toNat = m at hw V4 V6 oc hvr hvid hvrow h70 hfe
  subst hfe
  repeat' (first | refine Yu ?_ | refine Yp ?_ | refine z6 ?_ | refine z7 ?_ | refine z8 ?_ | refine za ?_ | refine zh ?_ | refine zj ?_ | refine zl ?_ | (refine Yq ?_ ?_ <;> intro hc <;> try first | contradiction | omega) | refine Yx ?_ | refine Yz ?_ | refine Yy ?_)
  all_goals try exact ⟨Or.inr rfl, _, rfl, k _ _ (by unfold factI; rw [Int.toNat_natCast]; split <;> omega) g1 (by omega)⟩
  all_goals refine wo_slice (l := 0) (u := m) (id := fid) (off := 0) (n := frows.length) (es := 7) (cap := cap) (by rw [← ecap]; rfl) rfl rfl (by omega) (by omega) rfl ?_
  all_goals repeat' (first | refine Yu ?_ | refine Yp ?_ | refine z6 ?_ | refine z7 ?_ | refine z8 ?_ | refine za ?_ | refine zh ?_ | refine zj ?_ | refine zl ?_ | (refine Yq ?_ ?_ <;> intro hc <;> try first | contradiction | omega) | refine Yx ?_ | refine Yz ?_ | refine Yy ?_)
  all_goals refine wc_loopE (ι := Int × Nat) (fun s => [(7, .int .i64 s.1), (40, .sl fid (0 + 0 * 7) (m - 0) 7 (cap.map fun q => q - 0)), (41, .int .i64 ((m - 0 : Nat) : Int)), (42, .int .i64 (s.2 : Int))]) (fun s h' => Grew h1 h' ∧ h'.n ≤ h1.n + s.2 ∧ s.2 ≤ m ∧ s.1 = 1 + v + (offN fl s.2 : Int)) (fun s => m - s.2) ?_ (1 + v, 0) ⟨Grew.refl _, by simp, Nat.zero_le _, by simp [offN]⟩ (Sc (Sc (Sc (Sc Sn))))
  all_goals rintro ⟨s, j⟩ h2 ⟨G, N2, hj, hs⟩
  all_goals simp only at N2 hj hs ⊢
  all_goals have L2 := G.le
  all_goals have hle := offN_le hV j (by omega)
  all_goals by_cases hlt : j < m
  all_goals try (
   obtain ⟨w4, w6, hx, W4, W6, ox⟩ := hfrow j (by omega)
   obtain ⟨wid, wrows, WA, hwr, hwid, hwrow⟩ := at_Field W4
   have T := (FA.grew G).take (m := m) (cap := cap.map fun q => q - 0) (by omega) (by omega)
   have hy : (frows.take m)[j]? = some _ := (List.getElem?_take_of_lt hlt).trans hx
   have htl : (frows.take m).length = m := by rw [List.length_take]; omega
   have ho : offN fl (j + 1) = offN fl j + (dL 4 (el fl j)).length + 2 := rfl
   have hv7 := hV j (by omega)
   repeat' (first | refine Yu ?_ | refine Yp ?_ | refine z6 ?_ | refine z7 ?_ | refine z8 ?_ | refine za ?_ | refine zh ?_ | refine zj ?_ | refine zl ?_ | (refine Yq ?_ ?_ <;> intro hc <;> try first | contradiction | omega) | refine Yx ?_ | refine Yz ?_ | refine Yy ?_)
   refine rg_bs hnt (hcx.mono (by omega)) (by omega) rfl rfl rfl rfl (by rfl) (by exact ox) fun h3 n3 b3 g3 => ?_
   have hs3 := hall h2.n (by omega)
   repeat' (first | refine Yu ?_ | refine Yp ?_ | refine z6 ?_ | refine z7 ?_ | refine z8 ?_ | refine za ?_ | refine zh ?_ | refine zj ?_ | refine zl ?_ | (refine Yq ?_ ?_ <;> intro hc <;> try first | contradiction | omega) | refine Yx ?_ | refine Yz ?_ | refine Yy ?_)
   exact ⟨(_, j + 1), by simp; omega, (Sc (Sc (Sc (Sc Sn)))), G.trans g3, by simp only; omega, hlt, by simp only; omega⟩)
  all_goals repeat' (first | refine Yu ?_ | refine Yp ?_ | refine z6 ?_ | refine z7 ?_ | refine z8 ?_ | refine za ?_ | refine zh ?_ | refine zj ?_ | refine zl ?_ | (refine Yq ?_ ?_ <;> intro hc <;> try first | contradiction | omega) | refine Yx ?_ | refine Yz ?_ | refine Yy ?_)
  all_goals exact ⟨Or.inr rfl, _, rfl, k _ _ (by have e : j = m := (by omega); subst e; unfold factI; rw [Int.toNat_natCast]; split <;> omega) (g1.trans G) (by omega)⟩
 ·repeat' (first | refine Yu ?_ | refine Yp ?_ | refine z6 ?_ | refine z7 ?_ | refine z8 ?_ | refine za ?_ | refine zh ?_ | refine zj ?_ | refine zl ?_ | (refine Yq ?_ ?_ <;> intro hc <;> try first | contradiction | omega) | refine Yx ?_ | refine Yz ?_ | refine Yy ?_)
  all_goals exact ⟨Or.inr rfl, _, rfl, k _ _ (by unfold factI; split <;> omega) g1 (by omega)⟩
theorem tVarFact_ev {fl : List Dt} {cv fv : AV} {mn : Int} {f v : Int} (hall : ∀ id, id < 10000000 → seen c.vis id = true) (hcx : Cx c h) (hn : h.n + 22 < 10000000) (h20 : fl.length ≤ 20) (hV : ∀ i, i < fl.length → (dL 4 (el fl i)).length ≤ 70) (F : Sl 70 true h ShFunc fl fv) (k : ∀ r h', r = factI fl f v → Grew h h' → h'.n ≤ h.n + 22 → K (.int .i64 r) h') : Gv Tryz.prog X0 Mx c 5 [.agg [cv, fv, .int .i64 mn], .int .i64 f, .int .i64 v] h K := by
 have hnt : (11 : Nat) ≤ 1000000 := by decide
 refine gv_fn x_tVarFact (Mx_no rfl _ _ _) (by simp) hnt ?_
 unfold s_tVarFact SR.m SR.o
 obtain ⟨fid, frows, FA, hfr, hfid, hfrow⟩ := at_Func F
 have hlow := hcx.low
 have hfl := F.le
 have hs1 := hall h.n (by omega)
 repeat' (first | refine Yu ?_ | refine Yp ?_ | refine zi ?_ | (refine wo_boxA rfl rfl (by omega) fun h1 n1 b1 g1 => ?_) | refine Yx ?_ | refine Yy ?_)
 refine wo_call rfl rfl (uFact_ev hall (hcx.mono (by omega)) (by omega) h20 hV (F.grew g1) fun r h2 hr g2 n2 => ?_)
 repeat' (first | refine Yu ?_ | refine Yp ?_ | refine zi ?_ | refine Yx ?_ | refine Yy ?_)
 exact ⟨Or.inr rfl, _, rfl, k _ _ hr (g1.trans g2) (by omega)⟩
end Go.Proofs.YtmdceifbbmnfgaaGreatDoor.Ev
