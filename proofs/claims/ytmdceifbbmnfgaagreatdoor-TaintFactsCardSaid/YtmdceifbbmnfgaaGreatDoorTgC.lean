/- Reference and program: cells, small units, sites. -/
import Derived.Test.YtmdceifbbmnfgaaGreatDoorTgB
import Derived.Test.YtmdceifbbmnfgaaGreatDoorTgA
import Derived.Test.YtmdceifbbmnfgaaGreatDoorTfW
import Derived.Test.YtmdceifbbmnfgaaGreatDoorSyI
set_option linter.unusedVariables false
set_option linter.unusedSimpArgs false
set_option maxHeartbeats 4000000
namespace Go.Proofs.YtmdceifbbmnfgaaGreatDoor.Ev
open Go
open Classical
variable {c : C} {h : H} {K : AV → H → Prop}
theorem fnames_len {cl : List Dt} (hF : ∀ i, i < cl.length → (dL 2 (el cl i)).length ≤ 20) (n : List Nat) : (fnames cl n).length ≤ 20 := by
 unfold fnames
 rw [List.length_map]
 by_cases q : (findI (nms cl) n).toNat < cl.length
 ·exact hF _ q
 ·have : el cl (findI (nms cl) n).toNat = .int 0 := by simp [el, List.getElem?_eq_none (Nat.le_of_not_lt q)]
  rw [this]
  simp [dL]
theorem fldsA_len {cl : List Dt} (hF : ∀ i, i < cl.length → (dL 2 (el cl i)).length ≤ 20) : ∀ l : List (List Nat), (fldsA cl l).length ≤ 20 * l.length
 | [] => Nat.le_refl _
 | n :: l => by
  have h1 := fldsA_len hF l
  have h2 := fnames_len hF n
  simp only [fldsA, List.flatMap_cons, List.length_append, List.length_cons] at h1 ⊢
  omega
theorem rfieldsF_len {cl : List Dt} (h12 : cl.length ≤ 12) (hF : ∀ i, i < cl.length → (dL 2 (el cl i)).length ≤ 20) (s : List Nat) : (rfieldsF cl s).length ≤ 260 := by
 have h1 := fldsA_len hF (chainR cl s).1
 have h2 := chainR_len (cl := cl) (s := s)
 rw [rfieldsF, insAll_len]
 omega
abbrev St := Nat × Nat × List Nat
def cellsA (cl : List Dt) (ss : List St) : Nat → List (Nat × List Nat)
 | 0 => []
 | s + 1 => cellsA cl ss s ++ (rfieldsF cl (ss.getD s (0, 0, [])).2.2).map fun n => (s, n)
theorem cellsA_len {cl : List Dt} (h12 : cl.length ≤ 12) (hF : ∀ i, i < cl.length → (dL 2 (el cl i)).length ≤ 20) (ss : List St) : ∀ s, (cellsA cl ss s).length ≤ 260 * s
 | 0 => Nat.le_refl _
 | s + 1 => by
  have h1 := cellsA_len h12 hF ss s
  have h2 := rfieldsF_len h12 hF (ss.getD s (0, 0, [])).2.2
  simp only [cellsA, List.length_append, List.length_map]
  omega
theorem wo_addK {P : Program} {X : Exts} {M : Mf} {env : Env'} {s x : XV} {sv : AV} {esz : Nat} {l : List (List AV)} {id n0 xid : Nat} {w : List AV} {cap : Option Nat} (hs0 : evE env s = some sv) (hx : evE env x = some (.sl xid 0 1 esz cap)) (a : SLr esz n0 h sv l id) (hX : h.get xid = some (.cells w)) (hw : w.length = esz) (ho : ones w = true) (hxl : xid < h.n) (hsee : ∀ i, n0 ≤ i → i < 10000000 → seen c.vis i = true) (hxn : n0 ≤ xid) (hn : h.n < 10000000) (hfl : c.floor ≤ n0) (hl : l.length ≤ 999999)
  (hk : ∀ h' sv', SLr esz n0 h' sv' (l ++ [w]) h.n → h'.n = h.n + 1 → (∀ j, j < n0 → h'.get j = h.get j) → (∀ j, j < h.n → (l ≠ [] → j ≠ id) → h'.get j = h.get j) → K sv' h') : WO P X M c (.append esz s x) env h K := by
 have A1 : Arr h (.sl xid 0 1 esz cap) esz [w] xid := Arr.mk' (rows := [w]) (by simp) hxl hX (by simp) (fun row hr => by simp at hr; subst hr; exact hw)
 refine wo_appArr hs0 hx a.arr ?_ A1 (by simp) (hsee xid hxn (by omega)) (by simpa using ho) (fun q => ?_) (by simp; omega) hn fun h' sv' A' e' g' => hk h' sv' ⟨A', fun q => absurd q (by simp), fun _ => ?_⟩ e' (fun j hj => g' j ?_ fun q e => ?_) g'
 ·by_cases q : l = []
  ·exact Or.inr (a.nil q)
  ·exact Or.inl q
 ·have := a.own q
  exact ⟨hsee id this.1 (by omega), by omega⟩
 ·omega
 ·omega
 ·have := a.own q; omega
def cellRow (p : Nat × List Nat) : List AV := [.int .i64 (p.1 : Int), .str p.2]
structure CeI where
 j : Nat
 v : AV
 id : Nat
theorem zT {P : Program} {X : Exts} {M : Mf} {env : Env'} {neg : Bool} {x y : XV} {a1 b1 : Int} {a2 b2 : List Nat} (ht : a1 = b1 → a2 = b2 → K (.bool (bne true neg)) h) (hf : ¬ (a1 = b1 ∧ a2 = b2) → K (.bool (bne false neg)) h) (hx : evE env x = some (.agg [.int .i64 a1, .str a2]) := by exact rfl) (hy : evE env y = some (.agg [.int .i64 b1, .str b2]) := by exact rfl) : WO P X M c (.eql (.st [.int, .str]) neg x y) env h K := by
 have e : (SQ.st [.int, .str]).den (.agg [.int .i64 a1, .str a2]) (.agg [.int .i64 b1, .str b2]) = some (decide (a1 = b1 ∧ a2 = b2)) := by
  show eqFs [eqInt, eqStr] [.int .i64 a1, .str a2] [.int .i64 b1, .str b2] = _
  simp only [eqFs, eqInt_dec, eqStr, eqL_eq]
  by_cases q : a1 = b1
  ·subst q
   by_cases q2 : a2 = b2
   ·subst q2; simp
   ·simp [q2]
  ·simp [q]
 by_cases q : a1 = b1 ∧ a2 = b2
 ·rw [decide_eq_true q] at e; exact wo_eql hx hy e (ht q.1 q.2)
 ·rw [decide_eq_false q] at e; exact wo_eql hx hy e (hf q)
theorem Cells_ev {cl fl : List Dt} {cv fv : AV} {mn : Int} (hall : ∀ id, id < 10000000 → seen c.vis id = true) (hcx : Cx c h) (hn : h.n + 4802300 < 10000000) (h12 : cl.length ≤ 12) (hF20 : ∀ i, i < cl.length → (dL 2 (el cl i)).length ≤ 20) (h20 : fl.length ≤ 20) (hc : codeN fl fl.length ≤ 70) (C : Sl 70 true h ShClass cl cv) (F : Sl 70 true h ShFunc fl fv) (k : ∀ h' v id, Grew h h' → h'.n ≤ h.n + 4802300 → SLr 2 h.n h' v ((cellsA cl (sitesF fl fl.length) (sitesF fl fl.length).length).map cellRow) id → K v h') : Gv Tryz.prog X0 Mx c 16 [.agg [cv, fv, .int .i64 mn]] h K := by
 have hnt : (39 : Nat) ≤ 1000000 := by decide
 refine gv_fn x_Cells (Mx_no rfl _ _ _) (by simp) hnt ?_
 unfold s_Cells SR.c SR.l SR.m SR.o SR.p
 have hlow := hcx.low
 have hs1 := hall h.n (by omega)
 repeat' (first | refine Yu ?_ | refine Yp ?_ | refine z6 ?_ | refine z8 ?_ | refine za ?_ | refine zi ?_ | refine zj ?_ | refine zk ?_ | (refine Yq ?_ ?_ <;> intro hc <;> try first | contradiction | omega) | (refine wo_boxA rfl rfl (by omega) fun h1 n1 b1 g1 => ?_) | refine Yx ?_ | refine Yv ?_ | refine zx ?_ | refine Yz ?_ | refine Yy ?_)
 replace b1 : h1.get h.n = some (.cells [cv, fv, .int .i64 mn]) := b1
 refine wo_call rfl rfl (rSites_ev hall (hcx.mono (by omega)) (by omega) h20 hc (F.grew g1) fun h2 sv sid g2 n2 SS => ?_)
 have hsl := sitesF_len (fl := fl) fl.length
 generalize hss : sitesF fl fl.length = ss at SS hsl k
 have L12 := g2.le
 have b2 := (g2.get h.n (by omega)).trans b1
 have hssr : (ss.map siteRow).length = ss.length := List.length_map ..
 have hssg : ∀ j, j < ss.length → (ss.map siteRow)[j]? = some (siteRow (ss.getD j (0, 0, []))) := fun j hj => by simp [hj]
 have SA := SS.arr
 have hso : ss ≠ [] → sid < h2.n := fun q => (SS.own (by simpa using q)).2
 generalize ss.map siteRow = srows at SA hssr hssg
 repeat' (first | refine Yu ?_ | refine Yp ?_ | refine z6 ?_ | refine z8 ?_ | refine za ?_ | refine zi ?_ | refine zj ?_ | refine zk ?_ | (refine Yq ?_ ?_ <;> intro hc <;> try first | contradiction | omega) | refine Yx ?_ | refine Yv ?_ | refine zx ?_ | refine Yz ?_ | refine Yy ?_)
 refine wc_loopE (ι := CeI) (fun q => [(1, .ptr h.n 0), (3, q.v), (4, sv), (5, .int .i64 (q.j : Int))]) (fun q h' => Grew h2 h' ∧ SLr 2 h2.n h' q.v ((cellsA cl ss q.j).map cellRow) q.id ∧ h'.n ≤ h2.n + 68600 * q.j ∧ q.j ≤ ss.length) (fun q => ss.length - q.j) ?_ ⟨0, .nils, 0⟩ ⟨Grew.refl _, SLr.empty _ _ _, by simp, Nat.zero_le _⟩ (Sc (Sc (Sc (Sc Sn))))
 rintro ⟨j, v, vid⟩ h3 ⟨G, S, N3, hj⟩
 simp only at G S N3 hj ⊢
 have L3 := G.le
 have gB := (g1.trans g2).trans G
 have B4 := (G.get h.n (by omega)).trans b2
 have hst : ∀ a, a ≤ h3.n + 68600 → a ≤ h2.n + 68600 * (j + 1) := fun a ha => bud_step ha N3
 have hclen := cellsA_len h12 hF20 ss j
 by_cases hlt : j < ss.length
 ·have N4 : h3.n ≤ h2.n + 4733400 := bud_leG N3 (show j ≤ 69 by omega) (by decide)
  clear N3
  have hw := hssg j hlt
  unfold siteRow at hw
  have hsi := hso (fun q => by rw [q] at hlt; simp at hlt)
  have hs2 := hall sid (by omega)
  have SG := SA.grew G
  have hca : cellsA cl ss (j + 1) = cellsA cl ss j ++ (rfieldsF cl (ss.getD j (0, 0, [])).2.2).map fun n => (j, n) := rfl
  have hrl := rfieldsF_len h12 hF20 (ss.getD j (0, 0, [])).2.2
  repeat' (first | refine Yu ?_ | refine Yp ?_ | refine z6 ?_ | refine z8 ?_ | refine za ?_ | refine zi ?_ | refine zj ?_ | refine zk ?_ | (refine Yq ?_ ?_ <;> intro hc <;> try first | contradiction | omega) | refine Yx ?_ | refine Yv ?_ | refine zx ?_ | refine Yz ?_ | refine Yy ?_)
  refine rd_bar hnt rfl rfl (wo_call rfl rfl (rfields_ev (fun id q => by by_cases z : id < h3.n; exact seen_old (by repeat (first | exact rs_nil | refine rs_add (by omega) ?_)) (by omega) z (hall id q); exact seen_here (by omega) (by unfold big; omega)) (Cx.mem (by omega)) (by omega) h12 hF20 (C.grew gB) fun h5 v5 id5 g5 n5 S5 => ⟨(by repeat (first | exact unchF_nil | refine unchF_cons (by decide) ?_ | refine unchF_same (by assumption) ((g5.get _ (by omega)).trans (by assumption)) ?_)), ?_⟩))
  have g5l := g5.le
  have hown3 := fun q => (S.own q).2
  have G := G.trans g5
  have S := S.grew g5
  generalize rfieldsF cl (ss.getD j (0, 0, [])).2.2 = nl at S5 hca hrl
  obtain ⟨nrows, NA, hnr, hnrow⟩ := S5.rows
  repeat' (first | refine Yu ?_ | refine Yp ?_ | refine z6 ?_ | refine z8 ?_ | refine za ?_ | refine zi ?_ | refine zj ?_ | refine zk ?_ | (refine Yq ?_ ?_ <;> intro hc <;> try first | contradiction | omega) | refine Yx ?_ | refine Yv ?_ | refine zx ?_ | refine Yz ?_ | refine Yy ?_)
  refine wc_loopE (ι := CeI) (fun q => [(1, .ptr h.n 0), (3, q.v), (4, sv), (5, .int .i64 (j : Int)), (6, v5), (7, .int .i64 (q.j : Int))]) (fun q h' => Grew h2 h' ∧ h5.n ≤ h'.n ∧ (nl ≠ [] → h'.get id5 = h5.get id5) ∧ (((cellsA cl ss j ++ (nl.map fun n => (j, n)).take q.j).map cellRow) ≠ [] → q.id < h3.n ∨ h5.n ≤ q.id) ∧ SLr 2 h2.n h' q.v ((cellsA cl ss j ++ (nl.map fun n => (j, n)).take q.j).map cellRow) q.id ∧ h'.n ≤ h5.n + 2 * q.j ∧ q.j ≤ nl.length) (fun q => nl.length - q.j) ?_ ⟨0, v, vid⟩ ⟨G, Nat.le_refl _, fun _ => rfl, fun q => Or.inl (hown3 (by simpa using q)), by simpa using S, by simp, Nat.zero_le _⟩ (Sc (Sc (Sc (Sc (Sc (Sc Sn))))))
  clear G S B4
  rintro ⟨i, v', vid'⟩ h7 ⟨G, L7, G7, D7, S, N7, hi⟩
  simp only at G L7 G7 D7 S N7 hi ⊢
  by_cases hlt2 : i < nl.length
  ·have hwn := hnrow i hlt2
   have hn0 : nl ≠ [] := fun q => by rw [q] at hlt2; simp at hlt2
   have how5 := S5.own hn0
   have hs5 := hall id5 (by omega)
   have NG := NA.keep L7 (fun _ => G7 hn0)
   have htk2 : (nl.map fun n => (j, n)).take (i + 1) = (nl.map fun n => (j, n)).take i ++ [(j, nl.getD i [])] := by
    rw [take_snoc (d := (j, [])) (by rw [List.length_map]; exact hlt2)]
    simp [hlt2]
   have hil : (cellsA cl ss j ++ (nl.map fun n => (j, n)).take i).length ≤ 20000 := by rw [List.length_append, List.length_take]; omega
   repeat' (first | refine Yu ?_ | refine Yp ?_ | refine z6 ?_ | refine z8 ?_ | refine za ?_ | refine zi ?_ | refine zj ?_ | refine zk ?_ | (refine Yq ?_ ?_ <;> intro hc <;> try first | contradiction | omega) | (refine wo_bsliceA rfl (by omega) fun h8 n8 b8 g8 => ?_) | refine Yx ?_ | refine Yv ?_ | refine zx ?_ | refine Yz ?_ | refine Yy ?_)
   refine wo_addK rfl rfl (S.grew g8) b8 (by rfl) (by rfl) (by omega) (fun i _ z => hall i z) (by omega) (by omega) (by omega) (by rw [List.length_map]; omega) fun h9 sv9 S9 n9 k9 m9 => ?_
   repeat' (first | refine Yu ?_ | refine Yp ?_ | refine z6 ?_ | refine z8 ?_ | refine za ?_ | refine zi ?_ | refine zj ?_ | refine zk ?_ | (refine Yq ?_ ?_ <;> intro hc <;> try first | contradiction | omega) | refine Yx ?_ | refine Yv ?_ | refine zx ?_ | refine Yz ?_ | refine Yy ?_)
   refine ⟨⟨i + 1, sv9, h8.n⟩, by simp; omega, (Sc (Sc (Sc (Sc (Sc (Sc Sn)))))), ⟨by omega, fun x hx => (k9 x hx).trans ((G.trans g8).get x hx)⟩, by omega, fun _ => (m9 id5 (by omega) (fun q e => by have := D7 q; omega)).trans ((g8.get id5 (by omega)).trans (G7 hn0)), fun _ => Or.inr (by simp only; omega), ?_, by simp only; omega, hlt2⟩
   ·simp only
    rw [htk2, ← List.append_assoc, List.map_append]
    exact S9
  ·have e : i = (nl.map fun n => (j, n)).length := by rw [List.length_map]; omega
   repeat' (first | refine Yu ?_ | refine Yp ?_ | refine z6 ?_ | refine z8 ?_ | refine za ?_ | refine zi ?_ | refine zj ?_ | refine zk ?_ | (refine Yq ?_ ?_ <;> intro hc <;> try first | contradiction | omega) | refine Yx ?_ | refine Yv ?_ | refine zx ?_ | refine Yz ?_ | refine Yy ?_)
   have e2 : (nl.map fun n => (j, n)).take i = nl.map fun n => (j, n) := by rw [e, List.take_length]
   rw [e2, ← hca] at S
   exact ⟨⟨j + 1, v', vid'⟩, by simp; omega, (Sc (Sc (Sc (Sc Sn)))), G, S, hst _ (by omega), hlt⟩
 ·have N4 : h3.n ≤ h2.n + 4802000 := bud_leG N3 (show j ≤ 70 by omega) (by decide)
  have e : j = ss.length := by omega
  subst e
  repeat' (first | refine Yu ?_ | refine Yp ?_ | refine z6 ?_ | refine z8 ?_ | refine za ?_ | refine zi ?_ | refine zj ?_ | refine zk ?_ | (refine Yq ?_ ?_ <;> intro hc <;> try first | contradiction | omega) | refine Yx ?_ | refine Yv ?_ | refine zx ?_ | refine Yz ?_ | refine Yy ?_)
  exact ⟨Or.inr rfl, _, rfl, k _ _ _ gB (by omega) (S.low (by omega))⟩
def CellR (L : List (Nat × List Nat)) (n : Nat) (st : Int) (fd : List Nat) (r : Int) : Prop := (∃ j, j < L.length ∧ ((L.getD j (0, [])).1 : Int) = st ∧ (L.getD j (0, [])).2 = fd ∧ (∀ i, i < j → ¬ (((L.getD i (0, [])).1 : Int) = st ∧ (L.getD i (0, [])).2 = fd)) ∧ r = (n : Int) + j) ∨ ((∀ i, i < L.length → ¬ (((L.getD i (0, [])).1 : Int) = st ∧ (L.getD i (0, [])).2 = fd)) ∧ r = -1)
theorem rCellFact_ev {cl fl : List Dt} {cv fv : AV} {mn : Int} {st : Int} {fd : List Nat} (hall : ∀ id, id < 10000000 → seen c.vis id = true) (hcx : Cx c h) (hn : h.n + 4802310 < 10000000) (h12 : cl.length ≤ 12) (hF20 : ∀ i, i < cl.length → (dL 2 (el cl i)).length ≤ 20) (hV : ∀ i, i < fl.length → (dL 4 (el fl i)).length ≤ 70) (h20 : fl.length ≤ 20) (hc : codeN fl fl.length ≤ 70) (C : Sl 70 true h ShClass cl cv) (F : Sl 70 true h ShFunc fl fv) (k : ∀ r h', CellR (cellsA cl (sitesF fl fl.length) (sitesF fl fl.length).length) (1 + offN fl fl.length) st fd r → Grew h h' → h'.n ≤ h.n + 4802310 → K (.int .i64 r) h') : Gv Tryz.prog X0 Mx c 8 [.agg [cv, fv, .int .i64 mn], .agg [.int .i64 st, .str fd]] h K := by
 have hnt : (25 : Nat) ≤ 1000000 := by decide
 refine gv_fn x_rCellFact (Mx_no rfl _ _ _) (by simp) hnt ?_
 unfold s_rCellFact SR.l SR.m SR.o SR.p
 have hlow := hcx.low
 have hs1 := hall h.n (by omega)
 refine Yc (Yd (rg_go hnt rfl rfl (wo_boxA rfl rfl (by omega) fun h1 n1 b1 g1 => ?_)))
 have hs2 := hall h1.n (by omega)
 refine rg_go hnt rfl rfl (wo_boxA rfl rfl (by omega) fun h2 n2 b2 g2 => ?_)
 replace b1 : h2.get h.n = some (.cells [cv, fv, .int .i64 mn]) := (g2.get h.n (by omega)).trans b1
 replace b2 : h2.get h1.n = some (.cells [.int .i64 st, .str fd]) := b2
 have g0 := g1.trans g2
 repeat' (first | refine Yu ?_ | refine Yp ?_ | refine z6 ?_ | refine z8 ?_ | refine za ?_ | refine zi ?_ | refine zl ?_ | (refine Yq ?_ ?_ <;> intro hc <;> try first | contradiction | omega) | refine Yx ?_ | refine Yv ?_ | refine zx ?_ | refine Yz ?_ | refine Yy ?_)
 refine wo_call rfl rfl (Cells_ev hall (hcx.mono (by omega)) (by omega) h12 hF20 h20 hc (C.grew g0) (F.grew g0) fun h3 v vid g3 n3 S => ?_)
 have L3 := g3.le
 have hclen := cellsA_len h12 hF20 (sitesF fl fl.length) (sitesF fl fl.length).length
 have hsl := sitesF_len (fl := fl) fl.length
 generalize cellsA cl (sitesF fl fl.length) (sitesF fl fl.length).length = L at S k hclen
 have hrl : (L.map cellRow).length = L.length := List.length_map ..
 have hrg : ∀ j, j < L.length → (L.map cellRow)[j]? = some (cellRow (L.getD j (0, []))) := fun j hj => by simp [hj]
 have hown : L ≠ [] → vid < h3.n := fun q => (S.own (by simpa using q)).2
 have SA := S.arr
 generalize L.map cellRow = rows at SA hrl hrg
 have b1 := (g3.get h.n (by omega)).trans b1
 have b2 := (g3.get h1.n (by omega)).trans b2
 repeat' (first | refine Yu ?_ | refine Yp ?_ | refine z6 ?_ | refine z8 ?_ | refine za ?_ | refine zi ?_ | refine zl ?_ | (refine Yq ?_ ?_ <;> intro hc <;> try first | contradiction | omega) | refine Yx ?_ | refine Yv ?_ | refine zx ?_ | refine Yz ?_ | refine Yy ?_)
 refine wc_loopE (ι := Nat) (fun j => [(2, .ptr h.n 0), (3, .ptr h1.n 0), (5, v), (6, .int .i64 (j : Int))]) (fun j h' => h' = h3 ∧ j ≤ L.length ∧ (∀ i, i < j → ¬ (((L.getD i (0, [])).1 : Int) = st ∧ (L.getD i (0, [])).2 = fd))) (fun j => L.length - j) ?_ 0 ⟨rfl, Nat.zero_le _, fun i hi => absurd hi (by omega)⟩ (Sc (Sc (Sc (Sc Sn))))
 rintro j h' ⟨hh, hj, hno⟩
 have hh2 := hh.symm
 subst hh2
 by_cases hlt : j < L.length
 ·have hw := hrg j hlt
  have hvi := hown (fun q => by rw [q] at hlt; simp at hlt)
  have hsv := hall vid (by omega)
  unfold cellRow at hw
  repeat' (first | refine Yu ?_ | refine Yp ?_ | refine z6 ?_ | refine z8 ?_ | refine za ?_ | refine zi ?_ | refine zl ?_ | (refine Yq ?_ ?_ <;> intro hc <;> try first | contradiction | omega) | (refine zT ?_ ?_ <;> intro hc) | refine Yx ?_ | refine Yv ?_ | refine zx ?_ | refine Yz ?_ | refine Yy ?_)
  ·intro hd
   repeat' (first | refine Yu ?_ | refine Yp ?_ | refine z6 ?_ | refine z8 ?_ | refine za ?_ | refine zi ?_ | refine zl ?_ | (refine Yq ?_ ?_ <;> intro hc <;> try first | contradiction | omega) | refine Yx ?_ | refine Yv ?_ | refine zx ?_ | refine Yz ?_ | refine Yy ?_)
   refine wo_call rfl rfl (Count_ev hall (hcx.mono (by omega)) (by omega) h20 hV (F.grew (g0.trans g3)) fun h4 g4 n4 => ?_)
   have hle := offN_le hV fl.length (Nat.le_refl _)
   repeat' (first | refine Yu ?_ | refine Yp ?_ | refine z6 ?_ | refine z8 ?_ | refine za ?_ | refine zi ?_ | refine zl ?_ | (refine Yq ?_ ?_ <;> intro hc <;> try first | contradiction | omega) | refine Yx ?_ | refine Yv ?_ | refine zx ?_ | refine Yz ?_ | refine Yy ?_)
   exact ⟨Or.inr rfl, _, rfl, k _ _ (Or.inl ⟨j, hlt, hc, hd, hno, rfl⟩) ((g0.trans g3).trans g4) (by omega)⟩
  ·repeat' (first | refine Yu ?_ | refine Yp ?_ | refine z6 ?_ | refine z8 ?_ | refine za ?_ | refine zi ?_ | refine zl ?_ | (refine Yq ?_ ?_ <;> intro hc <;> try first | contradiction | omega) | refine Yx ?_ | refine Yv ?_ | refine zx ?_ | refine Yz ?_ | refine Yy ?_)
   exact ⟨j + 1, by simp; omega, (Sc (Sc (Sc (Sc Sn)))), rfl, hlt, fun i hi q => by
    by_cases e : i = j
    ·subst e; exact hc q
    ·exact hno i (by omega) q⟩
 ·repeat' (first | refine Yu ?_ | refine Yp ?_ | refine z6 ?_ | refine z8 ?_ | refine za ?_ | refine zi ?_ | refine zl ?_ | (refine Yq ?_ ?_ <;> intro hc <;> try first | contradiction | omega) | refine Yx ?_ | refine Yv ?_ | refine zx ?_ | refine Yz ?_ | refine Yy ?_)
  exact ⟨Or.inr rfl, _, rfl, k _ _ (Or.inr ⟨fun i hi => hno i (by omega), rfl⟩) (g0.trans g3) (by omega)⟩
end Go.Proofs.YtmdceifbbmnfgaaGreatDoor.Ev
namespace Go.Proofs.YtmdceifbbmnfgaaGreatDoor.Ev
open Go
variable {c : C} {h : H} {K : AV → H → Prop}
theorem dL_le {l : List Dt} {k : Nat} {d : Dt} (h : l[k]? = some d) : (dL k (.row l)).length ≤ d.len := by
 unfold dL
 simp only [h]
 cases d <;> simp [Dt.len]
theorem dL_6 {a b c d e f : Dt} {l : List Dt} : dL 6 (.row [a, b, c, d, e, f, .arr l]) = l := rfl
def ClsL (d : Dt) : Prop := (dL 2 d).length ≤ 20 ∧ (dL 3 d).length ≤ 20 ∧ ∀ j, j < (dL 3 d).length → (dL 2 (el (dL 3 d) j)).length ≤ 20
def FunL (d : Dt) : Prop := (dL 4 d).length ≤ 70 ∧ (dL 6 d).length ≤ 70 ∧ ∀ j, j < (dL 6 d).length → (dL 7 (el (dL 6 d) j)).length ≤ 20
theorem Fit_ev (hall : ∀ id, id < 10000000 → seen c.vis id = true) {d : Dt} {cs : List AV} (hcx : Cx c h) (hn : h.n + 14 < 10000000) (r : Rp 70 false h ShUnit d cs) (kf : ∀ h', Grew h h' → h'.n ≤ h.n + 14 → K (.bool false) h') (kt : nb ShUnit d → FitR (dL 0 (dR 0 d)) (dL 1 d) → codeN (dL 1 d) (dL 1 d).length ≤ 70 → ∀ h', Grew h h' → h'.n ≤ h.n + 14 → K (.bool true) h') :
  Gv Tryz.prog X0 Mx c 10 [.agg cs, .int .i64 70] h K := by
 have hnt : (110 : Nat) ≤ 1000000 := by decide
 have hlow := hcx.low
 obtain ⟨a5, av5, a7, av7, a9, rfl, rfl, ar5, ar7⟩ := rpf_Unit r
 refine gv_fn x_Fit (Mx_no rfl _ _ _) (by simp) hnt ?_
 unfold s_Fit SR.g SR.o SR.s
 refine Yc (Yd (rg_go hnt rfl rfl (wo_boxA rfl rfl (by omega) fun h1 hn1 hb1 hg1 => ?_)))
 have hb12 : h1.get h.n = some (.cells [av5, av7, .int .i64 a9]) := hb1
 have hs1 : seen c.vis h.n = true := hcx.new (Nat.le_refl _) (by omega)
 repeat' (first | refine Yu ?_ | refine Yp ?_ | refine z6 ?_ | refine zL ?_ | refine z8 ?_ | refine za ?_ | refine zh ?_ | refine zj ?_ | refine zl ?_ | (refine Yq ?_ ?_ <;> intro hc <;> try first | contradiction | omega) | refine Yx ?_ | refine Yz ?_ | refine Yy ?_)
 rotate_right
 ·obtain ⟨l1, rfl, hL1, S1⟩ := rp_in ar5 (by omega)
  obtain ⟨id1, r1, o1, A1, e1, p1⟩ := S1.out
  have hz1 : (ShClass : Sh).sz = 4 := rfl
  rw [hz1] at A1
  have hB1 : (Dt.arr l1).len = l1.length := rfl
  obtain ⟨l2, rfl, hL2, S2⟩ := rp_in ar7 (by omega)
  obtain ⟨id2, r2, o2, A2, e2, p2⟩ := S2.out
  have hz2 : (ShFunc : Sh).sz = 7 := rfl
  rw [hz2] at A2
  have hB2 : (Dt.arr l2).len = l2.length := rfl
  refine wc_loopE (ι := Nat) (fun j => [(1, .int .i64 70), (2, .ptr h.n 0), (5, .int .i64 (j : Int))]) (fun j h' => Grew h1 h' ∧ h'.n ≤ h1.n + j ∧ j ≤ l1.length ∧ ∀ i, i < j → (nb ShClass (l1.getD i (.int 0)) ∧ ClsL (l1.getD i (.int 0)))) (fun j => l1.length - j) ?_ 0 ⟨Grew.refl _, by omega, Nat.zero_le _, fun i hi => absurd hi (by omega)⟩ (Sc (Sc (Sc Sn)))
  rintro j h' ⟨hgr, hle, hj, hnb⟩
  have hgl := hgr.le
  have hc12 := (hgr.get h.n (by omega)).trans hb12
  have hgB := hg1.trans hgr
  have C1 := A1.grew hgB
  by_cases hlt : j < l1.length
  ·have g4 : r1[j]? = some (r1[j]'(by omega)) := List.getElem?_eq_getElem (by omega)
   have hid4 : id1 < h.n := by
    rcases A1.at_ with ⟨q, _⟩ | ⟨_, _, q, _⟩
    ·rw [q] at e1; simp at e1; omega
    ·exact q
   have hse4 := hall id1 (by omega)
   have m4 : l1[j]? = some (l1.getD j (.int 0)) := by simp [show j < l1.length by omega]
   have t4 := p1 j _ _ m4 g4
   generalize r1[j]'(by omega) = w4 at g4 t4
   generalize hE4 : l1.getD j (.int 0) = x4 at m4 t4
   have o4 := t4.ones
   obtain ⟨u3, u5, u7, uv7, u9, uv9, rfl, rfl, ur7, ur9⟩ := rpf_Class t4
   repeat' (first | refine Yu ?_ | refine Yp ?_ | refine z6 ?_ | refine zL ?_ | refine z8 ?_ | refine za ?_ | refine zh ?_ | refine zj ?_ | refine zl ?_ | (refine Yq ?_ ?_ <;> intro hc <;> try first | contradiction | omega) | refine Yx ?_ | refine Yz ?_ | refine Yy ?_)
   refine rg_bs hnt (hcx.mono (by omega)) (by omega) rfl rfl rfl rfl (by rfl) (by exact o4) fun h3 hn3 hb3 hg3 => ?_
   have hs3 : seen c.vis h'.n = true := hcx.new (by omega) (by omega)
   have hgC := hgB.trans hg3
   repeat' (first | refine Yu ?_ | refine Yp ?_ | refine z6 ?_ | refine zL ?_ | refine z8 ?_ | refine za ?_ | refine zh ?_ | refine zj ?_ | refine zl ?_ | (refine Yq ?_ ?_ <;> intro hc <;> try first | contradiction | omega) | refine Yx ?_ | refine Yz ?_ | refine Yy ?_)
   rotate_right
   ·obtain ⟨l3, rfl, hL3, S3⟩ := rp_in ur9 (by omega)
    obtain ⟨id3, r3, o3, A3, e3, p3⟩ := S3.out
    have hz3 : (ShSig : Sh).sz = 4 := rfl
    rw [hz3] at A3
    have hB3 : (Dt.arr l3).len = l3.length := rfl
    have C3 := A3.grew hgC
    refine wc_loopE (ι := Nat) (fun jj => [(1, .int .i64 70), (2, .ptr h.n 0), (5, .int .i64 (j : Int)), (6, .ptr h'.n 0), (7, .int .i64 (jj : Int))]) (fun jj h4 => h4 = h3 ∧ jj ≤ l3.length ∧ ∀ i, i < jj → (dL 2 (el l3 i)).length ≤ 20) (fun jj => l3.length - jj) ?_ 0 ⟨rfl, Nat.zero_le _, fun i hi => absurd hi (by omega)⟩ (Sc (Sc (Sc (Sc (Sc Sn)))))
    rintro jj h4 ⟨hh, hjj, hsg⟩
    have hh2 : h3 = h4 := hh.symm
    subst hh2
    by_cases hltt : jj < l3.length
    ·have g6 : r3[jj]? = some (r3[jj]'(by omega)) := List.getElem?_eq_getElem (by omega)
     have hid6 : id3 < h.n := by
      rcases A3.at_ with ⟨q, _⟩ | ⟨_, _, q, _⟩
      ·rw [q] at e3; simp at e3; omega
      ·exact q
     have hse6 := hall id3 (by omega)
     have m6 : l3[jj]? = some (l3.getD jj (.int 0)) := by simp [show jj < l3.length by omega]
     have t6 := p3 jj _ _ m6 g6
     generalize r3[jj]'(by omega) = w6 at g6 t6
     generalize hE6 : l3.getD jj (.int 0) = x6 at m6 t6
     have o6 := t6.ones
     obtain ⟨y3, y5, y7, yv7, y9, rfl, rfl, yr7⟩ := rpf_Sig t6
     repeat' (first | refine Yu ?_ | refine Yp ?_ | refine z6 ?_ | refine zL ?_ | refine z8 ?_ | refine za ?_ | refine zh ?_ | refine zj ?_ | refine zl ?_ | (refine Yq ?_ ?_ <;> intro hc <;> try first | contradiction | omega) | refine Yx ?_ | refine Yz ?_ | refine Yy ?_)
     ·exact ⟨Or.inr rfl, _, rfl, kf _ hgC (by omega)⟩
     ·exact ⟨jj + 1, by simp; omega, (Sc (Sc (Sc (Sc (Sc Sn))))), rfl, hltt, fun i hi => by by_cases q : i < jj; exact hsg i q; have q : i = jj := (by omega); subst q; show (dL 2 (l3.getD i (.int 0))).length ≤ 20; rw [hE6]; exact Nat.le_trans (dL_le rfl) (by omega)⟩
    ·repeat' (first | refine Yu ?_ | refine Yp ?_ | refine z6 ?_ | refine zL ?_ | refine z8 ?_ | refine za ?_ | refine zh ?_ | refine zj ?_ | refine zl ?_ | (refine Yq ?_ ?_ <;> intro hc <;> try first | contradiction | omega) | refine Yx ?_ | refine Yz ?_ | refine Yy ?_)
     exact ⟨j + 1, by simp; omega, (Sc (Sc (Sc Sn))), hgr.trans hg3, by omega, hlt, (fun i hi => by by_cases q : i < j; exact hnb i q; have q : i = j := (by omega); subst q; rw [hE4]; exact ⟨(nb_row (nbL_c nb_s (nbL_c nb_s (nbL_c (nb_shallow (by simp [shallow, shallowL, Sh.cnt, cntL]) ur7) (nbL_c (nb_arrS (by simp [shallow, shallowL, Sh.cnt, cntL]) S3) nbL_n))))), Nat.le_trans (dL_le rfl) (by omega), (show l3.length ≤ 20 by omega), fun i hi => hsg i (by have : i < l3.length := hi; omega)⟩)⟩
   all_goals exact ⟨Or.inr rfl, _, rfl, kf _ hgC (by omega)⟩
  ·have clsA : ∀ i, i < l1.length → ClsL (l1.getD i (.int 0)) := fun i hi => (hnb i (by omega)).2
   have nbA : nb (.arr ShClass) (.arr l1) := nb_arrC hlt fun i hi => (hnb i hi).1
   clear hnb
   repeat' (first | refine Yu ?_ | refine Yp ?_ | refine z6 ?_ | refine zL ?_ | refine z8 ?_ | refine za ?_ | refine zh ?_ | refine zj ?_ | refine zl ?_ | (refine Yq ?_ ?_ <;> intro hc <;> try first | contradiction | omega) | refine Yx ?_ | refine Yz ?_ | refine Yy ?_)
   refine wc_loopE (ι := Nat × Int) (fun q => [(1, .int .i64 70), (2, .ptr h.n 0), (8, .int .i64 q.2), (9, .int .i64 (q.1 : Int))]) (fun q h4 => h4 = h' ∧ q.1 ≤ l2.length ∧ 0 ≤ q.2 ∧ q.2 ≤ 70 * (q.1 : Int) ∧ q.2 = (codeN l2 q.1 : Int) ∧ ∀ i, i < q.1 → (nb ShFunc (l2.getD i (.int 0)) ∧ FunL (l2.getD i (.int 0)))) (fun q => l2.length - q.1) ?_ (0, 0) ⟨rfl, Nat.zero_le _, by simp, by simp, rfl, fun i hi => absurd hi (by simp)⟩ (Sc (Sc (Sc (Sc Sn))))
   clear hlt
   have C2 := A2.grew hgB
   rintro ⟨j, s⟩ h4 ⟨hh, hj, hs0, hs5, hsn, hnb⟩
   have hh2 : h' = h4 := hh.symm
   subst hh2
   simp only at hj hs0 hs5 hsn hnb
   show WC _ _ _ _ _ _ [(1, .int .i64 70), (2, .ptr h.n 0), (8, .int .i64 s), (9, .int .i64 (j : Int))] _ _
   by_cases hlt : j < l2.length
   ·have g7 : r2[j]? = some (r2[j]'(by omega)) := List.getElem?_eq_getElem (by omega)
    have hid7 : id2 < h.n := by
     rcases A2.at_ with ⟨q, _⟩ | ⟨_, _, q, _⟩
     ·rw [q] at e2; simp at e2; omega
     ·exact q
    have hse7 := hall id2 (by omega)
    have m7 : l2[j]? = some (l2.getD j (.int 0)) := by simp [show j < l2.length by omega]
    have t7 := p2 j _ _ m7 g7
    generalize r2[j]'(by omega) = w7 at g7 t7
    generalize hE7 : l2.getD j (.int 0) = x7 at m7 t7
    have o7 := t7.ones
    obtain ⟨v3, v5, v7, v9, v11, vv11, v13, v15, vv15, rfl, rfl, vr11, vr15⟩ := rpf_Func t7
    repeat' (first | refine Yu ?_ | refine Yp ?_ | refine z6 ?_ | refine zL ?_ | refine z8 ?_ | refine za ?_ | refine zh ?_ | refine zj ?_ | refine zl ?_ | (refine Yq ?_ ?_ <;> intro hc <;> try first | contradiction | omega) | refine Yx ?_ | refine Yz ?_ | refine Yy ?_)
    rotate_right
    ·obtain ⟨l5, rfl, hL5, S5⟩ := rp_in vr15 (by omega)
     obtain ⟨id5, r5, o5, A5, e5, p5⟩ := S5.out
     have hz5 : (ShInstr : Sh).sz = 10 := rfl
     rw [hz5] at A5
     have hB5 : (Dt.arr l5).len = l5.length := rfl
     refine wc_loopE (ι := Nat) (fun jj => [(1, .int .i64 70), (2, .ptr h.n 0), (8, .int .i64 (s + ((Dt.arr l5).len : Int))), (9, .int .i64 (j : Int)), (10, vv15), (11, .int .i64 (jj : Int))]) (fun jj h5 => h5 = h' ∧ jj ≤ l5.length ∧ ∀ i, i < jj → (dL 7 (el l5 i)).length ≤ 20) (fun jj => l5.length - jj) ?_ 0 ⟨rfl, Nat.zero_le _, fun i hi => absurd hi (by omega)⟩ (Sc (Sc (Sc (Sc (Sc (Sc Sn))))))
     rintro jj h5 ⟨hh, hjj, hsg⟩
     have hh2 : h' = h5 := hh.symm
     subst hh2
     have D5 := A5.grew hgB
     by_cases hltt : jj < l5.length
     ·have g8 : r5[jj]? = some (r5[jj]'(by omega)) := List.getElem?_eq_getElem (by omega)
      have hid8 : id5 < h.n := by
       rcases A5.at_ with ⟨q, _⟩ | ⟨_, _, q, _⟩
       ·rw [q] at e5; simp at e5; omega
       ·exact q
      have hse8 := hall id5 (by omega)
      have m8 : l5[jj]? = some (l5.getD jj (.int 0)) := by simp [show jj < l5.length by omega]
      have t8 := p5 jj _ _ m8 g8
      generalize r5[jj]'(by omega) = w8 at g8 t8
      generalize hE8 : l5.getD jj (.int 0) = x8 at m8 t8
      have o8 := t8.ones
      obtain ⟨s3, s5, s7, s9, s11, s13, s15, s17, sv17, s19, s21, rfl, rfl, sr17⟩ := rpf_Instr t8
      repeat' (first | refine Yu ?_ | refine Yp ?_ | refine z6 ?_ | refine zL ?_ | refine z8 ?_ | refine za ?_ | refine zh ?_ | refine zj ?_ | refine zl ?_ | (refine Yq ?_ ?_ <;> intro hc <;> try first | contradiction | omega) | refine Yx ?_ | refine Yz ?_ | refine Yy ?_)
      ·exact ⟨Or.inr rfl, _, rfl, kf _ hgB (by omega)⟩
      ·exact ⟨jj + 1, by simp; omega, (Sc (Sc (Sc (Sc (Sc (Sc Sn)))))), rfl, hltt, fun i hi => by by_cases q : i < jj; exact hsg i q; have q : i = jj := (by omega); subst q; show (dL 7 (l5.getD i (.int 0))).length ≤ 20; rw [hE8]; exact Nat.le_trans (dL_le rfl) (by omega)⟩
     ·repeat' (first | refine Yu ?_ | refine Yp ?_ | refine z6 ?_ | refine zL ?_ | refine z8 ?_ | refine za ?_ | refine zh ?_ | refine zj ?_ | refine zl ?_ | (refine Yq ?_ ?_ <;> intro hc <;> try first | contradiction | omega) | refine Yx ?_ | refine Yz ?_ | refine Yy ?_)
      exact ⟨(j + 1, s + ((Dt.arr l5).len : Int)), by simp; omega, (Sc (Sc (Sc (Sc Sn)))), rfl, hlt, by simp only; omega, by simp only; omega, by simp only [codeN, el, hE7, dL_6]; rw [hsn, hB5]; omega, (fun i hi => by by_cases q : i < j; exact hnb i q; have q : i = j := (by omega); subst q; rw [hE7]; exact ⟨(nb_row (nbL_c nb_s (nbL_c nb_s (nbL_c nb_b (nbL_c nb_i (nbL_c (nb_shallow (by simp [shallow, shallowL, Sh.cnt, cntL]) vr11) (nbL_c nb_s (nbL_c (nb_arrS (by simp [shallow, shallowL, Sh.cnt, cntL]) S5) nbL_n)))))))), Nat.le_trans (dL_le rfl) (by omega), (show l5.length ≤ 70 by omega), fun i hi => hsg i (by have : i < l5.length := hi; omega)⟩)⟩
    all_goals exact ⟨Or.inr rfl, _, rfl, kf _ hgB (by omega)⟩
   ·have nbU : nb ShUnit (.row [.row [.arr l1], .arr l2, .int a9]) := (nb_row (nbL_c (nb_row (nbL_c nbA nbL_n)) (nbL_c (nb_arrC hlt fun i hi => (hnb i hi).1) (nbL_c nb_i nbL_n))))
    repeat' (first | refine Yu ?_ | refine Yp ?_ | refine z6 ?_ | refine zL ?_ | refine z8 ?_ | refine za ?_ | refine zh ?_ | refine zj ?_ | refine zl ?_ | (refine Yq ?_ ?_ <;> intro hc <;> try first | contradiction | omega) | refine Yx ?_ | refine Yz ?_ | refine Yy ?_)
    ·have e : j = l2.length := by omega
     subst e
     exact ⟨Or.inr rfl, _, rfl, kt nbU ⟨by show l1.length ≤ 12; omega, fun i hi => (clsA i hi).1, fun i hi => (clsA i hi).2.1, fun i hi => (clsA i hi).2.2, by show l2.length ≤ 20; omega, fun i hi => (hnb i hi).2.1, fun i hi => (hnb i hi).2.2.1, fun i hi => (hnb i hi).2.2.2⟩ (by show codeN l2 l2.length ≤ 70; omega) _ hgB (by omega)⟩
    ·exact ⟨Or.inr rfl, _, rfl, kf _ hgB (by omega)⟩
 all_goals exact ⟨Or.inr rfl, _, rfl, kf _ hg1 (by omega)⟩
end Go.Proofs.YtmdceifbbmnfgaaGreatDoor.Ev
namespace Go.Proofs.YtmdceifbbmnfgaaGreatDoor.Ev
open Go
open Classical
variable {c : C} {h : H} {K : AV → H → Prop}
structure SmU (cl fl : List Dt) : Prop where
 r : FitR cl fl
 code : codeN fl fl.length ≤ 70
 cls : ∀ i, i < cl.length → ClsR cl i
theorem sl_unit {d : Dt} {cs : List AV} (r : Rp 70 true h ShUnit d cs) : ∃ cl fl cv fv mn, d = .row [.row [.arr cl], .arr fl, .int mn] ∧ cs = [cv, fv, .int .i64 mn] ∧ Sl 70 true h ShClass cl cv ∧ Sl 70 true h ShFunc fl fv := by
 obtain ⟨a5, av5, a7, av7, a9, rfl, rfl, ar5, ar7⟩ := rpf_Unit r
 rcases rp_arr.1 ar5 with ⟨cl, cv, rfl, e1, _, C⟩ | ⟨q, _⟩
 ·cases e1
  rcases rp_arr.1 ar7 with ⟨fl, fv, rfl, e1, _, F⟩ | ⟨q, _⟩
  ·cases e1
   exact ⟨cl, fl, _, _, a9, rfl, rfl, C, F⟩
  ·cases q
 ·cases q
theorem ones_unit {d : Dt} {cs : List AV} (r : Rp 70 false h ShUnit d cs) : ∃ a b m, cs = [a, b, .int .i64 m] := by
 obtain ⟨a5, av5, a7, av7, a9, rfl, rfl, ar5, ar7⟩ := rpf_Unit r
 exact ⟨_, _, _, rfl⟩
theorem Small_ev {d : Dt} {cs : List AV} (hall : ∀ id, id < 10000000 → seen c.vis id = true) (hcx : Cx c h) (hn : h.n + 3600100 < 10000000) (r : Rp 70 false h ShUnit d cs) (kf : ∀ h', Grew h h' → h'.n ≤ h.n + 3600100 → K (.bool false) h') (kt : ∀ cl fl cv fv mn h', d = .row [.row [.arr cl], .arr fl, .int mn] → cs = [cv, fv, .int .i64 mn] → Sl 70 true h ShClass cl cv → Sl 70 true h ShFunc fl fv → SmU cl fl → Grew h h' → h'.n ≤ h.n + 3600100 → K (.bool true) h') : Gv Tryz.prog X0 Mx c 4 [.agg cs, .int .i64 70] h K := by
 have hnt : (20 : Nat) ≤ 1000000 := by decide
 refine gv_fn x_Small (Mx_no rfl _ _ _) (by simp) hnt ?_
 unfold s_Small SR.m SR.o
 obtain ⟨a0, b0, m0, ecs⟩ := ones_unit r
 have hlow := hcx.low
 have hs1 := hall h.n (by omega)
 subst ecs
 refine Yc (Yd (rg_go hnt rfl rfl (wo_boxA rfl rfl (by omega) fun h1 n1 b1 g1 => ?_)))
 replace b1 : h1.get h.n = some (.cells [a0, b0, .int .i64 m0]) := b1
 repeat' (first | refine Yu ?_ | refine Yp ?_ | refine zi ?_ | (refine Yq ?_ ?_ <;> intro hc <;> try first | contradiction | omega) | refine Yx ?_ | refine Yy ?_)
 refine wo_call rfl rfl (Fit_ev hall (hcx.mono (by omega)) (by omega) (r.grew g1) (fun h2 g2 n2 => ?_) (fun nbq fr cd h2 g2 n2 => ?_))
 ·repeat' (first | refine Yu ?_ | refine Yp ?_ | refine zi ?_ | (refine Yq ?_ ?_ <;> intro hc <;> try first | contradiction | omega) | refine Yx ?_ | refine Yy ?_)
  exact ⟨Or.inr rfl, _, rfl, kf _ (g1.trans g2) (by omega)⟩
 ·have r2 := Rp.full r nbq
  obtain ⟨cl, fl, cv, fv, mn, rfl, e2, C, F⟩ := sl_unit r2
  cases e2
  have fr : FitR cl fl := fr
  have cd : codeN fl fl.length ≤ 70 := cd
  have b2 := (g2.get h.n (by omega)).trans b1
  have L2 := g2.le
  repeat' (first | refine Yu ?_ | refine Yp ?_ | refine zi ?_ | (refine Yq ?_ ?_ <;> intro hc <;> try first | contradiction | omega) | refine Yx ?_ | refine Yy ?_)
  refine wo_call rfl rfl (R13Check_ev hall (hcx.mono (by omega)) (by omega) fr (C.grew (g1.trans g2)) (F.grew (g1.trans g2)) fun a b e h3 g3 n3 hok => ?_)
  repeat' (first | refine Yu ?_ | refine Yp ?_ | refine zi ?_ | (refine Yq ?_ ?_ <;> intro hc <;> try first | contradiction | omega) | refine Yx ?_ | refine Yy ?_)
  ·exact ⟨Or.inr rfl, _, rfl, kt cl fl _ _ _ _ rfl rfl C F ⟨fr, cd, hok hc⟩ ((g1.trans g2).trans g3) (by omega)⟩
  ·exact ⟨Or.inr rfl, _, rfl, kf _ ((g1.trans g2).trans g3) (by omega)⟩
end Go.Proofs.YtmdceifbbmnfgaaGreatDoor.Ev
