/- Program: the layout, the fact of a cell. -/
import Derived.Test.YtmdceifbbmnfgaaGreatDoorTgF
import Derived.Test.YtmdceifbbmnfgaaGreatDoorTgC
set_option linter.unusedVariables false
set_option linter.unusedSimpArgs false
set_option maxHeartbeats 4000000
namespace Go.Proofs.YtmdceifbbmnfgaaGreatDoor.Ev
open Go
open Classical
variable {c : C} {h : H} {K : AV → H → Prop}
def nmsF (cl : List Dt) (s : List Nat) : List (List Nat) := sortS (fldsA cl (chainR cl s).1)
theorem nmsF_ref (cl : List Dt) (s : List Nat) : rfieldsF cl s = nmsF cl s := insAll_eq _
def offsL (cl : List Dt) (ss : List St) (b : Nat) : Nat → List (List AV)
 | 0 => []
 | s + 1 => offsL cl ss b s ++ [[.int .i64 ((b + (cellsA cl ss s).length : Nat) : Int)]]
theorem offsL_len {cl : List Dt} {ss : List St} {b : Nat} : ∀ n, (offsL cl ss b n).length = n
 | 0 => rfl
 | n + 1 => by simp [offsL, offsL_len n]
theorem offsL_get {cl : List Dt} {ss : List St} {b j : Nat} : ∀ {n : Nat}, j < n → (offsL cl ss b n)[j]? = some [.int .i64 ((b + (cellsA cl ss j).length : Nat) : Int)]
 | 0, h => absurd h (by omega)
 | n + 1, h => by
  have hl := offsL_len (cl := cl) (ss := ss) (b := b) n
  by_cases q : j < n
  ·rw [offsL, List.getElem?_append_left (by omega)]
   exact offsL_get q
  ·have e : j = n := by omega
   subst e
   rw [offsL, List.getElem?_append_right (by omega), hl]
   simp
theorem partsE_cons {env : Env'} {i n : Nat} {x : XV} {v : AV} {ps : List (Nat × Nat × XV)} {row l l' r : List AV} (hx : evE env x = some v) (hc : v.cells = row) (ho : okT v = true) (hl : Nat.beq (lenN row) n = true) (hs : spliceK i row l some = some l') (hr : partsE env ps l' = some r) : partsE env ((i, n, x) :: ps) l = some r := by
 subst hc
 simp only [partsE, hx, ho, hl, hs, Bool.and_self, cond_true]
 exact hr
theorem SLr.one {esz n0 : Nat} {h : H} {v : AV} {l : List (List AV)} {id : Nat} (S : SLr esz n0 h v l id) : one v = true := by
 by_cases q : l = []
 ·rw [S.nil q]; rfl
 ·obtain ⟨⟨cap, e⟩, _⟩ := S.arr.full (List.length_pos_iff.2 q)
  rw [e]; rfl
theorem SLo.one {n0 : Nat} {h : H} {v : AV} {l : List (List Nat)} {id : Nat} (S : SLo n0 h v l id) : one v = true := by
 by_cases q : l = []
 ·rw [S.nil q]; rfl
 ·obtain ⟨cap, vs, e, _⟩ := S.cellsT q
  rw [e]; rfl
theorem SLr.keep {esz n0 : Nat} {h h' : H} {v : AV} {l : List (List AV)} {id : Nat} (a : SLr esz n0 h v l id) (hle : h.n ≤ h'.n) (k : l ≠ [] → h'.get id = h.get id) : SLr esz n0 h' v l id := by
 by_cases q : l = []
 ·have e := a.nil q
  subst e q
  exact ⟨⟨Or.inl ⟨rfl, Or.inl rfl⟩⟩, fun _ => rfl, fun e => absurd rfl e⟩
 ·have ho := a.own q
  exact ⟨a.arr.keep hle fun _ => k q, a.nil, fun _ => ⟨ho.1, by omega⟩⟩
theorem SLo.keep {n0 : Nat} {h h' : H} {v : AV} {l : List (List Nat)} {id : Nat} (a : SLo n0 h v l id) (hle : h.n ≤ h'.n) (k : l ≠ [] → h'.get id = h.get id) : SLo n0 h' v l id := by
 by_cases q : l = []
 ·have e := a.nil q
  subst e q
  exact ⟨⟨Or.inl ⟨rfl, Or.inl rfl⟩⟩, fun _ => rfl, fun e => absurd rfl e⟩
 ·have ho := a.own q
  exact ⟨a.arr.keep hle fun _ => k q, a.nil, fun _ => ⟨ho.1, by omega⟩⟩
def NmOk (cl : List Dt) (n0 : Nat) (h : H) (f : List Nat → Option AV) (u : Nat) : Prop := ∀ s w, f s = some w → ∃ id, SLo n0 h w (nmsF cl s) id ∧ (nmsF cl s ≠ [] → id ≠ u)
theorem NmOk.keep {cl : List Dt} {n0 u u' : Nat} {h h' : H} {f : List Nat → Option AV} (a : NmOk cl n0 h f u) (hle : h.n ≤ h'.n) (k : ∀ x, n0 ≤ x → x < h.n → x ≠ u → h'.get x = h.get x) (hu : ∀ x, x < h.n → x ≠ u → x ≠ u') : NmOk cl n0 h' f u' := fun s w e => by
 obtain ⟨id, S, d⟩ := a s w e
 exact ⟨id, S.keep hle fun q => k id (S.own q).1 (S.own q).2 (d q), fun q => hu id (S.own q).2 (d q)⟩
theorem NmOk.grew {cl : List Dt} {n0 u : Nat} {h h' : H} {f : List Nat → Option AV} (a : NmOk cl n0 h f u) (g : Grew h h') : NmOk cl n0 h' f u := fun s w e => by
 obtain ⟨id, S, d⟩ := a s w e
 exact ⟨id, S.grew g, d⟩
theorem NmOk.low {cl : List Dt} {n0 n1 u : Nat} {h : H} {f : List Nat → Option AV} (a : NmOk cl n1 h f u) (hle : n0 ≤ n1) : NmOk cl n0 h f u := fun s w e => by
 obtain ⟨id, S, d⟩ := a s w e
 exact ⟨id, S.low hle, d⟩
theorem NmOk.add {cl : List Dt} {n0 u id : Nat} {h : H} {f : List Nat → Option AV} {t : List Nat} {w : AV} (a : NmOk cl n0 h f u) (S : SLo n0 h w (nmsF cl t) id) (hd : nmsF cl t ≠ [] → id ≠ u) : NmOk cl n0 h (fun b => if b = t then some w else f b) u := fun s w' e => by
 by_cases q : s = t
 ·subst q
  simp only [if_pos] at e
  cases e
  exact ⟨id, S, hd⟩
 ·simp only [if_neg q] at e
  exact a s w' e
structure LyI where
 j : Nat
 v : AV
 id : Nat
theorem one_cells {v : AV} (hv : one v = true) : v.cells = [v] := by cases v <;> first | rfl | (exact absurd hv (by simp [one]))
theorem wo_storeV {P : Program} {X : Exts} {M : Mf} {env : Env'} {a x : XV} {id off : Nat} {vs new : List AV} {v : AV} (hv : one v = true) (ha : evE env a = some (.ptr id off)) (hx : evE env x = some v) (hf : c.floor ≤ id) (hs : seen c.vis id = true) (hg : h.get id = some (.cells vs)) (hl : off + 1 ≤ vs.length) (hid : id < 10000000) (hnew : splice off [v] vs = new)
  (hk : ∀ h', h'.n = h.n → h'.get id = some (.cells new) → (∀ j, j ≠ id → h'.get j = h.get j) → K (.tup []) h') : WO P X M c (.store 1 a x) env h K :=
 wo_storeA ha hx hf hs hg (by rw [one_cells hv]; rfl) (by rw [one_cells hv]; simp [ones, hv]) hl hid (by rw [one_cells hv]; exact hnew) hk
theorem SLr.keep2 {esz n0 : Nat} {h h' : H} {v : AV} {l : List (List AV)} {id : Nat} (a : SLr esz n0 h v l id) (hle : h.n ≤ h'.n) (k : h'.get id = h.get id) : SLr esz n0 h' v l id := a.keep hle fun _ => k
theorem newLayout_ev {cl fl : List Dt} {cv fv : AV} {mn : Int} (hall : ∀ id, id < 10000000 → seen c.vis id = true) (hcx : Cx c h) (hn : h.n + 92300 < 10000000) (h12 : cl.length ≤ 12) (hF20 : ∀ i, i < cl.length → (dL 2 (el cl i)).length ≤ 20) (hV : ∀ i, i < fl.length → (dL 4 (el fl i)).length ≤ 70) (h20 : fl.length ≤ 20) (hc : codeN fl fl.length ≤ 70) (ha : ∀ s, ascS (nmsF cl s) = true) (C : Sl 70 true h ShClass cl cv) (F : Sl 70 true h ShFunc fl fv) (k : ∀ h' sv sid m ov oid f fc, Grew h h' → h'.n ≤ h.n + 92300 → h.n ≤ m → m < h'.n → SLr 3 h.n h' sv ((sitesF fl fl.length).map siteRow) sid → SLr 1 h.n h' ov (offsL cl (sitesF fl fl.length) (1 + offN fl fl.length) (sitesF fl fl.length).length) oid → Mp AV.str h' m f → NmOk cl h.n h' f oid → (∀ i, i < (sitesF fl fl.length).length → f ((sitesF fl fl.length).getD i (0, 0, [])).2.2 ≠ none) → K (.agg [cv, fv, .int .i64 mn, sv, .mp m, .int .i64 ((1 + offN fl fl.length : Nat) : Int), ov, .int .i64 fc]) h') : Gv Tryz.prog X0 Mx c 14 [.agg [cv, fv, .int .i64 mn]] h K := by
 have hnt : (76 : Nat) ≤ 1000000 := by decide
 refine gv_fn x_newLayout (Mx_no rfl _ _ _) (by simp) hnt ?_
 unfold s_newLayout SR.S SR.c SR.l SR.m SR.o SR.p SR.s
 obtain ⟨fid, frows, FA, hfr, hfid, hfrow⟩ := at_Func F
 have hlow := hcx.low
 have hfl := F.le
 have hone := C.one
 have fone := F.one
 have hs1 := hall h.n (by omega)
 refine Yc (Yd (rg_go hnt rfl rfl (wo_boxA rfl rfl (by omega) fun h1 n1 b1 g1 => ?_)))
 have hs2 := hall h1.n (by omega)
 refine rg_go hnt rfl rfl (wo_boxA rfl rfl (by omega) fun h2 n2 b2 g2 => ?_)
 replace b1 : h2.get h.n = some (.cells [cv, fv, .int .i64 mn]) := (g2.get h.n (by omega)).trans b1
 repeat' (first | refine Yu ?_ | refine Yp ?_ | refine z6 ?_ | refine z8 ?_ | refine za ?_ | refine zh ?_ | refine zi ?_ | refine zl ?_ | (refine Yq ?_ ?_ <;> intro hc <;> try first | contradiction | omega) | refine zw ?_ | refine Yx ?_ | refine zx ?_ | refine Yz ?_ | refine Yy ?_)
 refine rd_bar hnt rfl rfl (wo_call rfl rfl (oSites_ev (fun id q => by by_cases z : id < h2.n; exact seen_old (by repeat (first | exact rs_nil | refine rs_add (by omega) ?_)) (by omega) z (hall id q); exact seen_here (by omega) (by unfold big; omega)) (Cx.mem (by omega)) (by omega) h20 hc (F.grew (g1.trans g2)) fun h3 sv sid g3 n3 SS => ⟨(by repeat (first | exact unchF_nil | refine unchF_cons (by decide) ?_ | refine unchF_same (by assumption) ((g3.get _ (by omega)).trans (by assumption)) ?_)), ?_⟩))
 have L3 := g3.le
 have hsv := SS.one
 have hsl := sitesF_len (fl := fl) fl.length
 have hsn : (sitesF fl fl.length).map siteRow ≠ [] → sid < h3.n := fun q => (SS.own q).2
 generalize hss : sitesF fl fl.length = ss at SS hsl k hsn
 have b1 := (g3.get h.n (by omega)).trans b1
 have b2 := (g3.get h1.n (by omega)).trans b2
 repeat' (first | refine Yu ?_ | refine Yp ?_ | refine z6 ?_ | refine z8 ?_ | refine za ?_ | refine zh ?_ | refine zi ?_ | refine zl ?_ | (refine Yq ?_ ?_ <;> intro hc <;> try first | contradiction | omega) | (refine wo_mkmapA (by omega) fun h4 n4 m4 g4 => ?_) | (refine wo_build (partsE_cons rfl rfl rfl rfl rfl (partsE_one rfl hsv rfl (by rfl))) ?_) | refine zw ?_ | refine Yx ?_ | refine zx ?_ | refine Yz ?_ | refine Yy ?_)
 have hs3 := hall h3.n (by omega)
 have oo : ones [cv, fv, .int .i64 mn, sv, .mp h3.n, .int .i64 1, .nils, .int .i64 0] = true := by simp only [ones, hone, fone, hsv]; rfl
 refine rd_bs hnt (by omega) (by omega) rfl rfl rfl rfl (by rfl) (by exact oo) (by decide) (fun k1 k2 e1 e2 => by repeat (first | exact unchF_nil | refine unchF_cons (by decide) ?_)) fun h5 n5 b5 g5 => ?_
 have hs5 := hall h4.n (by omega)
 have g35 := g4.trans g5
 have b1 := (g35.get h.n (by omega)).trans b1
 have b2 := (g35.get h1.n (by omega)).trans b2
 replace b5 : h5.get h4.n = some (.cells [cv, fv, .int .i64 mn, sv, .mp h3.n, .int .i64 (((1 + offN fl 0 : Nat) : Int)), .nils, .int .i64 (0)]) := b5
 have m5 : Mp AV.str h5 h3.n (fun _ => none) := Mp.nil ((g5.get h3.n (by omega)).trans m4)
 have g05 := ((g1.trans g2).trans g3).trans g35
 repeat' (first | refine Yu ?_ | refine Yp ?_ | refine z6 ?_ | refine z8 ?_ | refine za ?_ | refine zh ?_ | refine zi ?_ | refine zl ?_ | (refine Yq ?_ ?_ <;> intro hc <;> try first | contradiction | omega) | refine zw ?_ | refine Yx ?_ | refine zx ?_ | refine Yz ?_ | refine Yy ?_)
 refine wc_loopE (ι := Nat) (fun j => [(1, .ptr h.n 0), (2, .ptr h1.n 0), (3, .ptr h4.n 0), (16, fv), (17, .int .i64 (frows.length : Int)), (18, .int .i64 (j : Int))]) (fun j h' => h5.n ≤ h'.n ∧ h'.n ≤ h5.n + j ∧ j ≤ fl.length ∧ (∀ x, x < h5.n → x ≠ h4.n → h'.get x = h5.get x) ∧ h'.get h4.n = some (.cells [cv, fv, .int .i64 mn, sv, .mp h3.n, .int .i64 (((1 + offN fl j : Nat) : Int)), .nils, .int .i64 (0)])) (fun j => fl.length - j) ?_ 0 ⟨Nat.le_refl _, by omega, Nat.zero_le _, fun _ _ _ => rfl, b5⟩ (Sc (Sc (Sc (Sc (Sc (Sc Sn))))))
 rintro j h6 ⟨L6, N6, hj, K6, B6⟩
 have gD : Grew h h6 := ⟨by omega, fun x hx => (K6 x (by omega) (by omega)).trans (g05.get x hx)⟩
 have B1 := (K6 h.n (by omega) (by omega)).trans b1
 have B2 := (K6 h1.n (by omega) (by omega)).trans b2
 have hof := offN_le hV j (by omega)
 by_cases hlt : j < fl.length
 ·obtain ⟨v4, v6, hw, V4, V6, oc⟩ := hfrow j hlt
  have hsf := hall fid (by have := hfid (by omega); omega)
  obtain ⟨did, vrows, VA, hvr, hvid, hvrow⟩ := at_Field V4
  have h70 := hV j (by omega)
  have FG := FA.grew gD
  repeat' (first | refine Yu ?_ | refine Yp ?_ | refine z6 ?_ | refine z8 ?_ | refine za ?_ | refine zh ?_ | refine zi ?_ | refine zl ?_ | (refine Yq ?_ ?_ <;> intro hc <;> try first | contradiction | omega) | refine zw ?_ | refine Yx ?_ | refine zx ?_ | refine Yz ?_ | refine Yy ?_)
  refine rg_bs hnt (hcx.mono (by omega)) (by omega) rfl rfl rfl rfl (by rfl) (by exact oc) fun h7 n7 b7 g7 => ?_
  have hs7 := hall h6.n (by omega)
  have VG := VA.grew (gD.trans g7)
  have B7 := (g7.get h4.n (by omega)).trans B6
  repeat' (first | refine Yu ?_ | refine Yp ?_ | refine z6 ?_ | refine z8 ?_ | refine za ?_ | refine zh ?_ | refine zi ?_ | refine zl ?_ | (refine Yq ?_ ?_ <;> intro hc <;> try first | contradiction | omega) | refine zw ?_ | refine Yx ?_ | refine zx ?_ | refine Yz ?_ | refine Yy ?_)
  refine rg_go0 hnt rfl (wo_storeA rfl rfl (by omega) hs5 B7 rfl (by rfl) (by simp) (by omega) rfl fun h8 n8 b8 k8 => ?_)
  replace b8 : h8.get h4.n = some (.cells [cv, fv, .int .i64 mn, sv, .mp h3.n, .int .i64 (((1 + offN fl j : Nat) : Int) + ((vrows.length : Int) + 2)), .nils, .int .i64 (0)]) := b8
  have ho : offN fl (j + 1) = offN fl j + (dL 4 (el fl j)).length + 2 := rfl
  have e8 : ((1 + offN fl j : Nat) : Int) + ((vrows.length : Int) + 2) = ((1 + offN fl (j + 1) : Nat) : Int) := by rw [ho, hvr]; omega
  rw [e8] at b8
  repeat' (first | refine Yu ?_ | refine Yp ?_ | refine z6 ?_ | refine z8 ?_ | refine za ?_ | refine zh ?_ | refine zi ?_ | refine zl ?_ | (refine Yq ?_ ?_ <;> intro hc <;> try first | contradiction | omega) | refine zw ?_ | refine Yx ?_ | refine zx ?_ | refine Yz ?_ | refine Yy ?_)
  exact ⟨j + 1, by simp; omega, (Sc (Sc (Sc (Sc (Sc (Sc Sn)))))), by omega, by omega, hlt, fun x hx hne => (k8 x hne).trans ((g7.get x (by omega)).trans (K6 x hx hne)), b8⟩
 have e : j = fl.length := by omega
 subst e
 have m6 := m5.keep (K6 h3.n (by omega) (by omega))
 have kk : ∀ x, x < h3.n → h6.get x = h3.get x := fun x hx => (K6 x (by omega) (by omega)).trans (g35.get x hx)
 repeat' (first | refine Yu ?_ | refine Yp ?_ | refine z6 ?_ | refine z8 ?_ | refine za ?_ | refine zh ?_ | refine zi ?_ | refine zl ?_ | (refine Yq ?_ ?_ <;> intro hc <;> try first | contradiction | omega) | refine zw ?_ | refine Yx ?_ | refine zx ?_ | refine Yz ?_ | refine Yy ?_)
 refine rg_go0 hnt rfl (wo_storeA rfl rfl (by omega) hs5 B6 rfl (by rfl) (by simp) (by omega) rfl fun h7 n7 b7 k7 => ?_)
 replace b7 : h7.get h4.n = some (.cells [cv, fv, .int .i64 mn, sv, .mp h3.n, .int .i64 (((1 + offN fl fl.length : Nat) : Int)), .nils, .int .i64 (((1 + offN fl fl.length + (cellsA cl ss 0).length : Nat) : Int))]) := b7
 have kk : ∀ x, x < h3.n → h7.get x = h3.get x := fun x hx => (k7 x (by omega)).trans (kk x hx)
 have m7 := m6.keep (k7 h3.n (by omega))
 have B1 := (k7 h.n (by omega)).trans B1
 have B2 := (k7 h1.n (by omega)).trans B2
 have gD : Grew h h7 := ⟨by omega, fun x hx => (k7 x (by omega)).trans (gD.get x hx)⟩
 have hssr : (ss.map siteRow).length = ss.length := List.length_map ..
 have hssg : ∀ j, j < ss.length → (ss.map siteRow)[j]? = some (siteRow (ss.getD j (0, 0, []))) := fun j hj => by simp [hj]
 have hso : ss ≠ [] → sid < h3.n := fun q => hsn (by simpa using q)
 have SA := SS.arr
 have SK := SS
 generalize ss.map siteRow = srows at SA hssr hssg
 have L67 : h5.n ≤ h7.n := by omega
 have N7 : h7.n ≤ h.n + 270 := by omega
 clear B6 K6 hof L6 hj m6 b1 b2 b5
 have q43 : h4.n ≠ h3.n := by omega
 have q4 : h4.n < h7.n := by omega
 have q3 : h3.n < h7.n := by omega
 have q1 : h1.n < h3.n := by omega
 have q0 : h.n < h3.n := by omega
 have SA7 : Arr h7 sv 3 srows sid := SA.keep (by omega) (fun q => kk sid q)
 repeat' (first | refine Yu ?_ | refine Yp ?_ | refine z6 ?_ | refine z8 ?_ | refine za ?_ | refine zh ?_ | refine zi ?_ | refine zl ?_ | (refine Yq ?_ ?_ <;> intro hc <;> try first | contradiction | omega) | refine zw ?_ | refine Yx ?_ | refine zx ?_ | refine Yz ?_ | refine Yy ?_)
 refine wc_loopE (ι := LyI) (fun q => [(1, .ptr h.n 0), (2, .ptr h1.n 0), (3, .ptr h4.n 0), (35, sv), (36, .int .i64 (srows.length : Int)), (37, .int .i64 (q.j : Int))]) (fun q h' => h7.n ≤ h'.n ∧ h'.n ≤ h7.n + 1303 * q.j ∧ q.j ≤ ss.length ∧ q.id < h'.n ∧ (∀ x, x < h7.n → x ≠ h4.n → x ≠ h3.n → h'.get x = h7.get x) ∧ h'.get h4.n = some (.cells [cv, fv, .int .i64 mn, sv, .mp h3.n, .int .i64 (((1 + offN fl fl.length : Nat) : Int)), q.v, .int .i64 (((1 + offN fl fl.length + (cellsA cl ss q.j).length : Nat) : Int))]) ∧ SLr 1 h7.n h' q.v (offsL cl ss (1 + offN fl fl.length) q.j) q.id ∧ ∃ f, Mp AV.str h' h3.n f ∧ NmOk cl h7.n h' f q.id ∧ ∀ i, i < q.j → f (ss.getD i (0, 0, [])).2.2 ≠ none) (fun q => ss.length - q.j) ?_ ⟨0, .nils, 0⟩ ⟨Nat.le_refl _, by simp, Nat.zero_le _, by simp only; omega, fun _ _ _ _ => rfl, b7, SLr.empty _ _ _, _, m7, fun s w e => by simp at e, fun i hi => absurd hi (by simp)⟩ (Sc (Sc (Sc (Sc (Sc (Sc Sn))))))
 rintro ⟨j, v, vid⟩ h6 ⟨L6, N6, hj, hvl, K6, B6, S6, f, M6, O6, D6⟩
 simp only at L6 N6 hj hvl K6 B6 S6 O6 D6 ⊢
 have hst : ∀ a, a ≤ h6.n + 1303 → a ≤ h7.n + 1303 * (j + 1) := fun a ha => bud_step ha N6
 have gE : Grew h h6 := ⟨by omega, fun x hx => (K6 x (by omega) (by omega) (by omega)).trans (gD.get x hx)⟩
 have B1 := (K6 h.n (by omega) (by omega) (by omega)).trans B1
 have B2 := (K6 h1.n (by omega) (by omega) (by omega)).trans B2
 have hclen := cellsA_len h12 hF20 ss j
 have hofl := offN_le hV fl.length (Nat.le_refl _)
 by_cases hlt : j < ss.length
 ·have N4 : h6.n ≤ h7.n + 89907 := bud_leG N6 (show j ≤ 69 by omega) (by decide)
  clear N6
  have hw := hssg j hlt
  unfold siteRow at hw
  have hsi := hso (fun q => by rw [q] at hlt; simp at hlt)
  have hs4 := hall sid (by omega)
  have SG := SA7.keep L6 (fun _ => K6 sid (by omega) (by omega) (by omega))
  repeat' (first | refine Yu ?_ | refine Yp ?_ | refine z6 ?_ | refine z8 ?_ | refine za ?_ | refine zh ?_ | refine zi ?_ | refine zl ?_ | (refine Yq ?_ ?_ <;> intro hc <;> try first | contradiction | omega) | refine zw ?_ | refine Yx ?_ | refine zx ?_ | refine Yz ?_ | refine Yy ?_)
  refine rg_bs hnt (hcx.mono (by omega)) (by omega) rfl rfl rfl rfl (by rfl) (by rfl) fun h8 n8 b8 g8 => ?_
  have hs6 := hall h6.n (by omega)
  have B8 := (g8.get h4.n (by omega)).trans B6
  have B1 := (g8.get h.n (by omega)).trans B1
  have M8 := M6.keep (g8.get h3.n (by omega))
  have S8 := S6.grew g8
  have O8 := O6.grew g8
  have K8 : ∀ x, x < h7.n → x ≠ h4.n → x ≠ h3.n → h8.get x = h7.get x := fun x hx a b => (g8.get x (by omega)).trans (K6 x hx a b)
  repeat' (first | refine Yu ?_ | refine Yp ?_ | refine z6 ?_ | refine z8 ?_ | refine za ?_ | refine zh ?_ | refine zi ?_ | refine zl ?_ | (refine Yq ?_ ?_ <;> intro hc <;> try first | contradiction | omega) | refine zw ?_ | refine Yx ?_ | refine zx ?_ | refine Yz ?_ | refine Yy ?_)
  refine wo_lookupM M8 qS rfl (by rfl) hs3 ?_
  cases hf : f (ss.getD j (0, 0, [])).2.2 with
  | none =>
   repeat' (first | refine Yu ?_ | refine Yp ?_ | refine z6 ?_ | refine z8 ?_ | refine za ?_ | refine zh ?_ | refine zi ?_ | refine zl ?_ | (refine Yq ?_ ?_ <;> intro hc <;> try first | contradiction | omega) | refine zw ?_ | refine Yx ?_ | refine zx ?_ | refine Yz ?_ | refine Yy ?_)
   refine wo_call rfl rfl (fieldsOf_ev hall (hcx.mono (by omega)) (by omega) h12 hF20 (C.grew (gE.trans g8)) (ha _) fun h9 w wid g9 n9 W => ?_)
   have L9 := g9.le
   have ow := SLo.one W
   have M9 := M8.keep (g9.get h3.n (by omega))
   have B9 := (g9.get h4.n (by omega)).trans B8
   have bb8 := (g9.get h6.n (by omega)).trans b8
   repeat' (first | refine Yu ?_ | refine Yp ?_ | refine z6 ?_ | refine z8 ?_ | refine za ?_ | refine zh ?_ | refine zi ?_ | refine zl ?_ | (refine Yq ?_ ?_ <;> intro hc <;> try first | contradiction | omega) | refine zw ?_ | refine Yx ?_ | refine zx ?_ | refine Yz ?_ | refine Yy ?_)
   refine rg_go0 hnt rfl (wo_mapupM M9 qS rfl (by rfl) rfl (by omega) hs3 (by omega) fun h10 n10 M10 k10 => ?_)
   have B10 := (k10 h4.n (by omega)).trans B9
   have S10 := (S8.grew g9).keep (h' := h10) (by omega) fun q => k10 vid (by have := S8.own q; omega)
   have W10 : SLo h7.n h10 w (nmsF cl (ss.getD j (0, 0, [])).2.2) wid := (SLo.low W (by omega)).keep (by omega) fun q => k10 wid (by have := SLo.own W q; omega)
   have O10 := (NmOk.keep (u := vid) (O8.grew g9) (h' := h10) (by omega) (fun x hx hx2 hne => k10 x (by omega)) (fun x _ q => q)).add W10 (fun q => by have := SLo.own W q; omega)
   have K10 : ∀ x, x < h7.n → x ≠ h4.n → x ≠ h3.n → h10.get x = h7.get x := fun x hx a b => (k10 x b).trans ((g9.get x (by omega)).trans (K8 x hx a b))
   have d10 : 0 < (nmsF cl (ss.getD j (0, 0, [])).2.2).length → wid ≠ vid := fun q => by have := SLo.own W (List.length_pos_iff.1 q); omega
   have v10 : 0 < (nmsF cl (ss.getD j (0, 0, [])).2.2).length → wid < h10.n := fun q => by have := SLo.own W (List.length_pos_iff.1 q); omega
   have w10 : 0 < (nmsF cl (ss.getD j (0, 0, [])).2.2).length → h7.n ≤ wid := fun q => by have := SLo.own W (List.length_pos_iff.1 q); omega
   have D10 : ∀ i, i < j + 1 → (fun b => if b = (ss.getD j (0, 0, [])).2.2 then some w else f b) (ss.getD i (0, 0, [])).2.2 ≠ none := fun i hi => by
    by_cases q : (ss.getD i (0, 0, [])).2.2 = (ss.getD j (0, 0, [])).2.2
    ·simp only [if_pos q]; exact fun e => (by cases e)
    ·simp only [if_neg q]
     by_cases e : i = j
     ·exact absurd (by rw [e]) q
     ·exact D6 i (by omega)
   have o8 := W10.one
   have hrl : (nmsF cl (ss.getD j (0, 0, [])).2.2).length ≤ 260 := by rw [← nmsF_ref]; exact rfieldsF_len h12 hF20 _
   have hca : (cellsA cl ss (j + 1)).length = (cellsA cl ss j).length + (nmsF cl (ss.getD j (0, 0, [])).2.2).length := by
    show (cellsA cl ss j ++ (rfieldsF cl (ss.getD j (0, 0, [])).2.2).map _).length = _
    rw [List.length_append, List.length_map, nmsF_ref]
   repeat' (first | refine Yu ?_ | refine Yp ?_ | refine z6 ?_ | refine z8 ?_ | refine za ?_ | refine zh ?_ | refine zi ?_ | refine zl ?_ | (refine Yq ?_ ?_ <;> intro hc <;> try first | contradiction | omega) | (refine wo_bsliceA rfl (by omega) fun h14 n14 b14 g14 => ?_) | refine zw ?_ | refine Yx ?_ | refine zx ?_ | refine Yz ?_ | refine Yy ?_)
   refine wo_addK rfl rfl (S10.grew g14) b14 (by rfl) (by rfl) (by omega) (fun i _ z => hall i z) (by omega) (by omega) (by omega) (by rw [offsL_len]; omega) fun h15 sv15 S15 n15 k15 m15 => ?_
   have o15 := S15.one
   have B15 := (k15 h4.n (by omega)).trans ((g14.get h4.n (by omega)).trans B10)
   have W15 := (SLo.grew W10 g14).keep (h' := h15) (by omega) (fun q => m15 wid (by have := SLo.own W10 q; omega) fun _ => d10 (List.length_pos_iff.2 q))
   repeat' (first | refine Yu ?_ | refine Yp ?_ | refine z6 ?_ | refine z8 ?_ | refine za ?_ | refine zh ?_ | refine zi ?_ | refine zl ?_ | (refine Yq ?_ ?_ <;> intro hc <;> try first | contradiction | omega) | refine zw ?_ | refine Yx ?_ | refine zx ?_ | refine Yz ?_ | refine Yy ?_)
   refine rg_go0 hnt rfl (wo_storeV o15 rfl rfl (by omega) hs5 B15 (by simp) (by omega) rfl fun h16 n16 b16 k16 => ?_)
   replace b16 : h16.get h4.n = some (.cells [cv, fv, .int .i64 mn, sv, .mp h3.n, .int .i64 (((1 + offN fl fl.length : Nat) : Int)), sv15, .int .i64 (((1 + offN fl fl.length + (cellsA cl ss j).length : Nat) : Int))]) := b16
   obtain ⟨wrows, WA, hwr, hwg⟩ := (W15.keep (h' := h16) (by omega) (fun q => k16 wid (by have := SLo.own W10 q; omega))).rows
   repeat' (first | refine Yu ?_ | refine Yp ?_ | refine z6 ?_ | refine z8 ?_ | refine za ?_ | refine zh ?_ | refine zi ?_ | refine zl ?_ | (refine Yq ?_ ?_ <;> intro hc <;> try first | contradiction | omega) | refine zw ?_ | refine Yx ?_ | refine zx ?_ | refine Yz ?_ | refine Yy ?_)
   refine rg_go0 hnt rfl (wo_storeA rfl rfl (by omega) hs5 b16 rfl (by rfl) (by simp) (by omega) rfl fun h17 n17 b17 k17 => ?_)
   replace b17 : h17.get h4.n = some (.cells [cv, fv, .int .i64 mn, sv, .mp h3.n, .int .i64 (((1 + offN fl fl.length : Nat) : Int)), sv15, .int .i64 (((1 + offN fl fl.length + (cellsA cl ss j).length : Nat) : Int) + (wrows.length : Int))]) := b17
   have e17 : ((1 + offN fl fl.length + (cellsA cl ss j).length : Nat) : Int) + (wrows.length : Int) = ((1 + offN fl fl.length + (cellsA cl ss (j + 1)).length : Nat) : Int) := by rw [hca, hwr]; omega
   rw [e17] at b17
   repeat' (first | refine Yu ?_ | refine Yp ?_ | refine z6 ?_ | refine z8 ?_ | refine za ?_ | refine zh ?_ | refine zi ?_ | refine zl ?_ | (refine Yq ?_ ?_ <;> intro hc <;> try first | contradiction | omega) | refine zw ?_ | refine Yx ?_ | refine zx ?_ | refine Yz ?_ | refine Yy ?_)
   refine ⟨⟨j + 1, sv15, h14.n⟩, by simp; omega, (Sc (Sc (Sc (Sc (Sc (Sc Sn)))))), by omega, hst _ (by omega), hlt, by simp only; omega, fun x hx h4x h3x => (k17 x h4x).trans ((k16 x h4x).trans ((k15 x hx).trans ((g14.get x (by omega)).trans (K10 x hx h4x h3x)))), b17, S15.keep2 (by omega) ((k17 _ (by omega)).trans (k16 _ (by omega))), _, M10.keep ((k17 _ (by omega)).trans ((k16 _ (by omega)).trans ((k15 _ (by omega)).trans (g14.get _ (by omega))))), ?_, D10⟩
   refine NmOk.keep (u := h14.n) (NmOk.keep (u := vid) (O10.grew g14) (h' := h15) (by omega) (fun x hx hx2 hne => m15 x (by omega) fun _ => hne) (fun x hx _ => by omega)) (by omega) (fun x hx hx2 hne => (k17 x (by omega)).trans (k16 x (by omega))) (fun x _ q => q)
  | some w =>
   obtain ⟨wid, W8, hwd⟩ := O8 _ _ hf
   have d8 : 0 < (nmsF cl (ss.getD j (0, 0, [])).2.2).length → wid ≠ vid := fun q => hwd (List.length_pos_iff.1 q)
   have v8 : 0 < (nmsF cl (ss.getD j (0, 0, [])).2.2).length → wid < h8.n := fun q => by have := SLo.own W8 (List.length_pos_iff.1 q); omega
   have w8 : 0 < (nmsF cl (ss.getD j (0, 0, [])).2.2).length → h7.n ≤ wid := fun q => (W8.own (List.length_pos_iff.1 q)).1
   have D8 : ∀ i, i < j + 1 → f (ss.getD i (0, 0, [])).2.2 ≠ none := fun i hi => by
    by_cases e : i = j
    ·rw [e, hf]; simp
    ·exact D6 i (by omega)
   repeat' (first | refine Yu ?_ | refine Yp ?_ | refine z6 ?_ | refine z8 ?_ | refine za ?_ | refine zh ?_ | refine zi ?_ | refine zl ?_ | (refine Yq ?_ ?_ <;> intro hc <;> try first | contradiction | omega) | refine zw ?_ | refine Yx ?_ | refine zx ?_ | refine Yz ?_ | refine Yy ?_)
   have o8 := W8.one
   have hrl : (nmsF cl (ss.getD j (0, 0, [])).2.2).length ≤ 260 := by rw [← nmsF_ref]; exact rfieldsF_len h12 hF20 _
   have hca : (cellsA cl ss (j + 1)).length = (cellsA cl ss j).length + (nmsF cl (ss.getD j (0, 0, [])).2.2).length := by
    show (cellsA cl ss j ++ (rfieldsF cl (ss.getD j (0, 0, [])).2.2).map _).length = _
    rw [List.length_append, List.length_map, nmsF_ref]
   repeat' (first | refine Yu ?_ | refine Yp ?_ | refine z6 ?_ | refine z8 ?_ | refine za ?_ | refine zh ?_ | refine zi ?_ | refine zl ?_ | (refine Yq ?_ ?_ <;> intro hc <;> try first | contradiction | omega) | (refine wo_bsliceA rfl (by omega) fun h14 n14 b14 g14 => ?_) | refine zw ?_ | refine Yx ?_ | refine zx ?_ | refine Yz ?_ | refine Yy ?_)
   refine wo_addK rfl rfl (S8.grew g14) b14 (by rfl) (by rfl) (by omega) (fun i _ z => hall i z) (by omega) (by omega) (by omega) (by rw [offsL_len]; omega) fun h15 sv15 S15 n15 k15 m15 => ?_
   have o15 := S15.one
   have B15 := (k15 h4.n (by omega)).trans ((g14.get h4.n (by omega)).trans B8)
   have W15 := (SLo.grew W8 g14).keep (h' := h15) (by omega) (fun q => m15 wid (by have := SLo.own W8 q; omega) fun _ => d8 (List.length_pos_iff.2 q))
   repeat' (first | refine Yu ?_ | refine Yp ?_ | refine z6 ?_ | refine z8 ?_ | refine za ?_ | refine zh ?_ | refine zi ?_ | refine zl ?_ | (refine Yq ?_ ?_ <;> intro hc <;> try first | contradiction | omega) | refine zw ?_ | refine Yx ?_ | refine zx ?_ | refine Yz ?_ | refine Yy ?_)
   refine rg_go0 hnt rfl (wo_storeV o15 rfl rfl (by omega) hs5 B15 (by simp) (by omega) rfl fun h16 n16 b16 k16 => ?_)
   replace b16 : h16.get h4.n = some (.cells [cv, fv, .int .i64 mn, sv, .mp h3.n, .int .i64 (((1 + offN fl fl.length : Nat) : Int)), sv15, .int .i64 (((1 + offN fl fl.length + (cellsA cl ss j).length : Nat) : Int))]) := b16
   obtain ⟨wrows, WA, hwr, hwg⟩ := (W15.keep (h' := h16) (by omega) (fun q => k16 wid (by have := SLo.own W8 q; omega))).rows
   repeat' (first | refine Yu ?_ | refine Yp ?_ | refine z6 ?_ | refine z8 ?_ | refine za ?_ | refine zh ?_ | refine zi ?_ | refine zl ?_ | (refine Yq ?_ ?_ <;> intro hc <;> try first | contradiction | omega) | refine zw ?_ | refine Yx ?_ | refine zx ?_ | refine Yz ?_ | refine Yy ?_)
   refine rg_go0 hnt rfl (wo_storeA rfl rfl (by omega) hs5 b16 rfl (by rfl) (by simp) (by omega) rfl fun h17 n17 b17 k17 => ?_)
   replace b17 : h17.get h4.n = some (.cells [cv, fv, .int .i64 mn, sv, .mp h3.n, .int .i64 (((1 + offN fl fl.length : Nat) : Int)), sv15, .int .i64 (((1 + offN fl fl.length + (cellsA cl ss j).length : Nat) : Int) + (wrows.length : Int))]) := b17
   have e17 : ((1 + offN fl fl.length + (cellsA cl ss j).length : Nat) : Int) + (wrows.length : Int) = ((1 + offN fl fl.length + (cellsA cl ss (j + 1)).length : Nat) : Int) := by rw [hca, hwr]; omega
   rw [e17] at b17
   repeat' (first | refine Yu ?_ | refine Yp ?_ | refine z6 ?_ | refine z8 ?_ | refine za ?_ | refine zh ?_ | refine zi ?_ | refine zl ?_ | (refine Yq ?_ ?_ <;> intro hc <;> try first | contradiction | omega) | refine zw ?_ | refine Yx ?_ | refine zx ?_ | refine Yz ?_ | refine Yy ?_)
   refine ⟨⟨j + 1, sv15, h14.n⟩, by simp; omega, (Sc (Sc (Sc (Sc (Sc (Sc Sn)))))), by omega, hst _ (by omega), hlt, by simp only; omega, fun x hx h4x h3x => (k17 x h4x).trans ((k16 x h4x).trans ((k15 x hx).trans ((g14.get x (by omega)).trans (K8 x hx h4x h3x)))), b17, S15.keep2 (by omega) ((k17 _ (by omega)).trans (k16 _ (by omega))), _, M8.keep ((k17 _ (by omega)).trans ((k16 _ (by omega)).trans ((k15 _ (by omega)).trans (g14.get _ (by omega))))), ?_, D8⟩
   refine NmOk.keep (u := h14.n) (NmOk.keep (u := vid) (O8.grew g14) (h' := h15) (by omega) (fun x hx hx2 hne => m15 x (by omega) fun _ => hne) (fun x hx _ => by omega)) (by omega) (fun x hx hx2 hne => (k17 x (by omega)).trans (k16 x (by omega))) (fun x _ q => q)
 ·have N4 : h6.n ≤ h7.n + 91210 := bud_leG N6 (show j ≤ 70 by omega) (by decide)
  have e : j = ss.length := by omega
  subst e
  repeat' (first | refine Yu ?_ | refine Yp ?_ | refine z6 ?_ | refine z8 ?_ | refine za ?_ | refine zh ?_ | refine zi ?_ | refine zl ?_ | (refine Yq ?_ ?_ <;> intro hc <;> try first | contradiction | omega) | refine zw ?_ | refine Yx ?_ | refine zx ?_ | refine Yz ?_ | refine Yy ?_)
  have sone := S6.one
  have oe : ones [cv, fv, .int .i64 mn, sv, .mp h3.n, .int .i64 ((1 + offN fl fl.length : Nat) : Int), v, .int .i64 ((1 + offN fl fl.length + (cellsA cl ss ss.length).length : Nat) : Int)] = true := by simp only [ones, hone, fone, hsv, sone]; rfl
  refine rg_go0 hnt rfl (wo_storeA rfl rfl (by omega) hs2 B2 rfl (by exact oe) (Nat.le_refl 8) (by omega) (splice_all rfl) fun h8 n8 b8 k8 => ?_)
  repeat' (first | refine Yu ?_ | refine Yp ?_ | refine z6 ?_ | refine z8 ?_ | refine za ?_ | refine zh ?_ | refine zi ?_ | refine zl ?_ | (refine Yq ?_ ?_ <;> intro hc <;> try first | contradiction | omega) | refine zw ?_ | refine Yx ?_ | refine zx ?_ | refine Yz ?_ | refine Yy ?_)
  refine ⟨Or.inr rfl, _, resE_box rfl hs2 b8 rfl rfl, ?_⟩
  refine k h8 sv sid h3.n v vid f _ ⟨by omega, fun x hx => (k8 x (by omega)).trans (gE.get x hx)⟩ (by omega) (by omega) (by omega) ?_ ?_ (M6.keep (k8 _ (by omega))) ?_ D6
  ·exact (SS.keep (h' := h8) (by omega) fun q => (k8 sid (by have := SS.own q; omega)).trans ((K6 sid (by have := SS.own q; omega) (by have := SS.own q; omega) (by have := SS.own q; omega)).trans (kk sid (SS.own q).2))).low (by omega)
  ·exact (S6.keep (h' := h8) (by omega) fun q => k8 vid (by have := S6.own q; omega)).low (by omega)
  ·exact (NmOk.keep (u := vid) O6 (h' := h8) (by omega) (fun x hx hx2 hne => k8 x (by omega)) (fun x _ q => q)).low (by omega)
def cellI (cl : List Dt) (ss : List St) (b : Nat) (st : Int) (fd : List Nat) : Int :=
 if st < 0 ∨ (ss.length : Int) ≤ st then -1
 else if isAt fd (nmsF cl (ss.getD st.toNat (0, 0, [])).2.2) (cntLt fd (nmsF cl (ss.getD st.toNat (0, 0, [])).2.2)) = true then ((b + (cellsA cl ss st.toNat).length : Nat) : Int) + (cntLt fd (nmsF cl (ss.getD st.toNat (0, 0, [])).2.2) : Nat)
 else -1
theorem cntLt_le (x : List Nat) : ∀ l : List (List Nat), cntLt x l ≤ l.length
 | [] => Nat.le_refl _
 | y :: l => by
  have ih := cntLt_le x l
  unfold cntLt
  cases ltL y x
  ·simp
  ·simp only [cond_true, List.length_cons]; omega
theorem cell_ev {cl : List Dt} {ss : List St} {cv fv sv ov : AV} {mn b0 fc st : Int} {b m sid oid n0 : Nat} {f : List Nat → Option AV} {fd : List Nat} (hall : ∀ id, id < 10000000 → seen c.vis id = true) (hcx : Cx c h) (hn : h.n + 2 < 10000000) (hb : b ≤ 2000) (hss : ss.length ≤ 70) (hm : m < h.n) (SS : SLr 3 n0 h sv (ss.map siteRow) sid) (OV : SLr 1 n0 h ov (offsL cl ss b ss.length) oid) (M : Mp AV.str h m f) (O : NmOk cl n0 h f oid) (D : ∀ i, i < ss.length → f (ss.getD i (0, 0, [])).2.2 ≠ none) (ha : ∀ s, ascS (nmsF cl s) = true) (hlen : ∀ s, (nmsF cl s).length ≤ 260) (hcells : ∀ s, s ≤ 70 → (cellsA cl ss s).length ≤ 18200) (k : ∀ h', Grew h h' → h'.n ≤ h.n + 2 → K (.int .i64 (cellI cl ss b st fd)) h') : Gv Tryz.prog X0 Mx c 15 [.agg [cv, fv, .int .i64 mn, sv, .mp m, .int .i64 b0, ov, .int .i64 fc], .agg [.int .i64 st, .str fd]] h K := by
 have hnt : (44 : Nat) ≤ 1000000 := by decide
 refine gv_fn x_cell (Mx_no rfl _ _ _) (by simp) hnt ?_
 unfold s_cell SR.c SR.g SR.l SR.o SR.p
 have hlow := hcx.low
 have hs1 := hall h.n (by omega)
 refine Yc (Yd (rg_go hnt rfl rfl (wo_boxA rfl rfl (by omega) fun h1 n1 b1 g1 => ?_)))
 have hs2 := hall h1.n (by omega)
 refine rg_go hnt rfl rfl (wo_boxA rfl rfl (by omega) fun h2 n2 b2 g2 => ?_)
 replace b1 : h2.get h.n = some (.cells [cv, fv, .int .i64 mn, sv, .mp m, .int .i64 b0, ov, .int .i64 fc]) := (g2.get h.n (by omega)).trans b1
 replace b2 : h2.get h1.n = some (.cells [.int .i64 st, .str fd]) := b2
 have g0 := g1.trans g2
 have S2 := SS.grew g0
 have OV2 := OV.grew g0
 have M2 := M.keep (g0.get m (by omega))
 have O2 := O.grew g0
 have hsm := hall m (by omega)
 have hrl : (ss.map siteRow).length = ss.length := List.length_map ..
 have hrg : ∀ j, j < ss.length → (ss.map siteRow)[j]? = some (siteRow (ss.getD j (0, 0, []))) := fun j hj => by simp [hj]
 have hown : ss ≠ [] → sid < h.n := fun q => (SS.own (by simpa using q)).2
 have hol := offsL_len (cl := cl) (ss := ss) (b := b) ss.length
 have hog := fun j hj => offsL_get (cl := cl) (ss := ss) (b := b) (j := j) (n := ss.length) hj
 have hown2 : ss ≠ [] → oid < h.n := fun q => (OV.own (fun e => by rw [e] at hol; simp at hol; exact q (List.eq_nil_of_length_eq_zero hol.symm))).2
 have SA := S2.arr
 have OA := OV2.arr
 generalize ss.map siteRow = srows at SA hrl hrg
 generalize offsL cl ss b ss.length = orows at OA hol hog
 by_cases h0 : st < 0
 ·have e : cellI cl ss b st fd = -1 := by unfold cellI; rw [if_pos (Or.inl h0)]
  rw [e] at k
  repeat' (first | refine Yu ?_ | refine Yp ?_ | refine z6 ?_ | refine z8 ?_ | refine za ?_ | refine zh ?_ | refine zj ?_ | refine zk ?_ | (refine Yq ?_ ?_ <;> intro hc <;> try first | contradiction | omega) | refine Yx ?_ | refine Yv ?_ | refine zx ?_ | refine Yy ?_)
  exact ⟨Or.inr rfl, _, rfl, k _ g0 (by omega)⟩
 obtain ⟨sn, rfl⟩ : ∃ n : Nat, st = (n : Int) := ⟨st.toNat, by omega⟩
 by_cases hlt : sn < ss.length
 ·have hne : ss ≠ [] := fun q => by rw [q] at hlt; simp at hlt
  have hsi := hown hne
  have hoi := hown2 hne
  have hs4 := hall sid (by omega)
  have hs5 := hall oid (by omega)
  have hw := hrg sn hlt
  unfold siteRow at hw
  have hwo := hog sn hlt
  have e : cellI cl ss b (sn : Int) fd = if isAt fd (nmsF cl (ss.getD sn (0, 0, [])).2.2) (cntLt fd (nmsF cl (ss.getD sn (0, 0, [])).2.2)) = true then ((b + (cellsA cl ss sn).length : Nat) : Int) + (cntLt fd (nmsF cl (ss.getD sn (0, 0, [])).2.2) : Nat) else -1 := by
   unfold cellI
   rw [if_neg (by omega)]
   rfl
  rw [e] at k
  have hcl := cntLt_le fd (nmsF cl (ss.getD sn (0, 0, [])).2.2)
  have hnl := hlen (ss.getD sn (0, 0, [])).2.2
  have hcn := hcells sn (by omega)
  cases hf : f (ss.getD sn (0, 0, [])).2.2 with
  | none => exact absurd hf (D sn hlt)
  | some w =>
   obtain ⟨wid, W, _⟩ := O2 _ _ hf
   repeat' (first | refine Yu ?_ | refine Yp ?_ | refine z6 ?_ | refine z8 ?_ | refine za ?_ | refine zh ?_ | refine zj ?_ | refine zk ?_ | (refine Yq ?_ ?_ <;> intro hc <;> try first | contradiction | omega) | (refine zx (wo_lookupM M2 qS rfl (by rfl) (seen_two (by omega)) ?_); rw [hf]) | refine Yx ?_ | refine Yv ?_ | refine zx ?_ | refine Yy ?_)
   refine rd_bar hnt rfl rfl (wo_call rfl rfl (gv_bs (fun id q => seen_old (by repeat (first | exact rs_nil | refine rs_add (by omega) ?_)) (by omega) (by omega) (hall id (by omega))) (by omega) W (ha _) ⟨(by repeat (first | exact unchF_nil | refine unchF_cons (by decide) ?_ | refine unchF_same (by assumption) (by assumption) ?_)), ?_⟩))
   cases hi : isAt fd (nmsF cl (ss.getD sn (0, 0, [])).2.2) (cntLt fd (nmsF cl (ss.getD sn (0, 0, [])).2.2)) with
   | false =>
    rw [hi] at k
    simp only [Bool.false_eq_true, if_false] at k
    repeat' (first | refine Yu ?_ | refine Yp ?_ | refine z6 ?_ | refine z8 ?_ | refine za ?_ | refine zh ?_ | refine zj ?_ | refine zk ?_ | (refine Yq ?_ ?_ <;> intro hc <;> try first | contradiction | omega) | refine Yx ?_ | refine Yv ?_ | refine zx ?_ | refine Yy ?_)
    exact ⟨Or.inr rfl, _, rfl, k _ g0 (by omega)⟩
   | true =>
    rw [hi] at k
    simp only [if_true] at k
    repeat' (first | refine Yu ?_ | refine Yp ?_ | refine z6 ?_ | refine z8 ?_ | refine za ?_ | refine zh ?_ | refine zj ?_ | refine zk ?_ | (refine Yq ?_ ?_ <;> intro hc <;> try first | contradiction | omega) | refine Yx ?_ | refine Yv ?_ | refine zx ?_ | refine Yy ?_)
    exact ⟨Or.inr rfl, _, rfl, k _ g0 (by omega)⟩
 ·have e : cellI cl ss b (sn : Int) fd = -1 := by unfold cellI; rw [if_pos (Or.inr (by omega))]
  rw [e] at k
  repeat' (first | refine Yu ?_ | refine Yp ?_ | refine z6 ?_ | refine z8 ?_ | refine za ?_ | refine zh ?_ | refine zj ?_ | refine zk ?_ | (refine Yq ?_ ?_ <;> intro hc <;> try first | contradiction | omega) | refine Yx ?_ | refine Yv ?_ | refine zx ?_ | refine Yy ?_)
  exact ⟨Or.inr rfl, _, rfl, k _ g0 (by omega)⟩
theorem tCellFact_ev {cl fl : List Dt} {cv fv : AV} {mn st : Int} {fd : List Nat} (hall : ∀ id, id < 10000000 → seen c.vis id = true) (hcx : Cx c h) (hn : h.n + 92310 < 10000000) (h12 : cl.length ≤ 12) (hF20 : ∀ i, i < cl.length → (dL 2 (el cl i)).length ≤ 20) (hV : ∀ i, i < fl.length → (dL 4 (el fl i)).length ≤ 70) (h20 : fl.length ≤ 20) (hc : codeN fl fl.length ≤ 70) (ha : ∀ s, ascS (nmsF cl s) = true) (C : Sl 70 true h ShClass cl cv) (F : Sl 70 true h ShFunc fl fv) (k : ∀ h', Grew h h' → h'.n ≤ h.n + 92310 → K (.int .i64 (cellI cl (sitesF fl fl.length) (1 + offN fl fl.length) st fd)) h') : Gv Tryz.prog X0 Mx c 7 [.agg [cv, fv, .int .i64 mn], .agg [.int .i64 st, .str fd]] h K := by
 have hnt : (9 : Nat) ≤ 1000000 := by decide
 refine gv_fn x_tCellFact (Mx_no rfl _ _ _) (by simp) hnt ?_
 unfold s_tCellFact SR.c SR.l
 have hlow := hcx.low
 have hs1 := hall h.n (by omega)
 refine Yc (Yd (rg_go hnt rfl rfl (wo_boxA rfl rfl (by omega) fun h1 n1 b1 g1 => ?_)))
 have hs2 := hall h1.n (by omega)
 refine rg_go hnt rfl rfl (wo_boxA rfl rfl (by omega) fun h2 n2 b2 g2 => ?_)
 replace b1 : h2.get h.n = some (.cells [cv, fv, .int .i64 mn]) := (g2.get h.n (by omega)).trans b1
 replace b2 : h2.get h1.n = some (.cells [.int .i64 st, .str fd]) := b2
 have g0 := g1.trans g2
 repeat' (first | refine Yu ?_ | refine Yp ?_ | refine zi ?_ | refine Yx ?_ | refine Yv ?_ | refine zx ?_ | refine Yy ?_)
 refine rd_bar hnt rfl rfl (wo_call rfl rfl (newLayout_ev (fun id q => by by_cases z : id < h2.n; exact seen_old (by repeat (first | exact rs_nil | refine rs_add (by omega) ?_)) (by omega) z (hall id q); exact seen_here (by omega) (by unfold big; omega)) (Cx.mem (by omega)) (by omega) h12 hF20 hV h20 hc ha (C.grew g0) (F.grew g0) fun h3 sv sid m ov oid f fc g3 n3 hm hm2 SS OV M O D => ⟨(by repeat (first | exact unchF_nil | refine unchF_cons (by decide) ?_ | refine unchF_same (by assumption) ((g3.get _ (by omega)).trans (by assumption)) ?_)), ?_⟩))
 have L3 := g3.le
 have b1 := (g3.get h.n (by omega)).trans b1
 have b2 := (g3.get h1.n (by omega)).trans b2
 have hsl := sitesF_len (fl := fl) fl.length
 have hofl := offN_le hV fl.length (Nat.le_refl _)
 have hnl : ∀ s, (nmsF cl s).length ≤ 260 := fun s => by rw [← nmsF_ref]; exact rfieldsF_len h12 hF20 s
 have hcn : ∀ s, s ≤ 70 → (cellsA cl (sitesF fl fl.length) s).length ≤ 18200 := fun s hs => by have := cellsA_len h12 hF20 (sitesF fl fl.length) s; omega
 repeat' (first | refine Yu ?_ | refine Yp ?_ | refine zi ?_ | refine Yx ?_ | refine Yv ?_ | refine zx ?_ | refine Yy ?_)
 refine rd_bar hnt rfl rfl (wo_call rfl rfl (cell_ev (fun id q => (Nat.lt_or_ge id h3.n).elim (fun z => seen_cons (r := (h3.n, big)) z (by (repeat (first | refine seen_addS ?_ | refine seen_addR (by decide) (by omega) (fun z => ?_) (by omega))); exact seen_cut (hall id q) (by omega))) (fun z => seen_here (e := big) z (by unfold big; omega))) (Cx.mem (by omega)) (by omega) (by omega) (by omega) (by omega) SS OV M O D ha hnl hcn fun h4 g4 n4 => ⟨(by repeat (first | exact unchF_nil | refine unchF_cons (by decide) ?_ | refine unchF_same (by assumption) ((g4.get _ (by omega)).trans (by assumption)) ?_)), ?_⟩))
 have L4 := g4.le
 repeat' (first | refine Yu ?_ | refine Yp ?_ | refine zi ?_ | refine Yx ?_ | refine Yv ?_ | refine zx ?_ | refine Yy ?_)
 exact ⟨Or.inr rfl, _, rfl, k _ ((g0.trans g3).trans g4) (by omega)⟩
end Go.Proofs.YtmdceifbbmnfgaaGreatDoor.Ev
