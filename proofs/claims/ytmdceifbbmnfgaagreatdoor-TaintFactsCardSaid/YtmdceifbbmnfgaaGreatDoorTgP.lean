/- The plain law; the walk of the law. -/
import Derived.Test.YtmdceifbbmnfgaaGreatDoorTgI
import Derived.Test.YtmdceifbbmnfgaaGreatDoorTfH
import Derived.Test.YtmdceifbbmnfgaaGreatDoorTgC
set_option linter.unusedVariables false
set_option linter.unusedSimpArgs false
set_option maxHeartbeats 4000000
namespace Go.Proofs.YtmdceifbbmnfgaaGreatDoor.Ev
open Go
open Classical
def Ch (ns ss : List (List Nat)) : List Nat → List (List Nat) → Prop
 | s, [] => findI ns s < 0
 | s, x :: l => x = s ∧ 0 ≤ findI ns s ∧ ((ss.getD (findI ns s).toNat [] = [] ∧ l = []) ∨ (ss.getD (findI ns s).toNat [] ≠ [] ∧ Ch ns ss (ss.getD (findI ns s).toNat []) l))
theorem ch_one {ns ss : List (List Nat)} : ∀ {l l' : List (List Nat)} {s : List Nat}, Ch ns ss s l → Ch ns ss s l' → l = l'
 | [], [], s, _, _ => rfl
 | [], y :: l', s, h, h' => by
  have h1 : findI ns s < 0 := h
  have h2 := h'.2.1
  omega
 | x :: l, [], s, h, h' => by
  have h1 : findI ns s < 0 := h'
  have h2 := h.2.1
  omega
 | x :: l, y :: l', s, h, h' => by
  obtain ⟨rfl, _, h1⟩ := h
  obtain ⟨rfl, _, h2⟩ := h'
  rcases h1 with ⟨a, rfl⟩ | ⟨a, b⟩
  ·rcases h2 with ⟨_, rfl⟩ | ⟨q, _⟩
   ·rfl
   ·exact absurd a q
  ·rcases h2 with ⟨q, _⟩ | ⟨_, d⟩
   ·exact absurd q a
   ·rw [ch_one b d]
theorem chainF_ch {ns ss : List (List Nat)} : ∀ (n : Nat) (out : List (List Nat)) (s : List Nat), 1 + cntO ns out ≤ n → (chainF ns ss n out s).2 = false → ∃ l, (chainF ns ss n out s).1 = out ++ l ∧ Ch ns ss s l
 | 0, out, s, h, _ => by omega
 | n + 1, out, s, h, e => by
  simp only [chainF] at e ⊢
  by_cases h1 : findI ns s < 0
  ·simp only [if_pos h1]
   exact ⟨[], by simp, h1⟩
  ·simp only [if_neg h1] at e ⊢
   by_cases h2 : s ∈ out
   ·simp only [if_pos h2] at e
    cases e
   ·simp only [if_neg h2] at e ⊢
    by_cases h3 : ss.getD (findI ns s).toNat [] = []
    ·simp only [if_pos h3]
     exact ⟨[s], rfl, rfl, by omega, Or.inl ⟨h3, rfl⟩⟩
    ·simp only [if_neg h3] at e ⊢
     have h4 := cntO_lt (findI_mem (by omega : 0 ≤ findI ns s)) h2
     obtain ⟨l, e1, e2⟩ := chainF_ch n (out ++ [s]) _ (by omega) e
     exact ⟨s :: l, by rw [e1, List.append_assoc]; rfl, rfl, by omega, Or.inr ⟨h3, e2⟩⟩
theorem name_at {cl : List Dt} {s : List Nat} (h : 0 ≤ findI (nms cl) s) : (findI (nms cl) s).toNat < cl.length ∧ dS 0 (el cl (findI (nms cl) s).toNat) = s := by
 have h1 := findI_lt (l := nms cl) (s := s)
 have h2 : (nms cl).length = cl.length := nms_len
 have h3 : (findI (nms cl) s).toNat < cl.length := by omega
 exact ⟨h3, by rw [← nms_get h3]; exact findI_get h⟩
theorem chainR_ch {cl : List Dt} (hc : ∀ i, i < cl.length → ClsR cl i) (s : List Nat) : Ch (nms cl) (sps cl) s (chainR cl s).1 := by
 by_cases h : findI (nms cl) s < 0
 ·rw [chain_none h]; exact h
 ·obtain ⟨h1, h2⟩ := name_at (by omega : 0 ≤ findI (nms cl) s)
  have h3 := (hc _ h1).2.2.1
  rw [h2] at h3
  have h4 : cntO (nms cl) [] ≤ (nms cl).length := cntO_le
  have h5 : (nms cl).length = cl.length := nms_len
  obtain ⟨l, e1, e2⟩ := chainF_ch (ns := nms cl) (ss := sps cl) (cl.length + 1) [] s (by omega) h3
  have e3 : (chainR cl s).1 = l := e1
  rw [e3]
  exact e2
theorem el_at {l : List Dt} {k : Nat} (hk : k < l.length) : el l k = l[k] := by simp [el, hk]
theorem fnames_get {cl : List Dt} {x a : List Nat} (h : a ∈ fnames cl x) : fldIn cl a x := by
 unfold fnames at h
 obtain ⟨d, hd, rfl⟩ := List.mem_map.1 h
 obtain ⟨k, hk, rfl⟩ := List.mem_iff_getElem.1 hd
 exact ⟨k, hk, congrArg (dS 0) (el_at hk)⟩
theorem flds_nodup {cl : List Dt} (hc : ∀ i, i < cl.length → ClsR cl i) : ∀ (l : List (List Nat)) (s : List Nat), Ch (nms cl) (sps cl) s l → (fldsA cl l).Nodup
 | [], s, _ => List.nodup_nil
 | x :: l, s, h => by
  obtain ⟨rfl, h1, h2⟩ := h
  obtain ⟨hi, hn⟩ := name_at h1
  have hF := (hc _ hi).2.2.2
  have hs := sps_get hi
  have hd : (fnames cl x).Nodup := by
   unfold fnames
   unfold List.Nodup
   rw [List.pairwise_iff_getElem]
   intro i j hi hj hij
   rw [List.length_map] at hi hj
   have hne := (hF j hj).1 i hij
   rw [el_at hi, el_at hj] at hne
   simpa using hne
  have hl : (fldsA cl l).Nodup := by
   rcases h2 with ⟨_, rfl⟩ | ⟨_, q⟩
   ·exact List.nodup_nil
   ·exact flds_nodup hc l _ q
  have e : fldsA cl (x :: l) = fnames cl x ++ fldsA cl l := by simp [fldsA]
  rw [e, List.nodup_append]
  refine ⟨hd, hl, fun a ha b hb hab => ?_⟩
  subst hab
  rcases h2 with ⟨_, rfl⟩ | ⟨hne, q⟩
  ·simp [fldsA] at hb
  ·rw [hs] at hne q
   obtain ⟨k, hk, hk2⟩ := fnames_get ha
   have hno := (hF k hk).2 hne
   unfold clsOf at hk2
   rw [hk2] at hno
   apply hno
   have e1 := ch_one q (chainR_ch hc _)
   unfold fldsA at hb
   obtain ⟨y, hy, hy2⟩ := List.mem_flatMap.1 hb
   exact ⟨y, by rw [← e1]; exact hy, fnames_get hy2⟩
theorem nmsF_asc {cl : List Dt} (hc : ∀ i, i < cl.length → ClsR cl i) (s : List Nat) : Asc (nmsF cl s) := sortS_asc (flds_nodup hc _ _ (chainR_ch hc s))
/-! the places of the cells -/
theorem cells_get {cl : List Dt} {ss : List St} {s k : Nat} : ∀ {n : Nat}, s < n → k < (nmsF cl (ss.getD s (0, 0, [])).2.2).length → (cellsA cl ss s).length + k < (cellsA cl ss n).length ∧ (cellsA cl ss n).getD ((cellsA cl ss s).length + k) (0, []) = (s, (nmsF cl (ss.getD s (0, 0, [])).2.2).getD k [])
 | 0, h, _ => absurd h (by omega)
 | n + 1, h, hk => by
  by_cases q : s < n
  ·obtain ⟨h1, h2⟩ := cells_get (n := n) q hk
   refine ⟨by simp only [cellsA, List.length_append]; omega, ?_⟩
   rw [List.getD_eq_getElem?_getD] at h2 ⊢
   rw [cellsA, List.getElem?_append_left h1]
   exact h2
  ·have e : s = n := by omega
   subst e
   rw [List.getD_eq_getElem?_getD]
   simp only [cellsA, nmsF_ref, List.length_append, List.length_map]
   refine ⟨by omega, ?_⟩
   rw [List.getElem?_append_right (by omega), Nat.add_sub_cancel_left, List.getElem?_map]
   generalize nmsF cl (ss.getD s (0, 0, [])).2.2 = l at hk ⊢
   rw [List.getD_eq_getElem?_getD, List.getElem?_eq_getElem hk]
   rfl
theorem cells_split {cl : List Dt} {ss : List St} {j : Nat} : ∀ {n : Nat}, j < (cellsA cl ss n).length → ∃ s k, s < n ∧ k < (nmsF cl (ss.getD s (0, 0, [])).2.2).length ∧ j = (cellsA cl ss s).length + k
 | 0, h => by simp [cellsA] at h
 | n + 1, h => by
  by_cases q : j < (cellsA cl ss n).length
  ·obtain ⟨s, k, h1, h2, h3⟩ := cells_split q
   exact ⟨s, k, by omega, h2, h3⟩
  ·simp only [cellsA, nmsF_ref, List.length_append, List.length_map] at h
   exact ⟨n, j - (cellsA cl ss n).length, by omega, by omega, by omega⟩
theorem nodup_getD {l : List (List Nat)} (h : l.Nodup) {i j : Nat} (hi : i < l.length) (hj : j < l.length) (e : l.getD i [] = l.getD j []) : i = j := by
 have e2 : l[i] = l[j] := by simpa [hi, hj] using e
 unfold List.Nodup at h
 rw [List.pairwise_iff_getElem] at h
 rcases Nat.lt_trichotomy i j with q | q | q
 ·exact absurd e2 (h i j hi hj q)
 ·exact q
 ·exact absurd e2.symm (h j i hj hi q)
theorem cellR_eq {cl : List Dt} (hc : ∀ i, i < cl.length → ClsR cl i) {ss : List St} {b : Nat} {st : Int} {fd : List Nat} {r : Int} (h : CellR (cellsA cl ss ss.length) b st fd r) : r = cellI cl ss b st fd := by
 unfold cellI
 by_cases h0 : st < 0 ∨ (ss.length : Int) ≤ st
 ·rw [if_pos h0]
  rcases h with ⟨j, h1, h2, h3, _⟩ | ⟨_, h2⟩
  ·obtain ⟨s, k, h4, h5, h6⟩ := cells_split h1
   have h7 := (cells_get h4 h5).2
   rw [← h6] at h7
   rw [h7] at h2
   simp only at h2
   omega
  ·exact h2
 ·rw [if_neg h0]
  obtain ⟨sn, rfl⟩ : ∃ n : Nat, st = (n : Int) := ⟨st.toNat, by omega⟩
  have hlt : sn < ss.length := by omega
  rw [Int.toNat_natCast]
  have hA := nmsF_asc hc (ss.getD sn (0, 0, [])).2.2
  have hf := find_asc (x := fd) hA
  have hN := asc_nodup hA
  cases hi : isAt fd (nmsF cl (ss.getD sn (0, 0, [])).2.2) (cntLt fd (nmsF cl (ss.getD sn (0, 0, [])).2.2)) with
  | true =>
   obtain ⟨h1, h2⟩ := hf.1 hi
   have h3 := cells_get (cl := cl) hlt h1
   rw [if_pos rfl]
   rcases h with ⟨j, g1, g2, g3, _, g4⟩ | ⟨g1, _⟩
   ·obtain ⟨s, k, h4, h5, h6⟩ := cells_split g1
    have h7 := (cells_get h4 h5).2
    rw [← h6] at h7
    rw [h7] at g2 g3
    simp only at g2 g3
    have e : s = sn := by omega
    subst e
    have e2 := nodup_getD hN h5 h1 (g3.trans h2.symm)
    rw [g4, h6, e2]
    omega
   ·exact absurd ⟨by rw [h3.2], by rw [h3.2]; exact h2⟩ (g1 _ h3.1)
  | false =>
   have hno := hf.2 hi
   rw [if_neg (by simp)]
   rcases h with ⟨j, g1, g2, g3, _, g4⟩ | ⟨_, g2⟩
   ·obtain ⟨s, k, h4, h5, h6⟩ := cells_split g1
    have h7 := (cells_get h4 h5).2
    rw [← h6] at h7
    rw [h7] at g2 g3
    simp only at g2 g3
    have e : s = sn := by omega
    subst e
    exact absurd (by rw [← g3]; exact getD_mem h5) hno
   ·exact g2
end Go.Proofs.YtmdceifbbmnfgaaGreatDoor.Ev
namespace Go.Proofs.YtmdceifbbmnfgaaGreatDoor.Ev
open Go
open Classical
variable {c : C} {h : H} {K : AV → H → Prop}
theorem knM_hit {c : C} {h : H} (ha : ∀ p ∈ hStart, getB c h p.1 = some p.2 ∧ eqOB (some p.2) (some p.2) = true) : Mx knF [] c h = some (.bool true, h) := by
 have e : MK knF hStart knF [] c h = some (.bool true, h) := by
  unfold MK
  have hb : Nat.beq knF knF = true := by simp
  have ha' : hStart.all (fun p => eqOB (getB c h p.1) (some p.2)) = true := List.all_eq_true.2 fun p hp => by rw [(ha p hp).1]; exact (ha p hp).2
  rw [hb, ha']; rfl
 exact orM_left e
theorem law_ev {d : Dt} {cs : List AV} {f a st : Int} {fd : List Nat} (hall : ∀ id, id < 10000000 → seen c.vis id = true) (hcx : Cx c h) (hn : h.n + 8600000 < 10000000) (r : Rp 70 false h ShUnit d cs) (hG : ∀ p ∈ hStart, h.get p.1 = some p.2 ∧ p.1 < h.n) (hGe : ∀ p ∈ hStart, eqOB (some p.2) (some p.2) = true) : ∃ v h', Gives Tryz.prog X0 Mx c (.fnB 3) [.agg cs, .agg [.int .i64 f, .int .i64 a, .int .i64 st, .str fd]] h v h' ∧ v = .bool true := by
 have hnt : (35 : Nat) ≤ 1000000 := by decide
 refine gvB_fn x_law (by simp) hnt ?_
 unfold s_law SR.c SR.g SR.l SR.m SR.o SR.p
 obtain ⟨a0, b0, m0, ecs⟩ := ones_unit r
 have hlow := hcx.low
 have hs1 := hall h.n (by omega)
 subst ecs
 refine Yc (Yd (rg_go hnt rfl rfl (wo_boxA rfl rfl (by omega) fun h1 n1 b1 g1 => ?_)))
 have hs2 := hall h1.n (by omega)
 refine rg_go hnt rfl rfl (wo_boxA rfl rfl (by omega) fun h2 n2 b2 g2 => ?_)
 replace b1 : h2.get h.n = some (.cells [a0, b0, .int .i64 m0]) := (g2.get h.n (by omega)).trans b1
 replace b2 : h2.get h1.n = some (.cells [.int .i64 f, .int .i64 a, .int .i64 st, .str fd]) := b2
 have g0 := g1.trans g2
 repeat' (first | refine Yu ?_ | refine Yp ?_ | refine zh ?_ | refine zi ?_ | (refine Yq ?_ ?_ <;> intro hc <;> try first | contradiction | omega) | refine Yx ?_ | refine Yv ?_ | refine zx ?_ | refine Yy ?_)
 refine wo_call rfl rfl (Small_ev hall (hcx.mono (by omega)) (by omega) (r.grew g0) (fun h3 g3 n3 => ?_) (fun cl fl cv fv mn h3 e1 e2 C F U g3 n3 => ?_))
 ·repeat' (first | refine Yu ?_ | refine Yp ?_ | refine zh ?_ | refine zi ?_ | (refine Yq ?_ ?_ <;> intro hc <;> try first | contradiction | omega) | refine Yx ?_ | refine Yv ?_ | refine zx ?_ | refine Yy ?_)
  exact ⟨Or.inr rfl, _, rfl, rfl⟩
 cases e2
 have R := U.r
 have hA : ∀ s, ascS (nmsF cl s) = true := fun s => asc_ascS (nmsF_asc U.cls s)
 have C := C.grew g3
 have F := F.grew g3
 have L3 := g3.le
 have b1 := (g3.get h.n (by omega)).trans b1
 have b2 := (g3.get h1.n (by omega)).trans b2
 have g03 := g0.trans g3
 repeat' (first | refine Yu ?_ | refine Yp ?_ | refine zh ?_ | refine zi ?_ | (refine Yq ?_ ?_ <;> intro hc <;> try first | contradiction | omega) | refine Yx ?_ | refine Yv ?_ | refine zx ?_ | refine Yy ?_)
 refine rd_bar hnt rfl rfl (wo_call rfl rfl (tVarFact_ev (fun id q => by by_cases z : id < h3.n; exact seen_old (by repeat (first | exact rs_nil | refine rs_add (by omega) ?_)) (by omega) z (hall id q); exact seen_here (by omega) (by unfold big; omega)) (Cx.mem (by omega)) (by omega) R.f20 R.fV F fun r1 h4 hr1 g4 n4 => ⟨(by repeat (first | exact unchF_nil | refine unchF_cons (by decide) ?_ | refine unchF_same (by assumption) ((g4.get _ (by omega)).trans (by assumption)) ?_)), ?_⟩))
 have L4 := g4.le
 have b1 := (g4.get h.n (by omega)).trans b1
 have b2 := (g4.get h1.n (by omega)).trans b2
 repeat' (first | refine Yu ?_ | refine Yp ?_ | refine zh ?_ | refine zi ?_ | (refine Yq ?_ ?_ <;> intro hc <;> try first | contradiction | omega) | refine Yx ?_ | refine Yv ?_ | refine zx ?_ | refine Yy ?_)
 refine rd_bar hnt rfl rfl (wo_call rfl rfl (rVarFact_ev (fun id q => (Nat.lt_or_ge id h4.n).elim (fun z => seen_cons (r := (h4.n, big)) z (by (repeat (first | refine seen_addS ?_ | refine seen_addR (by decide) (by omega) (fun z => ?_) (by omega))); exact seen_cut (hall id q) (by omega))) (fun z => seen_here (e := big) z (by unfold big; omega))) (Cx.mem (by omega)) (by omega) R.f20 R.fV (F.grew g4) fun r2 h5 hr2 g5 n5 => ⟨(by repeat (first | exact unchF_nil | refine unchF_cons (by decide) ?_ | refine unchF_same (by assumption) ((g5.get _ (by omega)).trans (by assumption)) ?_)), ?_⟩))
 have L5 := g5.le
 have b1 := (g5.get h.n (by omega)).trans b1
 have b2 := (g5.get h1.n (by omega)).trans b2
 have er : r2 = r1 := hr2.trans hr1.symm
 subst er
 repeat' (first | refine Yu ?_ | refine Yp ?_ | refine zh ?_ | refine zi ?_ | (refine Yq ?_ ?_ <;> intro hc <;> try first | contradiction | omega) | refine Yx ?_ | refine Yv ?_ | refine zx ?_ | refine Yy ?_)
 have g35 := g4.trans g5
 refine rd_bar hnt rfl rfl (wo_call rfl rfl (tCellFact_ev (fun id q => (Nat.lt_or_ge id h5.n).elim (fun z => seen_cons (r := (h5.n, big)) z (by (repeat (first | refine seen_addS ?_ | refine seen_addR (by decide) (by omega) (fun z => ?_) (by omega))); exact seen_cut (hall id q) (by omega))) (fun z => seen_here (e := big) z (by unfold big; omega))) (Cx.mem (by omega)) (by omega) R.c12 R.cF R.fV R.f20 U.code hA (C.grew g35) (F.grew g35) fun h6 g6 n6 => ⟨(by repeat (first | exact unchF_nil | refine unchF_cons (by decide) ?_ | refine unchF_same (by assumption) ((g6.get _ (by omega)).trans (by assumption)) ?_)), ?_⟩))
 have L6 := g6.le
 have b1 := (g6.get h.n (by omega)).trans b1
 have b2 := (g6.get h1.n (by omega)).trans b2
 repeat' (first | refine Yu ?_ | refine Yp ?_ | refine zh ?_ | refine zi ?_ | (refine Yq ?_ ?_ <;> intro hc <;> try first | contradiction | omega) | refine Yx ?_ | refine Yv ?_ | refine zx ?_ | refine Yy ?_)
 have g36 := g35.trans g6
 refine rd_bar hnt rfl rfl (wo_call rfl rfl (rCellFact_ev (fun id q => (Nat.lt_or_ge id h6.n).elim (fun z => seen_cons (r := (h6.n, big)) z (by (repeat (first | refine seen_addS ?_ | refine seen_addR (by decide) (by omega) (fun z => ?_) (by omega))); exact seen_cut (hall id q) (by omega))) (fun z => seen_here (e := big) z (by unfold big; omega))) (Cx.mem (by omega)) (by omega) R.c12 R.cF R.fV R.f20 U.code (C.grew g36) (F.grew g36) fun r3 h7 hr3 g7 n7 => ⟨(by repeat (first | exact unchF_nil | refine unchF_cons (by decide) ?_ | refine unchF_same (by assumption) ((g7.get _ (by omega)).trans (by assumption)) ?_)), ?_⟩))
 have L7 := g7.le
 have b1 := (g7.get h.n (by omega)).trans b1
 have b2 := (g7.get h1.n (by omega)).trans b2
 have er := cellR_eq U.cls (ss := sitesF fl fl.length) hr3
 subst er
 repeat' (first | refine Yu ?_ | refine Yp ?_ | refine zh ?_ | refine zi ?_ | (refine Yq ?_ ?_ <;> intro hc <;> try first | contradiction | omega) | refine Yx ?_ | refine Yv ?_ | refine zx ?_ | refine Yy ?_)
 have g37 := (g03.trans g36).trans g7
 refine rd_bar hnt rfl rfl (wo_call rfl rfl (gv_memo (knM_hit fun p hp => ⟨getB_all (fun id q => (Nat.lt_or_ge id h7.n).elim (fun z => seen_cons (r := (h7.n, big)) z (by (repeat (first | refine seen_addS ?_ | refine seen_addR (by decide) (by omega) (fun z => ?_) (by omega))); exact seen_cut (hall id q) (by omega))) (fun z => seen_here (e := big) z (by unfold big; omega))) (by have := (hG p hp).2; omega) ((g37.get p.1 (hG p hp).2).trans (hG p hp).1), hGe p hp⟩) ⟨(by repeat (first | exact unchF_nil | refine unchF_cons (by decide) ?_)), ?_⟩))
 repeat' (first | refine Yu ?_ | refine Yp ?_ | refine zh ?_ | refine zi ?_ | (refine Yq ?_ ?_ <;> intro hc <;> try first | contradiction | omega) | refine Yx ?_ | refine Yv ?_ | refine zx ?_ | refine Yy ?_)
 exact ⟨Or.inr rfl, _, rfl, rfl⟩
end Go.Proofs.YtmdceifbbmnfgaaGreatDoor.Ev
