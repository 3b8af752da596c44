/- Reference: the hierarchy. -/
import Derived.Test.YtmdceifbbmnfgaaGreatDoorTfA
set_option linter.unusedVariables false
set_option linter.unusedSimpArgs false
set_option maxHeartbeats 4000000
namespace Go.Proofs.YtmdceifbbmnfgaaGreatDoor.Ev
open Go
open Classical
variable {c : C} {h : H} {K : AV → H → Prop}
def findI : List (List Nat) → List Nat → Int
 | [], _ => -1
 | x :: l, s => if x = s then 0 else if findI l s < 0 then -1 else findI l s + 1
theorem findI_spec : ∀ (l : List (List Nat)) (s : List Nat), (findI l s = -1 ∧ ∀ i, i < l.length → l.getD i [] ≠ s) ∨ (∃ j : Nat, findI l s = (j : Int) ∧ j < l.length ∧ l.getD j [] = s ∧ ∀ i, i < j → l.getD i [] ≠ s)
 | [], s => Or.inl ⟨rfl, fun i hi => absurd hi (by simp)⟩
 | x :: l, s => by
  by_cases hx : x = s
  ·exact Or.inr ⟨0, by simp [findI, hx], by simp, by simpa using hx, fun i hi => absurd hi (by omega)⟩
  ·rcases findI_spec l s with ⟨h1, h2⟩ | ⟨j, h1, h2, h3, h4⟩
   ·refine Or.inl ⟨by simp [findI, hx, h1], fun i hi => ?_⟩
    cases i with
    | zero => simpa using hx
    | succ i => simpa using h2 i (by simpa using hi)
   ·refine Or.inr ⟨j + 1, ?_, by simpa using h2, by simpa using h3, fun i hi => ?_⟩
    ·have : ¬ (j : Int) < 0 := by omega
     simp only [findI, if_neg hx, h1, if_neg this]
     omega
    ·cases i with
     | zero => simpa using hx
     | succ i => simpa using h4 i (by omega)
theorem findI_at {l : List (List Nat)} {s : List Nat} {j : Nat} (hj : j < l.length) (he : l.getD j [] = s) (hb : ∀ i, i < j → l.getD i [] ≠ s) : findI l s = (j : Int) := by
 rcases findI_spec l s with ⟨_, h2⟩ | ⟨i, h1, h2, h3, h4⟩
 ·exact absurd he (h2 j hj)
 ·rcases Nat.lt_trichotomy i j with q | q | q
  ·exact absurd h3 (hb i q)
  ·rw [h1, q]
  ·exact absurd he (h4 j q)
theorem findI_no {l : List (List Nat)} {s : List Nat} (hb : ∀ i, i < l.length → l.getD i [] ≠ s) : findI l s = -1 := by
 rcases findI_spec l s with ⟨h1, _⟩ | ⟨i, h1, h2, h3, h4⟩
 ·exact h1
 ·exact absurd h3 (hb i h2)
theorem findI_lt {l : List (List Nat)} {s : List Nat} : findI l s < l.length ∧ -1 ≤ findI l s := by
 rcases findI_spec l s with ⟨h1, _⟩ | ⟨i, h1, h2, _, _⟩ <;> omega
theorem findI_mem {l : List (List Nat)} {s : List Nat} (h : 0 ≤ findI l s) : s ∈ l := by
 rcases findI_spec l s with ⟨h1, _⟩ | ⟨i, h1, h2, h3, _⟩
 ·omega
 ·rw [← h3]; simp [h2]
def nms (cl : List Dt) : List (List Nat) := cl.map (dS 0)
def sps (cl : List Dt) : List (List Nat) := cl.map (dS 1)
theorem nms_len {cl : List Dt} : (nms cl).length = cl.length := by simp [nms]
theorem nms_get {cl : List Dt} {j : Nat} (hj : j < cl.length) : (nms cl).getD j [] = dS 0 (el cl j) := by simp [nms, el, hj]
theorem sps_get {cl : List Dt} {j : Nat} (hj : j < cl.length) : (sps cl).getD j [] = dS 1 (el cl j) := by simp [sps, el, hj]
theorem rFind_ev {cl : List Dt} {cv : AV} {s : List Nat} (hall : ∀ id, id < 10000000 → seen c.vis id = true) (hcx : Cx c h) (hn : h.n + 1 < 10000000) (C : Sl 70 true h ShClass cl cv) (k : ∀ h', Grew h h' → h'.n ≤ h.n + 1 → K (.int .i64 (findI (nms cl) s)) h') : Gv Tryz.prog X0 Mx c 49 [.agg [cv], .str s] h K := by
 have hnt : (22 : Nat) ≤ 1000000 := by decide
 refine gv_fn x_rFind (Mx_no rfl _ _ _) (by simp) hnt ?_
 unfold s_rFind SR.o
 obtain ⟨id, rows, A, hr, hid, hrow⟩ := at_Class C
 have hlen := C.le
 repeat' (first | refine Yu ?_ | refine Yp ?_ | refine z6 ?_ | refine z8 ?_ | refine za ?_ | refine zh ?_ | refine zj ?_ | (refine Yq ?_ ?_ <;> intro hc <;> try first | contradiction | omega) | (refine wo_boxA rfl rfl (by omega) fun h1 n1 b1 g1 => ?_) | refine Yx ?_ | refine Yz ?_ | refine Yy ?_)
 have hs1 := hall h.n (by omega)
 have A1 := A.grew g1
 refine wc_loopE (ι := Nat) (fun j => [(1, .str s), (2, .ptr h.n 0), (5, .int .i64 (j : Int))]) (fun j h' => h' = h1 ∧ j ≤ cl.length ∧ ∀ i, i < j → (nms cl).getD i [] ≠ s) (fun j => cl.length - j) ?_ 0 ⟨rfl, Nat.zero_le _, fun i hi => absurd hi (by omega)⟩ (Sc (Sc (Sc Sn)))
 rintro j h' ⟨hh, hj, hd⟩
 have hh2 := hh.symm
 subst hh2
 by_cases hlt : j < cl.length
 ·have hs2 := hall id (by have := hid (by omega); omega)
  obtain ⟨v2, v3, hw, _, _, _⟩ := hrow j hlt
  have e := nms_get hlt
  repeat' (first | refine Yu ?_ | refine Yp ?_ | refine z6 ?_ | refine z8 ?_ | refine za ?_ | refine zh ?_ | refine zj ?_ | (refine Yq ?_ ?_ <;> intro hc <;> try first | contradiction | omega) | refine Yx ?_ | refine Yz ?_ | refine Yy ?_)
  ·exact ⟨Or.inr rfl, _, rfl, by have q := k _ g1 (by omega); rwa [findI_at (by rw [nms_len]; exact hlt) (e.trans hc) hd] at q⟩
  ·refine ⟨j + 1, by simp; omega, (Sc (Sc (Sc Sn))), rfl, hlt, fun i hi => ?_⟩
   by_cases q : i = j
   ·subst q; rw [e]; exact hc
   ·exact hd i (by omega)
 ·repeat' (first | refine Yu ?_ | refine Yp ?_ | refine z6 ?_ | refine z8 ?_ | refine za ?_ | refine zh ?_ | refine zj ?_ | (refine Yq ?_ ?_ <;> intro hc <;> try first | contradiction | omega) | refine Yx ?_ | refine Yz ?_ | refine Yy ?_)
  exact ⟨Or.inr rfl, _, rfl, by have q := k _ g1 (by omega); rwa [findI_no (fun i hi => hd i (by rw [nms_len] at hi; omega))] at q⟩
theorem in10_ev {n0 id : Nat} {l : List (List Nat)} {v : AV} {s : List Nat} (hall : ∀ id, id < 10000000 → seen c.vis id = true) (hcx : Cx c h) (hn : h.n < 10000000) (hl : l.length ≤ 1000000) (a : SLo n0 h v l id) (kt : s ∈ l → K (.bool true) h) (kf : ¬ s ∈ l → K (.bool false) h) : Gv Tryz.prog X0 Mx c 172 [v, .str s] h K := by
 have hnt : (18 : Nat) ≤ 1000000 := by decide
 refine gv_fn x_in10 (Mx_no rfl _ _ _) (by simp) hnt ?_
 unfold s_in10 SR.o
 obtain ⟨rows, A, hr, hrow⟩ := a.rows
 repeat' (first | refine Yu ?_ | refine Yp ?_ | refine z6 ?_ | refine z8 ?_ | refine za ?_ | refine zk ?_ | (refine Yq ?_ ?_ <;> intro hc <;> try first | contradiction | omega) | refine Yx ?_ | refine Yz ?_ | refine Yy ?_)
 refine wc_loopE (ι := Nat) (fun j => [(0, v), (1, .str s), (5, .int .i64 (j : Int))]) (fun j h' => h' = h ∧ j ≤ l.length ∧ ∀ i, i < j → l.getD i [] ≠ s) (fun j => l.length - j) ?_ 0 ⟨rfl, Nat.zero_le _, fun i hi => absurd hi (by omega)⟩ (Sc (Sc (Sc Sn)))
 rintro j h' ⟨hh, hj, hd⟩
 have hh2 := hh.symm
 subst hh2
 by_cases hlt : j < l.length
 ·have hs2 := hall id (by have := (a.own (fun q => by rw [q] at hlt; simp at hlt)).2; omega)
  have hw := hrow j hlt
  repeat' (first | refine Yu ?_ | refine Yp ?_ | refine z6 ?_ | refine z8 ?_ | refine za ?_ | refine zk ?_ | (refine Yq ?_ ?_ <;> intro hc <;> try first | contradiction | omega) | refine Yx ?_ | refine Yz ?_ | refine Yy ?_)
  ·exact ⟨Or.inr rfl, _, rfl, kt (by rw [← hc]; simp [hlt])⟩
  ·refine ⟨j + 1, by simp; omega, (Sc (Sc (Sc Sn))), rfl, hlt, fun i hi => ?_⟩
   by_cases q : i = j
   ·subst q; exact hc
   ·exact hd i (by omega)
 ·repeat' (first | refine Yu ?_ | refine Yp ?_ | refine z6 ?_ | refine z8 ?_ | refine za ?_ | refine zk ?_ | (refine Yq ?_ ?_ <;> intro hc <;> try first | contradiction | omega) | refine Yx ?_ | refine Yz ?_ | refine Yy ?_)
  exact ⟨Or.inr rfl, _, rfl, kf (fun q => by obtain ⟨i, hi, e⟩ := List.mem_iff_getElem.1 q; exact hd i (by omega) (by simpa [hi] using e))⟩
theorem isClass_ev {cl : List Dt} {cv : AV} {s : List Nat} (hall : ∀ id, id < 10000000 → seen c.vis id = true) (hcx : Cx c h) (hn : h.n + 2 < 10000000) (C : Sl 70 true h ShClass cl cv) (kt : 0 ≤ findI (nms cl) s → ∀ h', Grew h h' → h'.n ≤ h.n + 2 → K (.bool true) h') (kf : ¬ 0 ≤ findI (nms cl) s → ∀ h', Grew h h' → h'.n ≤ h.n + 2 → K (.bool false) h') : Gv Tryz.prog X0 Mx c 272 [.agg [cv], .str s] h K := by
 have hnt : (9 : Nat) ≤ 1000000 := by decide
 refine gv_fn x_isClass (Mx_no rfl _ _ _) (by simp) hnt ?_
 unfold s_isClass SR.m SR.o
 have hs1 : seen c.vis h.n = true := hall h.n (by omega)
 repeat' (first | refine Yu ?_ | refine Yp ?_ | refine zi ?_ | (refine Yq ?_ ?_ <;> intro hc <;> try first | contradiction | omega) | (refine wo_boxA rfl rfl (by omega) fun h1 n1 b1 g1 => ?_) | (refine wo_call rfl rfl (rFind_ev hall (hcx.mono g1.le) (by omega) (C.grew g1) fun h2 g2 n2 => ?_)) | refine Yx ?_ | refine Yy ?_)
 ·exact ⟨Or.inr rfl, _, rfl, kt hc _ (g1.trans g2) (by omega)⟩
 ·exact ⟨Or.inr rfl, _, rfl, kf hc _ (g1.trans g2) (by omega)⟩
theorem Type10_ev {cl : List Dt} {cv : AV} {s : List Nat} (hall : ∀ id, id < 10000000 → seen c.vis id = true) (hcx : Cx c h) (hn : h.n + 2 < 10000000) (C : Sl 70 true h ShClass cl cv) (k : ∀ b h', Grew h h' → h'.n ≤ h.n + 2 → K (.bool b) h') : Gv Tryz.prog X0 Mx c 156 [.agg [cv], .str s] h K := by
 have hnt : (13 : Nat) ≤ 1000000 := by decide
 refine gv_fn x_Type10 (Mx_no rfl _ _ _) (by simp) hnt ?_
 unfold s_Type10 SR.g SR.o
 have hs1 : seen c.vis h.n = true := hall h.n (by omega)
 repeat' (first | refine Yu ?_ | refine Yp ?_ | refine zi ?_ | (refine Yq ?_ ?_ <;> intro hc <;> try first | contradiction | omega) | (refine wo_boxA rfl rfl (by omega) fun h1 n1 b1 g1 => ?_) | (refine wo_call rfl rfl (rFind_ev hall (hcx.mono g1.le) (by omega) (C.grew g1) fun h2 g2 n2 => ?_)) | refine Yx ?_ | refine Yy ?_)
 all_goals first
  | exact ⟨Or.inr rfl, _, rfl, k _ _ g1 (by omega)⟩
  | exact ⟨Or.inr rfl, _, rfl, k _ _ (g1.trans g2) (by omega)⟩
def chainF (ns ss : List (List Nat)) : Nat → List (List Nat) → List Nat → List (List Nat) × Bool
 | 0, out, _ => (out, false)
 | n + 1, out, s => if findI ns s < 0 then (out, false) else if s ∈ out then (out, true) else if ss.getD (findI ns s).toNat [] = [] then (out ++ [s], false) else chainF ns ss n (out ++ [s]) (ss.getD (findI ns s).toNat [])
def chainR (cl : List Dt) (s : List Nat) : List (List Nat) × Bool := chainF (nms cl) (sps cl) (cl.length + 1) [] s
def cntO (ns out : List (List Nat)) : Nat := ns.countP fun x => decide (¬ x ∈ out)
theorem cntO_le {ns out : List (List Nat)} : cntO ns out ≤ ns.length := List.countP_le_length
theorem cntO_lt : ∀ {ns out : List (List Nat)} {s : List Nat}, s ∈ ns → ¬ s ∈ out → cntO ns (out ++ [s]) < cntO ns out
 | x :: ns, out, s, hs, ho => by
  have mono : ∀ l : List (List Nat), cntO l (out ++ [s]) ≤ cntO l out := fun l => List.countP_mono_left fun y _ hy => by
   simp only [decide_eq_true_eq] at hy ⊢
   exact fun q => hy (by simp [q])
  by_cases e : x = s
  ·subst e
   have h1 : cntO (x :: ns) (out ++ [x]) = cntO ns (out ++ [x]) := by unfold cntO; rw [List.countP_cons]; simp
   have h2 : cntO (x :: ns) out = cntO ns out + 1 := by unfold cntO; rw [List.countP_cons]; simp [ho]
   have := mono ns
   omega
  ·have hs' : s ∈ ns := by
    rcases List.mem_cons.1 hs with q | q
    ·exact absurd q.symm e
    ·exact q
   have ih := cntO_lt (ns := ns) hs' ho
   unfold cntO at ih ⊢
   rw [List.countP_cons, List.countP_cons]
   by_cases q : x ∈ out
   ·simp only [List.mem_append, q, true_or, not_true_eq_false, decide_false]
    simpa using ih
   ·have : ¬ x ∈ out ++ [s] := by simp [q, e]
    simp only [this, q, not_false_eq_true, decide_true, if_true]
    omega
structure ChI where
 m : Nat
 out : List (List Nat)
 s : List Nat
 ov : AV
 id : Nat
theorem SLo.low {n0 n1 : Nat} {h : H} {v : AV} {l : List (List Nat)} {id : Nat} (a : SLo n1 h v l id) (hle : n0 ≤ n1) : SLo n0 h v l id := ⟨a.arr, a.nil, fun q => ⟨Nat.le_trans hle (a.own q).1, (a.own q).2⟩⟩
theorem rchain_ev {cl : List Dt} {cv : AV} {s : List Nat} (hall : ∀ id, id < 10000000 → seen c.vis id = true) (hcx : Cx c h) (hn : h.n + 50 < 10000000) (h12 : cl.length ≤ 12) (C : Sl 70 true h ShClass cl cv) (k : ∀ h' v id, Grew h h' → h'.n ≤ h.n + 50 → SLo h.n h' v (chainR cl s).1 id → K (.tup [v, .bool (chainR cl s).2]) h') : Gv Tryz.prog X0 Mx c 90 [.agg [cv], .str s] h K := by
 have hnt : (39 : Nat) ≤ 1000000 := by decide
 refine gv_fn x_rchain (Mx_no rfl _ _ _) (by simp) hnt ?_
 unfold s_rchain SR.m SR.o
 obtain ⟨id, rows, A, hr, hid, hrow⟩ := at_Class C
 have hs1 := hall h.n (by omega)
 repeat' (first | refine Yu ?_ | refine Yp ?_ | refine z9 ?_ | refine zh ?_ | refine zi ?_ | refine zj ?_ | (refine Yq ?_ ?_ <;> intro hc <;> try first | contradiction | omega) | (refine wo_boxA rfl rfl (by omega) fun h1 n1 b1 g1 => ?_) | (refine wo_call rfl rfl (rFind_ev hall (hcx.mono g1.le) (by omega) (C.grew g1) fun h2 g2 n2 => ?_)) | refine Yx ?_ | refine Yz ?_ | refine Yy ?_)
 have hnl : (nms cl).length = cl.length := nms_len
 refine wc_loopE (ι := ChI) (fun q => [(1, .str q.s), (2, .ptr h.n 0), (6, q.ov), (7, .int .i64 (findI (nms cl) q.s))]) (fun q h' => Grew h1 h' ∧ h'.n ≤ h1.n + 1 + 3 * q.out.length ∧ SLo h1.n h' q.ov q.out q.id ∧ chainR cl s = chainF (nms cl) (sps cl) q.m q.out q.s ∧ q.m + q.out.length = cl.length + 1 ∧ 1 + cntO (nms cl) q.out ≤ q.m) (fun q => q.m) ?_ ⟨cl.length + 1, [], s, .nils, 0⟩ ⟨g2, by simp only [List.length_nil]; omega, SLo.empty _ _, rfl, by simp, by have := cntO_le (ns := nms cl) (out := []); simp only; omega⟩ (Sc (Sc (Sc (Sc Sn))))
 rintro ⟨m, out, s', ov, oid⟩ h' ⟨hG, hN, hS, hE, hm, hcn⟩
 simp only at hG hN hS hE hm hcn
 show WC _ _ _ _ _ _ [(1, .str s'), (2, .ptr h.n 0), (6, ov), (7, .int .i64 (findI (nms cl) s'))] _ _
 have hGl := hG.le
 obtain ⟨m, rfl⟩ : ∃ n, m = n + 1 := ⟨m - 1, by omega⟩
 have hol : out.length ≤ 12 := by omega
 by_cases hf : findI (nms cl) s' < 0
 ·repeat' (first | refine Yu ?_ | refine Yp ?_ | refine z9 ?_ | refine zh ?_ | refine zi ?_ | refine zj ?_ | (refine Yq ?_ ?_ <;> intro hc <;> try first | contradiction | omega) | refine Yx ?_ | refine Yz ?_ | refine Yy ?_)
  refine ⟨Or.inr rfl, _, rfl, ?_⟩
  have e : chainR cl s = (out, false) := by rw [hE]; simp only [chainF, if_pos hf]
  rw [e] at k
  exact k h' ov oid (g1.trans hG) (by omega) (hS.low (by omega))
 ·have hlt : (findI (nms cl) s').toNat < cl.length := by have := findI_lt (l := nms cl) (s := s'); omega
  have hsi := hall id (by have := hid (by omega); omega)
  obtain ⟨v2, v3, hw, _, _, _⟩ := hrow _ hlt
  repeat' (first | refine Yu ?_ | refine Yp ?_ | refine z9 ?_ | refine zh ?_ | refine zi ?_ | refine zj ?_ | (refine Yq ?_ ?_ <;> intro hc <;> try first | contradiction | omega) | (refine wo_call rfl rfl (in10_ev hall (hcx.mono (by omega)) (by omega) (by omega) hS (fun hin => ?_) (fun hin => ?_))) | (refine wo_bsliceA rfl (by omega) fun h3 n3 b3 g3 => ?_) | refine Yx ?_ | refine Yz ?_ | refine Yy ?_)
  ·refine ⟨Or.inr rfl, _, rfl, ?_⟩
   have e : chainR cl s = (out, true) := by rw [hE]; simp only [chainF, if_neg hf, if_pos hin]
   rw [e] at k
   exact k h' ov oid (g1.trans hG) (by omega) (hS.low (by omega))
  ·refine wo_addS rfl rfl (hS.grew g3) b3 (by omega) (hcx.mono (by omega)) (fun i q1 q2 => hall i q2) (by omega) (by omega) (by have := hcx.low; omega) (by omega) fun h4 sv4 S4 n4 k4 => ?_
   have G4 : Grew h1 h4 := ⟨by omega, fun j hj => (k4 j hj).trans ((hG.trans g3).get j hj)⟩
   have b4 := (G4.get h.n (by omega)).trans b1
   have A4 := A.grew (g1.trans G4)
   have e0 := sps_get hlt
   repeat' (first | refine Yu ?_ | refine Yp ?_ | refine z9 ?_ | refine zh ?_ | refine zi ?_ | refine zj ?_ | (refine Yq ?_ ?_ <;> intro hc <;> try first | contradiction | omega) | (refine wo_call rfl rfl (rFind_ev hall (hcx.mono (by omega)) (by omega) (C.grew (g1.trans G4)) fun h5 g5 n5 => ?_)) | refine Yx ?_ | refine Yz ?_ | refine Yy ?_)
   ·refine ⟨Or.inr rfl, _, rfl, ?_⟩
    have e : chainR cl s = (out ++ [s'], false) := by rw [hE]; simp only [chainF, if_neg hf, if_neg hin]; rw [if_pos (e0.trans hc)]
    rw [e] at k
    exact k h4 sv4 _ (g1.trans G4) (by omega) (S4.low (by omega))
   ·refine ⟨⟨m, out ++ [s'], dS 1 (el cl (findI (nms cl) s').toNat), sv4, _⟩, by simp, (Sc (Sc (Sc (Sc Sn)))), G4.trans g5, by simp only [List.length_append, List.length_cons, List.length_nil]; omega, S4.grew g5, ?_, by simp only [List.length_append, List.length_cons, List.length_nil]; omega, ?_⟩
    ·rw [hE]; simp only [chainF, if_neg hf, if_neg hin]; rw [if_neg (fun q => hc (e0.symm.trans q)), e0]
    ·have := cntO_lt (findI_mem (by omega)) hin
     simp only
     omega
theorem rSupers_ev {cl : List Dt} {cv : AV} {s : List Nat} (hall : ∀ id, id < 10000000 → seen c.vis id = true) (hcx : Cx c h) (hn : h.n + 51 < 10000000) (h12 : cl.length ≤ 12) (C : Sl 70 true h ShClass cl cv) (k : ∀ h' v id, Grew h h' → h'.n ≤ h.n + 51 → SLo h.n h' v (chainR cl s).1 id → K v h') : Gv Tryz.prog X0 Mx c 48 [.agg [cv], .str s] h K := by
 have hnt : (14 : Nat) ≤ 1000000 := by decide
 refine gv_fn x_rSupers (Mx_no rfl _ _ _) (by simp) hnt ?_
 unfold s_rSupers SR.m SR.o
 have hs1 := hall h.n (by omega)
 repeat' (first | refine Yu ?_ | refine Yp ?_ | refine zi ?_ | (refine wo_boxA rfl rfl (by omega) fun h1 n1 b1 g1 => ?_) | (refine wo_call rfl rfl (rchain_ev hall (hcx.mono g1.le) (by omega) h12 (C.grew g1) fun h2 v2 id2 g2 n2 S2 => ?_)) | refine Yx ?_ | refine Yy ?_)
 exact ⟨Or.inr rfl, _, rfl, k _ _ _ (g1.trans g2) (by omega) (S2.low (by omega))⟩
theorem chainF_len : ∀ (ns ss : List (List Nat)) (n : Nat) (out : List (List Nat)) (s : List Nat), (chainF ns ss n out s).1.length ≤ out.length + n
 | ns, ss, 0, out, s => by simp [chainF]
 | ns, ss, n + 1, out, s => by
  simp only [chainF]
  split
  ·simp
  ·split
   ·simp
   ·split
    ·simp
    ·have := chainF_len ns ss n (out ++ [s]) (ss.getD (findI ns s).toNat [])
     simp only [List.length_append, List.length_cons, List.length_nil] at this
     omega
theorem chainF_mem : ∀ (ns ss : List (List Nat)) (n : Nat) (out : List (List Nat)) (s : List Nat), (∀ x ∈ out, 0 ≤ findI ns x) → ∀ x ∈ (chainF ns ss n out s).1, 0 ≤ findI ns x
 | ns, ss, 0, out, s, ho => by simpa [chainF] using ho
 | ns, ss, n + 1, out, s, ho => by
  simp only [chainF]
  split
  ·exact ho
  ·rename_i hf
   have ho' : ∀ x ∈ out ++ [s], 0 ≤ findI ns x := fun x hx => by
    rcases List.mem_append.1 hx with q | q
    ·exact ho x q
    ·simp at q; subst q; omega
   split
   ·exact ho
   ·split
    ·exact ho'
    ·exact chainF_mem ns ss n _ _ ho'
theorem chainR_len {cl : List Dt} {s : List Nat} : (chainR cl s).1.length ≤ cl.length + 1 := by
 have := chainF_len (nms cl) (sps cl) (cl.length + 1) [] s
 simpa [chainR] using this
theorem chainR_mem {cl : List Dt} {s : List Nat} : ∀ x ∈ (chainR cl s).1, 0 ≤ findI (nms cl) x := chainF_mem _ _ _ _ _ (fun x hx => absurd hx (by simp))
theorem IsSub_ev {cl : List Dt} {cv : AV} {s t : List Nat} (hall : ∀ id, id < 10000000 → seen c.vis id = true) (hcx : Cx c h) (hn : h.n + 52 < 10000000) (h12 : cl.length ≤ 12) (C : Sl 70 true h ShClass cl cv) (k : ∀ b h', Grew h h' → h'.n ≤ h.n + 52 → K (.bool b) h') : Gv Tryz.prog X0 Mx c 377 [.agg [cv], .str s, .str t] h K := by
 have hnt : (12 : Nat) ≤ 1000000 := by decide
 refine gv_fn x_IsSub (Mx_no rfl _ _ _) (by simp) hnt ?_
 unfold s_IsSub SR.m SR.o
 have hs1 := hall h.n (by omega)
 repeat' (first | refine Yu ?_ | refine Yp ?_ | refine zi ?_ | (refine wo_boxA rfl rfl (by omega) fun h1 n1 b1 g1 => ?_) | (refine wo_call rfl rfl (rSupers_ev hall (hcx.mono g1.le) (by omega) h12 (C.grew g1) fun h2 v2 id2 g2 n2 S2 => ?_)) | (refine wo_call rfl rfl (in10_ev hall (hcx.mono (by have := g2.le; omega)) (by omega) (by have := chainR_len (cl := cl) (s := s); omega) S2 (fun hin => ?_) (fun hin => ?_))) | refine Yx ?_ | refine Yy ?_)
 all_goals exact ⟨Or.inr rfl, _, rfl, k _ _ (g1.trans g2) (by omega)⟩
theorem Fits12_ev {cl : List Dt} {cv : AV} {s t : List Nat} (hall : ∀ id, id < 10000000 → seen c.vis id = true) (hcx : Cx c h) (hn : h.n + 60 < 10000000) (h12 : cl.length ≤ 12) (C : Sl 70 true h ShClass cl cv) (k : ∀ b h', Grew h h' → h'.n ≤ h.n + 60 → K (.bool b) h') : Gv Tryz.prog X0 Mx c 273 [.agg [cv], .str s, .str t] h K := by
 have hnt : (28 : Nat) ≤ 1000000 := by decide
 refine gv_fn x_Fits12 (Mx_no rfl _ _ _) (by simp) hnt ?_
 unfold s_Fits12 SR.g SR.m SR.o
 have hs1 := hall h.n (by omega)
 refine Yc (Yd (rg_go hnt rfl rfl (wo_boxA rfl rfl (by omega) fun h1 n1 b1 g1 => ?_)))
 have G := g1
 have Bx := b1
 have L1 := g1.le
 repeat' (first | refine Yu ?_ | refine Yp ?_ | refine zi ?_ | (refine Yq ?_ ?_ <;> intro hc <;> try first | contradiction | omega) | (refine wo_call rfl rfl (isClass_ev (s := s) hall (hcx.mono (by omega)) (by omega) (C.grew G) (fun hc2 h2 g2 n2 => ?_) (fun hc2 h2 g2 n2 => ?_)) <;> (have L2 := g2.le; have G := G.trans g2; have Bx := (g2.get h.n (by omega)).trans Bx)) | refine Yx ?_ | refine Yy ?_)
 all_goals try exact ⟨Or.inr rfl, _, rfl, k _ _ G (by omega)⟩
 repeat' (first | refine Yu ?_ | refine Yp ?_ | refine zi ?_ | (refine Yq ?_ ?_ <;> intro hc <;> try first | contradiction | omega) | (refine wo_call rfl rfl (isClass_ev (s := t) hall (hcx.mono (by omega)) (by omega) (C.grew G) (fun hc3 h3 g3 n3 => ?_) (fun hc3 h3 g3 n3 => ?_)) <;> (have L3 := g3.le; have G := G.trans g3; have Bx := (g3.get h.n (by omega)).trans Bx)) | refine Yx ?_ | refine Yy ?_)
 all_goals try exact ⟨Or.inr rfl, _, rfl, k _ _ G (by omega)⟩
 refine wo_call rfl rfl (IsSub_ev hall (hcx.mono (by omega)) (by omega) h12 (C.grew G) fun b h4 g4 n4 => ?_)
 have G := G.trans g4
 repeat' (first | refine Yu ?_ | refine Yp ?_ | refine zi ?_ | (refine Yq ?_ ?_ <;> intro hc <;> try first | contradiction | omega) | refine Yx ?_ | refine Yy ?_)
 all_goals exact ⟨Or.inr rfl, _, rfl, k _ _ G (by omega)⟩
theorem SLo.cells {n0 : Nat} {h : H} {v : AV} {l : List (List Nat)} {id : Nat} (a : SLo n0 h v l id) (hl : l ≠ []) : ∃ cap vs, v = .sl id 0 l.length 1 cap ∧ id < h.n ∧ h.get id = some (.cells vs) ∧ ∀ j, j < l.length → vs[j]? = some (.str (l.getD j [])) := by
 obtain ⟨⟨cap, e1⟩, e2, ⟨vs, e3, e4, e5⟩, e6⟩ := a.arr.full (by cases l with | nil => exact absurd rfl hl | cons x l => simp)
 refine ⟨cap, vs, by simpa using e1, e2, e3, fun j hj => ?_⟩
 have e7 := congrArg (·[j]?) e5
 have e8 : ∀ l : List (List Nat), (l.map fun s => [AV.str s]).flatten = l.map AV.str := fun l => by
  induction l with
  | nil => rfl
  | cons x l ih => simp only [List.map_cons, List.flatten_cons, List.cons_append, List.nil_append, ih]
 simp only [e8] at e7
 have e9 : (vs.take ((l.map fun s => [AV.str s]).length * 1))[j]? = vs[j]? := by simp [hj]
 rw [← e9]
 rw [e7]
 simp [hj]
def UpS (h : H) (v : AV) (l : List (List Nat)) : Prop := (l = [] ∧ v = .nils) ∨ ∃ id o cap vs, v = .sl id o l.length 1 cap ∧ id < h.n ∧ h.get id = some (.cells vs) ∧ ∀ j, j < l.length → vs[o + j * 1]? = some (.str (l.getD j []))
theorem UpS.grew {h h' : H} {v : AV} {l : List (List Nat)} (a : UpS h v l) (g : Grew h h') : UpS h' v l := by
 rcases a with a | ⟨id, o, cap, vs, e1, e2, e3, e4⟩
 ·exact Or.inl a
 ·exact Or.inr ⟨id, o, cap, vs, e1, Nat.lt_of_lt_of_le e2 g.le, (g.get id e2).trans e3, e4⟩
theorem up_ev {cl : List Dt} {cv : AV} {s : List Nat} (hall : ∀ id, id < 10000000 → seen c.vis id = true) (hcx : Cx c h) (hn : h.n + 52 < 10000000) (h12 : cl.length ≤ 12) (C : Sl 70 true h ShClass cl cv) (k : ∀ h' v, Grew h h' → h'.n ≤ h.n + 52 → UpS h' v ((chainR cl s).1.drop 1) → K v h') : Gv Tryz.prog X0 Mx c 441 [.agg [cv], .str s] h K := by
 have hnt : (14 : Nat) ≤ 1000000 := by decide
 refine gv_fn x_up (Mx_no rfl _ _ _) (by simp) hnt ?_
 unfold s_up SR.m SR.o
 have hs1 := hall h.n (by omega)
 have hcl := chainR_len (cl := cl) (s := s)
 repeat' (first | refine Yu ?_ | refine Yp ?_ | refine z7 ?_ | refine zV ?_ | refine zi ?_ | (refine Yq ?_ ?_ <;> intro hc <;> try first | contradiction | omega) | (refine wo_boxA rfl rfl (by omega) fun h1 n1 b1 g1 => ?_) | (refine wo_call rfl rfl (rSupers_ev hall (hcx.mono g1.le) (by omega) h12 (C.grew g1) fun h2 v2 id2 g2 n2 S2 => ?_)) | refine Yx ?_ | refine Yy ?_)
 generalize (chainR cl s).1 = l at k S2 hcl
 by_cases hl : l = []
 ·subst hl
  obtain rfl := S2.nil rfl
  repeat' (first | refine Yu ?_ | refine Yp ?_ | refine z7 ?_ | refine zV ?_ | refine zi ?_ | (refine Yq ?_ ?_ <;> intro hc <;> try first | contradiction | omega) | refine Yx ?_ | refine Yy ?_)
  exact ⟨Or.inr rfl, _, rfl, k _ _ (g1.trans g2) (by omega) (Or.inl ⟨rfl, rfl⟩)⟩
 ·obtain ⟨cap, vs, rfl, e2, e3, e4⟩ := S2.cells hl
  have hp : 0 < l.length := List.length_pos_iff.2 hl
  repeat' (first | refine Yu ?_ | refine Yp ?_ | refine z7 ?_ | refine zV ?_ | refine zi ?_ | (refine Yq ?_ ?_ <;> intro hc <;> try first | contradiction | omega) | refine Yx ?_ | refine Yy ?_)
  refine wo_slice (l := 1) (u := l.length) rfl rfl rfl (by omega) (by omega) rfl ?_
  repeat' (first | refine Yu ?_ | refine Yp ?_ | refine z7 ?_ | refine zV ?_ | refine zi ?_ | (refine Yq ?_ ?_ <;> intro hc <;> try first | contradiction | omega) | refine Yx ?_ | refine Yy ?_)
  refine ⟨Or.inr rfl, _, rfl, k _ _ (g1.trans g2) (by omega) (Or.inr ⟨id2, 1, cap.map fun q => q - 1, vs, ?_, e2, e3, fun j hj => ?_⟩)⟩
  ·rw [List.length_drop]; rfl
  ·rw [List.length_drop] at hj
   have := e4 (1 + j) (by omega)
   rw [show 1 + j * 1 = 1 + j by omega, this]
   simp [Nat.add_comm]
def clsOf (cl : List Dt) (x : List Nat) : Dt := el cl (findI (nms cl) x).toNat
def fldIn (cl : List Dt) (nm x : List Nat) : Prop := ∃ k, k < (dL 2 (clsOf cl x)).length ∧ dS 0 (el (dL 2 (clsOf cl x)) k) = nm
def hasFld (cl : List Dt) (s nm : List Nat) : Prop := ∃ x ∈ (chainR cl s).1, fldIn cl nm x
theorem hasFld_no {cl : List Dt} {s nm : List Nat} (h : ∀ i, i < (chainR cl s).1.length → ¬ fldIn cl nm ((chainR cl s).1.getD i [])) : ¬ hasFld cl s nm := by
 rintro ⟨x, hx, hf⟩
 obtain ⟨i, hi, rfl⟩ := List.mem_iff_getElem.1 hx
 exact h i hi (by simpa [hi] using hf)
theorem getD_mem {l : List (List Nat)} {i : Nat} (hi : i < l.length) : l.getD i [] ∈ l := by simp [hi]
theorem Field10_ev {cl : List Dt} {cv : AV} {s nm : List Nat} (hall : ∀ id, id < 10000000 → seen c.vis id = true) (hcx : Cx c h) (hn : h.n + 80 < 10000000) (h12 : cl.length ≤ 12) (C : Sl 70 true h ShClass cl cv) (kt : hasFld cl s nm → ∀ a b h', Grew h h' → h'.n ≤ h.n + 80 → K (.tup [.str a, .str b, .bool true]) h') (kf : ¬ hasFld cl s nm → ∀ a b h', Grew h h' → h'.n ≤ h.n + 80 → K (.tup [.str a, .str b, .bool false]) h') : Gv Tryz.prog X0 Mx c 373 [.agg [cv], .str s, .str nm] h K := by
 have hnt : (57 : Nat) ≤ 1000000 := by decide
 refine gv_fn x_Field10 (Mx_no rfl _ _ _) (by simp) hnt ?_
 unfold s_Field10 SR.S SR.c SR.l SR.m SR.o SR.p
 obtain ⟨id, rows, A, hr, hid, hrow⟩ := at_Class C
 have hs1 := hall h.n (by omega)
 have hlow := hcx.low
 have hcl := chainR_len (cl := cl) (s := s)
 have hcm := chainR_mem (cl := cl) (s := s)
 have hno := hasFld_no (cl := cl) (s := s) (nm := nm)
 have hyes : ∀ i, i < (chainR cl s).1.length → fldIn cl nm ((chainR cl s).1.getD i []) → hasFld cl s nm := fun i hi q => ⟨_, getD_mem hi, q⟩
 repeat' (first | refine Yu ?_ | refine Yp ?_ | refine z6 ?_ | refine z8 ?_ | refine z9 ?_ | refine za ?_ | refine zh ?_ | refine zi ?_ | refine zj ?_ | refine zk ?_ | refine zl ?_ | (refine Yq ?_ ?_ <;> intro hc <;> try first | contradiction | omega) | (refine wo_boxA rfl rfl (by omega) fun h1 n1 b1 g1 => ?_) | (refine wo_call rfl rfl (rSupers_ev hall (hcx.mono g1.le) (by omega) h12 (C.grew g1) fun h2 v2 id2 g2 n2 S2 => ?_)) | refine Yx ?_ | refine Yv ?_ | refine zx ?_ | refine Yz ?_ | refine Yy ?_)
 generalize (chainR cl s).1 = l at S2 hcl hcm hno hyes
 obtain ⟨srows, SA, hsr, hsrow⟩ := S2.rows
 refine wc_loopE (ι := Nat) (fun j => [(2, .str nm), (3, .ptr h.n 0), (9, v2), (10, .int .i64 (j : Int))]) (fun j h' => Grew h2 h' ∧ h'.n ≤ h2.n + 2 * j ∧ j ≤ l.length ∧ ∀ i, i < j → ¬ fldIn cl nm (l.getD i [])) (fun j => l.length - j) ?_ 0 ⟨Grew.refl _, by omega, Nat.zero_le _, fun i hi => absurd hi (by omega)⟩ (Sc (Sc (Sc (Sc Sn))))
 rintro j h4 ⟨hG, hN, hj, hd⟩
 have hGl := hG.le
 have g1l := g1.le
 have g2l := g2.le
 have gB := (g1.trans g2).trans hG
 have B4 := ((g2.trans hG).get h.n (by omega)).trans b1
 have S4 := SA.grew hG
 by_cases hlt : j < l.length
 ·have hfx := hcm _ (getD_mem hlt)
  have hw := hsrow j hlt
  have hown := S2.own (fun q => by rw [q] at hlt; simp at hlt)
  have hs2 := hall id2 (by omega)
  have hfl : (findI (nms cl) (l.getD j [])).toNat < cl.length := by have := findI_lt (l := nms cl) (s := l.getD j []); rw [nms_len] at this; omega
  have hsi := hall id (by have := hid (by omega); omega)
  obtain ⟨w2, w3, hwc, F, _, oc⟩ := hrow _ hfl
  repeat' (first | refine Yu ?_ | refine Yp ?_ | refine z6 ?_ | refine z8 ?_ | refine z9 ?_ | refine za ?_ | refine zh ?_ | refine zi ?_ | refine zj ?_ | refine zk ?_ | refine zl ?_ | (refine Yq ?_ ?_ <;> intro hc <;> try first | contradiction | omega) | (refine rd_bar hnt rfl rfl (wo_call rfl rfl (rFind_ev (fun id q => by by_cases z : id < h4.n; exact seen_old (by repeat (first | exact rs_nil | refine rs_add (by omega) ?_)) (by omega) z (hall id q); exact seen_here (by omega) (by unfold big; omega)) (Cx.mem (by omega)) (by omega) (C.grew gB) fun h5 g5 n5 => ⟨(by repeat (first | exact unchF_nil | refine unchF_cons (by decide) ?_ | refine unchF_same (by assumption) ((g5.get _ (by omega)).trans (by assumption)) ?_)), ?_⟩))) | refine Yx ?_ | refine Yv ?_ | refine zx ?_ | refine Yz ?_ | refine Yy ?_)
  have B5 := (g5.get h.n (by omega)).trans B4
  have A5 := A.grew (gB.trans g5)
  have g5l := g5.le
  repeat' (first | refine Yu ?_ | refine Yp ?_ | refine z6 ?_ | refine z8 ?_ | refine z9 ?_ | refine za ?_ | refine zh ?_ | refine zi ?_ | refine zj ?_ | refine zk ?_ | refine zl ?_ | (refine Yq ?_ ?_ <;> intro hc <;> try first | contradiction | omega) | refine Yx ?_ | refine Yv ?_ | refine zx ?_ | refine Yz ?_ | refine Yy ?_)
  refine rd_bs hnt (by omega) (by omega) rfl rfl rfl rfl (by rfl) (by exact oc) (by decide) (fun k1 k2 e1 e2 => by repeat (first | exact unchF_nil | refine unchF_cons (by decide) ?_)) fun h6 n6 b6 g6 => ?_
  have g6l := g6.le
  have gC := (gB.trans g5).trans g6
  have B6 := (g6.get h.n (by omega)).trans B5
  have S6 := S4.grew (g5.trans g6)
  obtain ⟨fid, frows, FA0, hfr, hfid, hfrow⟩ := at_Field F
  have FA := FA0.grew gC
  have hs5 := hall h5.n (by omega)
  have hfe : ∀ fl', dL 2 (el cl (findI (nms cl) (l.getD j [])).toNat) = fl' → (fldIn cl nm (l.getD j []) ↔ ∃ k, k < fl'.length ∧ dS 0 (el fl' k) = nm) := fun _ e => by subst e; exact Iff.rfl
  generalize hq : dL 2 (el cl (findI (nms cl) (l.getD j [])).toNat) = fl at hfr hfid hfrow FA0 F
  have hfe := hfe _ hq
  have hfll := F.le
  repeat' (first | refine Yu ?_ | refine Yp ?_ | refine z6 ?_ | refine z8 ?_ | refine z9 ?_ | refine za ?_ | refine zh ?_ | refine zi ?_ | refine zj ?_ | refine zk ?_ | refine zl ?_ | (refine Yq ?_ ?_ <;> intro hc <;> try first | contradiction | omega) | refine Yx ?_ | refine Yv ?_ | refine zx ?_ | refine Yz ?_ | refine Yy ?_)
  refine wc_loopE (ι := Nat) (fun k => [(2, .str nm), (3, .ptr h.n 0), (9, v2), (10, .int .i64 (j : Int)), (11, .ptr h5.n 0), (12, .int .i64 (k : Int))]) (fun k h' => h' = h6 ∧ k ≤ fl.length ∧ ∀ i, i < k → dS 0 (el fl i) ≠ nm) (fun k => fl.length - k) ?_ 0 ⟨rfl, Nat.zero_le _, fun i hi => absurd hi (by omega)⟩ (Sc (Sc (Sc (Sc (Sc (Sc Sn))))))
  rintro k h' ⟨hh, hk, hdk⟩
  have hh2 := hh.symm
  subst hh2
  by_cases hkl : k < fl.length
  ·have hs7 := hall fid (by have := hfid (by omega); omega)
   obtain ⟨hwk, _⟩ := hfrow k hkl
   repeat' (first | refine Yu ?_ | refine Yp ?_ | refine z6 ?_ | refine z8 ?_ | refine z9 ?_ | refine za ?_ | refine zh ?_ | refine zi ?_ | refine zj ?_ | refine zk ?_ | refine zl ?_ | (refine Yq ?_ ?_ <;> intro hc <;> try first | contradiction | omega) | refine Yx ?_ | refine Yv ?_ | refine zx ?_ | refine Yz ?_ | refine Yy ?_)
   ·exact ⟨Or.inr rfl, _, rfl, kt (hyes j hlt (hfe.2 ⟨k, hkl, hc⟩)) _ _ _ gC (by omega)⟩
   ·refine ⟨k + 1, by simp; omega, (Sc (Sc (Sc (Sc (Sc (Sc Sn)))))), rfl, hkl, fun i hi => ?_⟩
    by_cases q : i = k
    ·subst q; exact hc
    ·exact hdk i (by omega)
  ·repeat' (first | refine Yu ?_ | refine Yp ?_ | refine z6 ?_ | refine z8 ?_ | refine z9 ?_ | refine za ?_ | refine zh ?_ | refine zi ?_ | refine zj ?_ | refine zk ?_ | refine zl ?_ | (refine Yq ?_ ?_ <;> intro hc <;> try first | contradiction | omega) | refine Yx ?_ | refine Yv ?_ | refine zx ?_ | refine Yz ?_ | refine Yy ?_)
   refine ⟨j + 1, by simp; omega, (Sc (Sc (Sc (Sc Sn)))), (hG.trans g5).trans g6, by omega, hlt, fun i hi => ?_⟩
   by_cases q : i = j
   ·subst q
    intro z
    obtain ⟨k', e1, e2⟩ := hfe.1 z
    exact hdk k' (by omega) e2
   ·exact hd i (by omega)
 ·repeat' (first | refine Yu ?_ | refine Yp ?_ | refine z6 ?_ | refine z8 ?_ | refine z9 ?_ | refine za ?_ | refine zh ?_ | refine zi ?_ | refine zj ?_ | refine zk ?_ | refine zl ?_ | (refine Yq ?_ ?_ <;> intro hc <;> try first | contradiction | omega) | refine Yx ?_ | refine Yv ?_ | refine zx ?_ | refine Yz ?_ | refine Yy ?_)
  exact ⟨Or.inr rfl, _, rfl, kf (hno fun i hi => hd i (by omega)) _ _ _ gB (by omega)⟩
theorem resE_one {c : C} {h : H} {env : Env'} {d : Nat} {v : AV} {rs : List (Nat × Option (Option Nat))} {vs : List AV} (h1 : look env d = some v) (h2 : resE c h env rs = some vs) : resE c h env ((d, none) :: rs) = some (v :: vs) := by
 simp only [resE, h1, h2]
theorem resE_box {c : C} {h : H} {env : Env'} {d id n : Nat} {cs : List AV} {rs : List (Nat × Option (Option Nat))} {vs : List AV} (h1 : look env d = some (.ptr id 0)) (hs : seen c.vis id = true) (hg : h.get id = some (.cells cs)) (hl : cs.length = n) (h2 : resE c h env rs = some vs) : resE c h env ((d, some (some n)) :: rs) = some (.agg cs :: vs) := by
 subst hl
 simp only [resE, h1, h2, getB_eq hs, hg]
 rw [dropK_eq _ _ _ (by omega), takeK_eq _ _ _ (by simp)]
 simp
theorem Sl.nils {B : Nat} {fl : Bool} {h : H} {e : Sh} : Sl B fl h e [] .nils := ⟨Nat.zero_le _, ⟨0, [], rfl, ⟨Or.inl ⟨rfl, Or.inl rfl⟩⟩, rfl, fun i x row h1 => absurd h1 (by simp)⟩⟩
theorem Lookup_ev {h0 : H} {cl : List Dt} {cv : AV} {s nm : List Nat} (hall : ∀ id, id < 10000000 → seen c.vis id = true) (hcx : Cx c h) (hn : h.n + 90 < 10000000) (h12 : cl.length ≤ 12) (g0 : Grew h0 h) (C0 : Sl 70 true h0 ShClass cl cv) (k : ∀ (a n r : List Nat) (st b : Bool) (pd : List Dt) (pv : AV) h', Grew h h' → h'.n ≤ h.n + 90 → Sl 70 true h0 .str pd pv → K (.tup [.str a, .agg [.str n, .bool st, pv, .str r], .bool b]) h') : Gv Tryz.prog X0 Mx c 378 [.agg [cv], .str s, .str nm] h K := by
 have hnt : (57 : Nat) ≤ 1000000 := by decide
 refine gv_fn x_Lookup (Mx_no rfl _ _ _) (by simp) hnt ?_
 unfold s_Lookup SR.S SR.c SR.l SR.m SR.o SR.p SR.s
 obtain ⟨id, rows, A00, hr, hid0, hrow⟩ := at_Class C0
 have A := A00.grew g0
 have C := C0.grew g0
 have hid : 0 < cl.length → id < h.n := fun q => Nat.lt_of_lt_of_le (hid0 q) g0.le
 have hs1 := hall h.n (by omega)
 have hlow := hcx.low
 have hcl := chainR_len (cl := cl) (s := s)
 have hcm := chainR_mem (cl := cl) (s := s)
 refine Yc (Yd (rg_go hnt rfl rfl (wo_boxA rfl rfl (by omega) fun h1 n1 b1 g1 => ?_)))
 have hsb := hall h1.n (by omega)
 repeat' (first | refine Yu ?_ | refine Yp ?_ | refine z6 ?_ | refine z8 ?_ | refine z9 ?_ | refine za ?_ | refine zh ?_ | refine zi ?_ | refine zj ?_ | refine zk ?_ | refine zl ?_ | (refine Yq ?_ ?_ <;> intro hc <;> try first | contradiction | omega) | (refine wo_boxA rfl rfl (by omega) fun hb nb bb gb => ?_) | refine Yx ?_ | refine Yv ?_ | refine zx ?_ | refine Yz ?_ | refine Yy ?_)
 have b1b := (gb.get h.n (by omega)).trans b1
 repeat' (first | refine Yu ?_ | refine Yp ?_ | refine z6 ?_ | refine z8 ?_ | refine z9 ?_ | refine za ?_ | refine zh ?_ | refine zi ?_ | refine zj ?_ | refine zk ?_ | refine zl ?_ | (refine Yq ?_ ?_ <;> intro hc <;> try first | contradiction | omega) | (refine wo_call rfl rfl (rSupers_ev hall (hcx.mono (by omega)) (by omega) h12 (C.grew (g1.trans gb)) fun h2 v2 id2 g2 n2 S2 => ?_)) | refine Yx ?_ | refine Yv ?_ | refine zx ?_ | refine Yz ?_ | refine Yy ?_)
 generalize (chainR cl s).1 = l at S2 hcl hcm
 obtain ⟨srows, SA, hsr, hsrow⟩ := S2.rows
 refine wc_loopE (ι := Nat) (fun j => [(2, .str nm), (3, .ptr h.n 0), (7, .ptr h1.n 0), (9, v2), (10, .int .i64 (j : Int))]) (fun j h' => Grew h2 h' ∧ h'.n ≤ h2.n + 2 * j ∧ j ≤ l.length) (fun j => l.length - j) ?_ 0 ⟨Grew.refl _, by omega, Nat.zero_le _⟩ (Sc (Sc (Sc (Sc (Sc Sn)))))
 rintro j h4 ⟨hG, hN, hj⟩
 have hGl := hG.le
 have g2l := g2.le
 have gB := ((g1.trans gb).trans g2).trans hG
 have B4 := ((g2.trans hG).get h.n (by omega)).trans b1b
 have D4 := ((g2.trans hG).get h1.n (by omega)).trans bb
 have S4 := SA.grew hG
 by_cases hlt : j < l.length
 ·have hfx := hcm _ (getD_mem hlt)
  have hw := hsrow j hlt
  have hown := S2.own (fun q => by rw [q] at hlt; simp at hlt)
  have hs2 := hall id2 (by omega)
  have hfl : (findI (nms cl) (l.getD j [])).toNat < cl.length := by have := findI_lt (l := nms cl) (s := l.getD j []); rw [nms_len] at this; omega
  have hsi := hall id (by have := hid (by omega); omega)
  obtain ⟨w2, w3, hwc, _, F, oc⟩ := hrow _ hfl
  repeat' (first | refine Yu ?_ | refine Yp ?_ | refine z6 ?_ | refine z8 ?_ | refine z9 ?_ | refine za ?_ | refine zh ?_ | refine zi ?_ | refine zj ?_ | refine zk ?_ | refine zl ?_ | (refine Yq ?_ ?_ <;> intro hc <;> try first | contradiction | omega) | (refine rd_bar hnt rfl rfl (wo_call rfl rfl (rFind_ev (fun id q => by by_cases z : id < h4.n; exact seen_old (by repeat (first | exact rs_nil | refine rs_add (by omega) ?_)) (by omega) z (hall id q); exact seen_here (by omega) (by unfold big; omega)) (Cx.mem (by omega)) (by omega) (C.grew gB) fun h5 g5 n5 => ⟨(by repeat (first | exact unchF_nil | refine unchF_cons (by decide) ?_ | refine unchF_same (by assumption) ((g5.get _ (by omega)).trans (by assumption)) ?_)), ?_⟩))) | refine Yx ?_ | refine Yv ?_ | refine zx ?_ | refine Yz ?_ | refine Yy ?_)
  have B5 := (g5.get h.n (by omega)).trans B4
  have A5 := A.grew (gB.trans g5)
  have g5l := g5.le
  repeat' (first | refine Yu ?_ | refine Yp ?_ | refine z6 ?_ | refine z8 ?_ | refine z9 ?_ | refine za ?_ | refine zh ?_ | refine zi ?_ | refine zj ?_ | refine zk ?_ | refine zl ?_ | (refine Yq ?_ ?_ <;> intro hc <;> try first | contradiction | omega) | refine Yx ?_ | refine Yv ?_ | refine zx ?_ | refine Yz ?_ | refine Yy ?_)
  refine rd_bs hnt (by omega) (by omega) rfl rfl rfl rfl (by rfl) (by exact oc) (by decide) (fun k1 k2 e1 e2 => by repeat (first | exact unchF_nil | refine unchF_cons (by decide) ?_)) fun h6 n6 b6 g6 => ?_
  have g6l := g6.le
  have gC := (gB.trans g5).trans g6
  have B6 := (g6.get h.n (by omega)).trans B5
  have D6 := ((g5.trans g6).get h1.n (by omega)).trans D4
  have S6 := S4.grew (g5.trans g6)
  obtain ⟨fid, frows, FA00, hfr, hfid0, hfrow⟩ := at_Sig F
  have hfid : 0 < (dL 3 (el cl (findI (nms cl) (l.getD j [])).toNat)).length → fid < h.n := fun q => Nat.lt_of_lt_of_le (hfid0 q) g0.le
  have FA0 := FA00.grew g0
  have FA := FA0.grew gC
  have hs5 := hall h5.n (by omega)
  generalize dL 3 (el cl (findI (nms cl) (l.getD j [])).toNat) = fl at hfr hfid hfid0 hfrow F
  have hfll := F.le
  repeat' (first | refine Yu ?_ | refine Yp ?_ | refine z6 ?_ | refine z8 ?_ | refine z9 ?_ | refine za ?_ | refine zh ?_ | refine zi ?_ | refine zj ?_ | refine zk ?_ | refine zl ?_ | (refine Yq ?_ ?_ <;> intro hc <;> try first | contradiction | omega) | refine Yx ?_ | refine Yv ?_ | refine zx ?_ | refine Yz ?_ | refine Yy ?_)
  refine wc_loopE (ι := Nat) (fun k => [(2, .str nm), (3, .ptr h.n 0), (7, .ptr h1.n 0), (9, v2), (10, .int .i64 (j : Int)), (11, .ptr h5.n 0), (12, .int .i64 (k : Int))]) (fun k h' => h' = h6 ∧ k ≤ fl.length) (fun k => fl.length - k) ?_ 0 ⟨rfl, Nat.zero_le _⟩ (Sc (Sc (Sc (Sc (Sc (Sc (Sc Sn)))))))
  rintro k' h' ⟨hh, hk⟩
  have hh2 := hh.symm
  subst hh2
  by_cases hkl : k' < fl.length
  ·have hs7 := hall fid (by have := hfid (by omega); omega)
   obtain ⟨pv, hwk, hpd, om⟩ := hfrow k' hkl
   repeat' (first | refine Yu ?_ | refine Yp ?_ | refine z6 ?_ | refine z8 ?_ | refine z9 ?_ | refine za ?_ | refine zh ?_ | refine zi ?_ | refine zj ?_ | refine zk ?_ | refine zl ?_ | (refine Yq ?_ ?_ <;> intro hc <;> try first | contradiction | omega) | refine Yx ?_ | refine Yv ?_ | refine zx ?_ | refine Yz ?_ | refine Yy ?_)
   ·refine rd_bar0 hnt rfl (wo_storeA rfl rfl (by show c.floor ≤ _; omega) (seen_old (by repeat (first | exact rs_nil | refine rs_add (by omega) ?_)) (by omega) (by omega) hsb) D6 rfl (by exact om) (by decide) (by omega) (splice_all rfl) fun h7 n7 b7 k7 => ⟨(by repeat (first | exact unchF_nil | refine unchF_cons (by decide) ?_)), ?_⟩)
    repeat' (first | refine Yu ?_ | refine Yp ?_ | refine z6 ?_ | refine z8 ?_ | refine z9 ?_ | refine za ?_ | refine zh ?_ | refine zi ?_ | refine zj ?_ | refine zk ?_ | refine zl ?_ | (refine Yq ?_ ?_ <;> intro hc <;> try first | contradiction | omega) | refine Yx ?_ | refine Yv ?_ | refine zx ?_ | refine Yz ?_ | refine Yy ?_)
    refine ⟨Or.inr rfl, _, resE_one rfl (resE_box rfl hsb b7 rfl (resE_one rfl rfl)), ?_⟩
    have gD : Grew h h7 := ⟨by omega, fun i hi => (k7 i (by omega)).trans (gC.get i hi)⟩
    exact k _ _ _ _ _ _ _ _ gD (by omega) hpd
   ·exact ⟨k' + 1, by simp; omega, (Sc (Sc (Sc (Sc (Sc (Sc (Sc Sn))))))), rfl, hkl⟩
  ·repeat' (first | refine Yu ?_ | refine Yp ?_ | refine z6 ?_ | refine z8 ?_ | refine z9 ?_ | refine za ?_ | refine zh ?_ | refine zi ?_ | refine zj ?_ | refine zk ?_ | refine zl ?_ | (refine Yq ?_ ?_ <;> intro hc <;> try first | contradiction | omega) | refine Yx ?_ | refine Yv ?_ | refine zx ?_ | refine Yz ?_ | refine Yy ?_)
   exact ⟨j + 1, by simp; omega, (Sc (Sc (Sc (Sc (Sc Sn))))), (hG.trans g5).trans g6, by omega, hlt⟩
 ·repeat' (first | refine Yu ?_ | refine Yp ?_ | refine z6 ?_ | refine z8 ?_ | refine z9 ?_ | refine za ?_ | refine zh ?_ | refine zi ?_ | refine zj ?_ | refine zk ?_ | refine zl ?_ | (refine Yq ?_ ?_ <;> intro hc <;> try first | contradiction | omega) | refine Yx ?_ | refine Yv ?_ | refine zx ?_ | refine Yz ?_ | refine Yy ?_)
  refine rg_go0 hnt rfl (wo_storeA rfl rfl (by omega) hsb D4 rfl rfl (by decide) (by omega) (splice_all rfl) fun h7 n7 b7 k7 => ?_)
  repeat' (first | refine Yu ?_ | refine Yp ?_ | refine z6 ?_ | refine z8 ?_ | refine z9 ?_ | refine za ?_ | refine zh ?_ | refine zi ?_ | refine zj ?_ | refine zk ?_ | refine zl ?_ | (refine Yq ?_ ?_ <;> intro hc <;> try first | contradiction | omega) | refine Yx ?_ | refine Yv ?_ | refine zx ?_ | refine Yz ?_ | refine Yy ?_)
  refine ⟨Or.inr rfl, _, resE_one rfl (resE_box rfl hsb b7 rfl (resE_one rfl rfl)), ?_⟩
  have gD : Grew h h7 := ⟨by omega, fun i hi => (k7 i (by omega)).trans (gB.get i hi)⟩
  exact k _ _ _ _ _ [] _ _ gD (by omega) Sl.nils
end Go.Proofs.YtmdceifbbmnfgaaGreatDoor.Ev
