/- CoverStates, part 28 -/
import Derived.Test.YtgaihilgffficaaGreatDoorCvJ
set_option linter.all false
set_option maxHeartbeats 4000000
namespace Go.Proofs.YtgaihilgffficaaGreatDoor.Ev
open Go
open Classical
def allM (cl : List aU) : List (List Nat × cz) := cl.flatMap fun c => c.methods.map fun m => (c.name, m)
theorem Hb {cl : List aU} {j : Nat} (hj : j < cl.length) : cl = cl.take j ++ el cl j :: cl.drop (j + 1) := by
 have e : el cl j = cl[j] := by simp [el, hj]
 rw [e, ← List.drop_eq_getElem_cons hj, List.take_append_drop]
theorem tT (a b : List aU) : allM (a ++ b) = allM a ++ allM b := by simp [allM]
theorem kg {cl : List aU} {j : Nat} (hj : j < cl.length) : (allM (cl.take (j + 1))).length = (allM (cl.take j)).length + (el cl j).methods.length := by
 have e : el cl j = cl[j] := by simp [el, hj]
 rw [List.take_succ_eq_append_getElem hj, tT, ← e]
 simp [allM]
theorem DW {cl : List aU} {j n : Nat} (hj : j < cl.length) (h1 : (allM (cl.take j)).length ≤ n) (h2 : n - (allM (cl.take j)).length < (el cl j).methods.length) : el (allM cl) n = ((el cl j).name, el (el cl j).methods (n - (allM (cl.take j)).length)) := by
 have e : allM cl = allM (cl.take j) ++ ((el cl j).methods.map (fun m => ((el cl j).name, m)) ++ allM (cl.drop (j + 1))) := by
  conv => lhs; rw [Hb hj]
  rw [tT]
  rfl
 rw [e, iw, if_neg (by omega), iw, if_pos (by simpa using h2), cQ h2]
theorem tU {cl : List aU} {n : Nat} {K : PV → Prop} (h : n < (allM cl).length) (hm : (n : Int) ≤ 9223372036854775807) (k : K (.bO [.str (el (allM cl) n).1, .agg (cL (el (allM cl) n).2), .bool true])) : PF Tryz.prog X0 Mx 119 [.agg (bh cl), .int .i64 (n : Nat)] K := by
 refine Pf tV fun hnt => ?_
 repeat' (first | refine Qa ?_ | (refine Ba ?_ ?_ <;> try exact Za) | intro hc)
 refine aJ (fun j : Nat => [(1, .int .i64 ((n - (allM (cl.take j)).length : Nat) : Int)), (2, .ptr 2 _ 0), (5, .ptr 5 _ 0), (7, .int .i64 j)]) (fun _ => [(2, some _, .cells (bh cl)), (5, some _, .cells [.str [], .bool false, .aO, .str []])]) (fun j => j ≤ cl.length ∧ (allM (cl.take j)).length ≤ n) (fun j => cl.length - j) 0 ⟨Nat.zero_le _, Nat.zero_le _⟩ .su .su ?_
 rintro j ⟨hj, hb⟩
 repeat' (first | refine Qa ?_ | (refine Ba ?_ ?_ <;> try exact Za) | intro hc)
 ·rw [DW (by omega) hb (by omega)] at k
  exact ⟨Or.inr rfl, ⟨trivial, ⟨rfl, ⟨trivial, trivial⟩⟩⟩, _, _, rfl, (.refl _), k⟩
 ·have hs := kg (cl := cl) (j := j) om
  rw [show ((n - (allM (cl.take j)).length : Nat) : Int) - ((el cl j).methods.length : Nat) = ((n - (allM (cl.take (j + 1))).length : Nat) : Int) by omega]
  exact ⟨j + 1, by dsimp only; omega, ⟨om, om⟩, .su, .su⟩
 ·have hjl : j = cl.length := by omega
  rw [hjl, List.take_length] at hb
  omega
noncomputable def vY (cl : List aU) (f : dN) (c : List Nat) (s : cz) : Int := if ¬ nJ f c s then 20 else if 256 < f.vars.length ∨ 1024 < f.code.length then 3 else if ¬ bB (kd cl f) f.vars.length = 0 then bB (kd cl f) f.vars.length else if f.code.length = 0 then 1 else bB (o0 cl f) f.code.length
theorem sD {cl : List aU} {f : dN} {c : List Nat} {s : cz} {K : PV → Prop} (ct : cl.length ≤ 64) (h6 : s.params.length ≤ 6) (ha : ∀ i, i < f.code.length → (el f.code i).args.length ≤ fZ) (k : ∀ a, K (.bO [.int .i64 a, .int .i64 (vY cl f c s)])) : PF Tryz.prog X0 Mx 120 [.agg (bh cl), .agg (lA f), .str c, .agg (cL s)] K := by
 refine Pf sE fun hnt => ?_
 repeat' (first | refine Qa ?_ | (refine Ba ?_ ?_ <;> try exact Za) | (refine aq (ao (Co h6 (fun hc => ?_) fun hc => ?_))) | refine aq (ao (Ad ?_)) | intro hc)
 case refine_1.refine_2.refine_2.refine_1.refine_2 =>
  refine aJ (fun j : Nat => [(4, .ptr 4 _ 0), (5, .ptr 5 _ 0), (11, .int .i64 j)]) (fun _ => [(4, some _, .cells (bh cl)), (5, some _, .cells (lA f))]) (fun j => j ≤ f.code.length ∧ ∀ i, i < j → o0 cl f i = 0) (fun j => f.code.length - j) 0 ⟨Nat.zero_le _, fh⟩ .su .su ?_
  rintro j ⟨hj, hb⟩
  have haj := ha j
  repeat' (first | refine Qa ?_ | (refine Ba ?_ ?_ <;> try exact Za) | refine aq (ao (Ab ct am ?_ ?_ ?_)) | (exact haj om) | omega | intro hc)
  ·refine ⟨j + 1, by dsimp only; omega, ⟨om, fun i hi => ?_⟩, .su, .su⟩
   by_cases q : i = j
   ·subst q; assumption
   ·exact hb i om
  ·specialize k (j : Nat)
   have e := bc (n := f.code.length) om hb rfl am
   unfold vY at k; replace k := Ik k; rw [e] at k; exact E1 k
  ·specialize k 0
   unfold vY at k; replace k := Ik k; rw [bY fun x hx => hb x (by omega)] at k; exact E1 k
 all_goals (specialize k (-1); unfold vY at k; replace k := Ik k; exact E1 k)
theorem bF {c : Prop} [Decidable c] {a b : Int} (ha : a ≠ 0) (h : (if c then a else b) = 0) : ¬ c ∧ b = 0 := by
 by_cases q : c
 ·rw [if_pos q] at h; exact absurd h ha
 ·rw [if_neg q] at h; exact ⟨q, h⟩
theorem tD {a b : Int} {_ : Decidable (a ≠ 0)} (h : (if a ≠ 0 then a else b) = 0) : a = 0 ∧ b = 0 := by
 by_cases q : a = 0
 ·rw [if_neg (not_not.2 q)] at h; exact ⟨q, h⟩
 ·rw [if_pos q] at h; exact absurd h q
theorem fW {cl : List aU} (h : fV cl = 0) : cl.length ≤ 64 ∧ ∀ i, i < cl.length → lz cl i = 0 := by
 unfold fV at h
 obtain ⟨h1, h2⟩ := bF dc h
 exact ⟨om, dY h2⟩
theorem iu {cl : List aU} {i : Nat} (h : lz cl i = 0) : fy (el cl i).name ∧ bl (bK cl) (el cl i).name = i ∧ (b7 cl (el cl i).name).2 = false ∧ (el cl i).methods.length ≤ 16 ∧ ∀ j, j < (el cl i).methods.length → fR cl i j = 0 := by
 unfold lz at h
 obtain ⟨h1, h⟩ := bF dc h
 obtain ⟨h2, h⟩ := bF dc h
 obtain ⟨h3, h⟩ := bF dc h
 obtain ⟨h4, h⟩ := bF dc h
 obtain ⟨h5, h⟩ := bF dc h
 obtain ⟨h6, h⟩ := tD h
 exact ⟨not_not.1 h1, not_not.1 h2, by simpa using h4, om, dY h⟩
theorem Cq {cl : List aU} {i j : Nat} (h : fR cl i j = 0) : (el (el cl i).methods j).params.length ≤ 6 := by
 unfold fR at h
 obtain ⟨h1, h⟩ := bF dc h
 obtain ⟨h2, h⟩ := bF dc h
 obtain ⟨h3, h⟩ := bF dc h
 omega
theorem tl {cl : List aU} (h : ∀ i, i < cl.length → (el cl i).methods.length ≤ 16) : ∀ j, j ≤ cl.length → (allM (cl.take j)).length ≤ 16 * j
 | 0, _ => Nat.zero_le _
 | j + 1, hj => by
  have h1 := tl h j om
  have h2 := kg (cl := cl) (j := j) om
  have h3 := h j om
  omega
def Pv : List Nat := [77, 97, 105, 110]
def Pw : List Nat := [109, 97, 105, 110]
def DR (f : dN) : Prop := f.cls = Pv ∧ f.name = Pw ∧ f.static = true ∧ f.params = 0 ∧ f.result = []
noncomputable def jC (u : aK) : Int := if ¬ fV u.cl = 0 then fV u.cl else if 256 < u.fns.length then 3 else if (allM u.cl).length ≠ u.fns.length then 20 else if u.main < 0 ∨ (allM u.cl).length ≤ u.main then 14 else if DR (el u.fns u.main.toNat) then 0 else 14
theorem Af {u : aK} {K : PV → Prop} (k : K (.int .i64 (jC u))) : PF Tryz.prog X0 Mx 118 [.agg (bQ u)] K := by
 refine Pf Ag fun hnt => ?_
 repeat' (first | refine Qc ?_ | (refine Ba ?_ ?_ <;> try exact Za) | refine af ?_ | refine aa ?_ | refine ai ?_ | refine aj ?_ | refine ae ?_ | (refine aq (ao (z6 (fun i => ?_)))) | refine bG (us := bh u.cl) ?_ rfl rfl ⟨by show 1 ≤ 3; decide, rfl⟩ | refine pb ?_ | intro hc)
 case refine_1.refine_1 => unfold jC at k; replace k := Ik k; exact E1 k
 case refine_2 => unfold jC at k; replace k := Ik k; exact E1 k
 have hk := fW (by assumption : fV u.cl = 0)
 have hml := tl (cl := u.cl) fun i hi => (iu (hk.2 i hi)).2.2.2.1
 refine aJ (fun j : Nat => [(1, .ptr 1 _ 0), (5, .int .i64 ((allM (u.cl.take j)).length : Nat)), (6, .int .i64 j)]) (fun _ => [(1, some _, .cells (bQ u))]) (fun j => j ≤ u.cl.length) (fun j => u.cl.length - j) 0 (Nat.zero_le _) .su .su ?_
 intro j hj
 have hmj := hml j hj
 by_cases hlt : j < u.cl.length
 ·have hs := kg hlt
  have hml1 := (iu (hk.2 j hlt)).2.2.2.1
  repeat' (first | refine Qc ?_ | (refine Ba ?_ ?_ <;> try exact Za) | refine af ?_ | refine aa ?_ | refine ai ?_ | refine aj ?_ | refine ae ?_ | refine pb ?_ | intro hc)
  rw [show (((allM (u.cl.take j)).length : Nat) : Int) + ((el u.cl j).methods.length : Nat) = ((allM (u.cl.take (j + 1))).length : Nat) by omega]
  exact ⟨j + 1, by dsimp only; omega, om, .su, .su⟩
 ·have hjl : j = u.cl.length := by omega
  have ht : (allM (u.cl.take j)).length = (allM u.cl).length := by rw [hjl, List.take_length]
  rw [ht] at hmj ⊢
  repeat' (first | refine Qc ?_ | (refine Ba ?_ ?_ <;> try exact Za) | refine af ?_ | refine aa ?_ | refine ai ?_ | refine aj ?_ | refine ae ?_ | refine ay ?_ | refine pb ?_ | intro hc)
  all_goals unfold jC at k
  all_goals replace k := Ik k
  all_goals first
   | exact E1 k
   | (rw [if_pos ⟨by assumption, by assumption, by assumption, by assumption, by assumption⟩] at k; exact E1 k)
   | (rw [if_neg (fun q => by first | exact absurd q.1 (by assumption) | exact absurd q.2.1 (by assumption) | exact absurd (q.2.2.1.symm.trans (by assumption)) (by decide) | exact absurd q.2.2.2.1 (by assumption) | exact absurd q.2.2.2.2 (by assumption))] at k; exact E1 k)
def eP (l : List bJ) : Nat := (l.filter fun x => decide (x.op = 6)).length
def bH (l : List dN) : Nat := (l.map fun f => eP f.code).sum
theorem j8 {l : List bJ} {j : Nat} (hj : j < l.length) : eP (l.take (j + 1)) = eP (l.take j) + (if (el l j).op = 6 then 1 else 0) := by
 have e : el l j = l[j] := by simp [el, hj]
 rw [List.take_succ_eq_append_getElem hj, eP, List.filter_append, ← e, List.length_append, eP]
 by_cases q : (el l j).op = 6 <;> simp [q]
theorem yg {l : List bJ} {j : Nat} : eP (l.take j) ≤ l.length := by
 unfold eP
 have h1 := List.length_filter_le (fun x : bJ => decide (x.op = 6)) (l.take j)
 rw [List.length_take] at h1
 omega
theorem iR {l : List dN} {j : Nat} (hj : j < l.length) : bH (l.take (j + 1)) = bH (l.take j) + eP (el l j).code := by
 have e : el l j = l[j] := by simp [el, hj]
 rw [List.take_succ_eq_append_getElem hj, bH, List.map_append, List.sum_append, ← e, bH]
 simp
noncomputable def fE (u : aK) (i : Nat) : Int := vY u.cl (el u.fns i) (el (allM u.cl) i).1 (el (allM u.cl) i).2
noncomputable def xM (u : aK) : Int := if ¬ jC u = 0 then jC u else if ¬ bB (fE u) u.fns.length = 0 then bB (fE u) u.fns.length else if 1024 < bH u.fns then 3 else 0
theorem tE {u : aK} (h : jC u = 0) : fV u.cl = 0 ∧ u.fns.length ≤ 256 ∧ (allM u.cl).length = u.fns.length ∧ 0 ≤ u.main ∧ u.main < u.fns.length ∧ DR (el u.fns u.main.toNat) := by
 unfold jC at h
 obtain ⟨h1, h⟩ := tD h
 obtain ⟨h2, h⟩ := bF dc h
 obtain ⟨h3, h⟩ := bF dc h
 obtain ⟨h4, h⟩ := bF dc h
 refine ⟨h1, om, not_not.1 h3, om, om, ?_⟩
 by_cases q : DR (el u.fns u.main.toNat)
 ·exact q
 ·rw [if_neg q] at h; exact absurd h dc
theorem GP {cl : List aU} {f : dN} {c : List Nat} {s : cz} (h : vY cl f c s = 0) : nJ f c s ∧ f.vars.length ≤ 256 ∧ f.code.length ≤ 1024 ∧ (∀ i, i < f.vars.length → kd cl f i = 0) ∧ f.code.length ≠ 0 ∧ ∀ i, i < f.code.length → o0 cl f i = 0 := by
 unfold vY at h
 obtain ⟨h1, h⟩ := bF dc h
 obtain ⟨h2, h⟩ := bF dc h
 obtain ⟨h3, h⟩ := tD h
 obtain ⟨h4, h⟩ := bF dc h
 exact ⟨not_not.1 h1, om, om, dY h3, h4, dY h⟩
theorem MY {cl : List aU} (h : fV cl = 0) {i : Nat} (hi : i < (allM cl).length) : (el (allM cl) i).2.params.length ≤ 6 := by
 have hm := b8 hi
 unfold allM at hm
 obtain ⟨c, hc, hm⟩ := List.mem_flatMap.1 hm
 obtain ⟨m, hm, e⟩ := List.mem_map.1 hm
 obtain ⟨a, ha, ea⟩ := dn hc
 subst ea
 obtain ⟨b, hb, eb⟩ := dn hm
 subst eb
 have := Cq ((iu ((fW h).2 a ha)).2.2.2.2 b hb)
 rw [show (el (allM cl) i).2 = el (el cl a).methods b from by unfold allM; rw [← e]]
 exact this
theorem Ah {u : aK} {K : PV → Prop} (ha : ∀ i, i < u.fns.length → ∀ j, j < (el u.fns i).code.length → (el (el u.fns i).code j).args.length ≤ fZ) (k : ∀ a b, K (.bO [.int .i64 a, .int .i64 b, .int .i64 (xM u)])) : PF Tryz.prog X0 Mx 62 [.agg (bQ u)] K := by
 refine Pf Ai fun hnt => ?_
 repeat' (first | refine Qb ?_ | (refine ai ?_; intro hl) | (refine aj ?_; intro b) | (refine Ba ?_ ?_ <;> intro hc <;> try exact Zb) | refine aq (ao (Af ?_)) | refine pb ?_)
 rotate_left
 ·specialize k (-1) (-1); unfold xM at k; replace k := Ik k; exact E1 k
 have hw := tE (by assumption : jC u = 0)
 have ct := (fW hw.1).1
 refine aJ (fun j : Nat => [(1, .ptr 1 _ 0), (6, .int .i64 (bH (u.fns.take j) : Nat)), (7, .int .i64 j)]) (fun _ => [(1, some _, .cells (bQ u))]) (fun j => j ≤ u.fns.length ∧ (∀ i, i < j → fE u i = 0) ∧ bH (u.fns.take j) ≤ 1024 * j) (fun j => u.fns.length - j) 0 ⟨Nat.zero_le _, fh, Nat.zero_le _⟩ .su .su ?_
 rintro j ⟨hj, hb, hsn⟩
 have hw3 := hw.2.2.1
 have hw2 := hw.2.1
 repeat' (first | refine Qb ?_ | (refine ai ?_; intro hl) | (refine aj ?_; intro b) | (refine Ba ?_ ?_ <;> intro hc <;> try exact Zb) | refine aG ?_ | refine pd ?_ | (refine aq (ao (tU ?_ ?_ ?_))) | refine bG (us := bh u.cl) ?_ rfl rfl ⟨by show 1 ≤ 3; decide, rfl⟩ | (refine dW (aM (sD ct ?_ ?_ (fun at_ => ?_)))) | (exact MY hw.1 om) | (exact ha j om) | refine pb ?_)
 ·omega
 ·omega
 ·have hf0 : fE u j = 0 := by assumption
  have hfo := GP hf0
  have hfc := hfo.2.2.1
  refine aJ (fun m : Nat => [(1, .ptr 1 _ 0), (6, .int .i64 ((bH (u.fns.take j) + eP ((el u.fns j).code.take m) : Nat) : Int)), (7, .int .i64 j), (13, .int .i64 m)]) (fun _ => [(1, some _, .cells (bQ u))]) (fun m => m ≤ (el u.fns j).code.length) (fun m => (el u.fns j).code.length - m) 0 (Nat.zero_le _) .su .su ?_
  intro m hm
  have hcn := yg (l := (el u.fns j).code) (j := m)
  by_cases hlt : m < (el u.fns j).code.length
  ·have hcs := j8 hlt
   repeat' (first | refine Qb ?_ | (refine ai ?_; intro hl) | (refine aj ?_; intro b) | (refine Ba ?_ ?_ <;> intro hc <;> try exact Zb) | refine pb ?_)
   ·rw [if_pos (by assumption)] at hcs
    rw [show ((bH (u.fns.take j) + eP ((el u.fns j).code.take m) : Nat) : Int) + 1 = ((bH (u.fns.take j) + eP ((el u.fns j).code.take (m + 1)) : Nat) : Int) by omega]
    exact ⟨m + 1, by dsimp only; omega, om, .su, .su⟩
   ·rw [if_neg (by assumption)] at hcs
    rw [show ((bH (u.fns.take j) + eP ((el u.fns j).code.take m) : Nat) : Int) = ((bH (u.fns.take j) + eP ((el u.fns j).code.take (m + 1)) : Nat) : Int) by omega]
    exact ⟨m + 1, by dsimp only; omega, om, .su, .su⟩
  ·have hml : m = (el u.fns j).code.length := by omega
   have hs := iR (l := u.fns) (j := j) om
   rw [hml, List.take_length] at hcn ⊢
   repeat' (first | refine Qb ?_ | (refine ai ?_; intro hl) | (refine aj ?_; intro b) | (refine Ba ?_ ?_ <;> intro hc <;> try exact Zb) | refine pb ?_)
   rw [show ((bH (u.fns.take j) + eP (el u.fns j).code : Nat) : Int) = ((bH (u.fns.take (j + 1)) : Nat) : Int) by omega]
   refine ⟨j + 1, by dsimp only; omega, ⟨om, fun i hi => ?_, om⟩, .su, .su⟩
   by_cases q : i = j
   ·subst q; exact hf0
   ·exact hb i om
 ·have e := bc (f := fE u) (n := u.fns.length) om hb rfl am
  specialize k (j : Nat) at_; unfold xM at k; replace k := Ik k; rw [e] at k; replace k := Ik k; exact E1 k
 all_goals
  have hjl : j = u.fns.length := by omega
  have hs0 : bH (u.fns.take j) = bH u.fns := by rw [hjl, List.take_length]
  have hb0 : bB (fE u) u.fns.length = 0 := bY fun x hx => hb x om
 ·specialize k (-1) (-1); unfold xM at k; replace k := Ik k; exact E1 k
 ·specialize k 0 0; unfold xM at k; replace k := Ik k; exact E1 k
theorem rP {u : aK} {K : PV → Prop} (ha : ∀ i, i < u.fns.length → ∀ j, j < (el u.fns i).code.length → (el (el u.fns i).code j).args.length ≤ fZ) (k : ∀ a b, K (.bO [.int .i64 a, .int .i64 b, .int .i64 (xM u)])) : PF Tryz.prog X0 Mx 26 [.agg (bQ u)] K := by
 refine Pf Aj fun hnt => ?_
 repeat' (first | refine Qa ?_ | (refine aq (ao (Ah ha fun a b => ?_))) | intro hc)
 specialize k a b
 exact E1 k
noncomputable def lH (l : List (List Nat)) (s : List Nat) : Option PV := if 0 ≤ bl l s then some (.int .i64 (bl l s)) else none
noncomputable def jz (cl : List aU) : List PV := [pL 4 ia cl, .Mh (lH (bK cl))]
theorem ug {l : List (List Nat)} {j : Nat} (hj : j < l.length) (s : List Nat) : bl (l.take (j + 1)) s = if 0 ≤ bl (l.take j) s then bl (l.take j) s else if el l j = s then (j : Int) else -1 := by
 have e : el l j = l[j] := by simp [el, hj]
 rw [List.take_succ_eq_append_getElem hj, ← e]
 have hl : (l.take j).length = j := by rw [List.length_take]; omega
 rcases dz (l.take j) s with ⟨h1, h2⟩ | ⟨i, h1, h2, h3, h4⟩
 ·rw [h1, if_neg (by decide)]
  by_cases q : el l j = s
  ·rw [if_pos q]
   refine lT (by simp [hl]) ?_ fun i hi => ?_
   ·rw [iw, if_neg (by omega), hl, Nat.sub_self]; exact q
   ·rw [iw, if_pos (by omega)]; exact h2 i om
  ·rw [if_neg q]
   refine o5 fun i hi => ?_
   rw [List.length_append, hl] at hi
   rw [iw]
   by_cases w : i < (l.take j).length
   ·rw [if_pos w]; exact h2 i w
   ·rw [if_neg w, show i - (l.take j).length = 0 by simp at hi; omega]; exact q
 ·rw [if_pos (by omega), h1]
  refine lT (by simp; omega) ?_ fun k hk => ?_
  ·rw [iw, if_pos h2]; exact h3
  ·rw [iw, if_pos (by omega)]; exact h4 k hk
theorem E6 {l : List (List Nat)} {j : Nat} (hj : j < l.length) {v : PV} (h : lH (l.take j) (el l j) = some v) : lH (l.take (j + 1)) = lH (l.take j) := by
 have h0 : 0 ≤ bl (l.take j) (el l j) := by
  by_cases q : 0 ≤ bl (l.take j) (el l j)
  ·exact q
  ·rw [lH, if_neg q] at h; cases h
 funext s
 unfold lH
 rw [ug hj]
 by_cases q : 0 ≤ bl (l.take j) s
 ·rw [if_pos q]
 ·rw [if_neg q]
  by_cases w : el l j = s
  ·rw [w] at h0; exact absurd h0 q
  ·rw [if_neg w, if_neg q]; rfl
theorem Hi {l : List (List Nat)} {j : Nat} (hj : j < l.length) (h : lH (l.take j) (el l j) = none) : lH (l.take (j + 1)) = fun k => if k = el l j then some (.int .i64 (j : Nat)) else lH (l.take j) k := by
 have h0 : ¬ 0 ≤ bl (l.take j) (el l j) := fun q => by rw [lH, if_pos q] at h; cases h
 funext s
 unfold lH
 rw [ug hj]
 by_cases w : s = el l j
 ·subst w
  rw [if_pos rfl, if_neg h0, if_pos rfl, if_pos (by omega)]
 ·rw [if_neg w]
  by_cases q : 0 ≤ bl (l.take j) s
  ·rw [if_pos q]
  ·rw [if_neg q, if_neg (Ne.symm w), if_neg q]; rfl
theorem ot {cl : List aU} {j : Nat} (h : j < cl.length) : el (bK cl) j = (el cl j).name := by
 unfold bK; rw [cQ h]
theorem E7 {l : List (List Nat)} {s : List Nat} {v : PV} (h : lH l s = some v) : 0 ≤ bl l s ∧ v = .int .i64 (bl l s) := by
 unfold lH at h
 by_cases q : 0 ≤ bl l s
 ·rw [if_pos q] at h; exact ⟨q, (Option.some.inj h).symm⟩
 ·rw [if_neg q] at h; cases h
theorem E8 {l : List (List Nat)} {s : List Nat} (h : lH l s = none) : bl l s = -1 := by
 unfold lH at h
 by_cases q : 0 ≤ bl l s
 ·rw [if_pos q] at h; cases h
 ·have := (ee (l := l) (s := s)).2; omega
theorem cJ {cl : List aU} {s : List Nat} {K : PV → Prop} (k : K (.int .i64 (bl (bK cl) s))) : PF Tryz.prog X0 Mx 174 [.agg (jz cl), .str s] K := by
 refine Pf pk fun hnt => ?_
 repeat' (first | refine Qa ?_ | (refine Hj (fun v hv => ?_) fun hv => ?_) | intro hc)
 ·obtain ⟨h0, e⟩ := E7 hv
  subst e
  repeat' (first | refine Qa ?_ | intro hc)
  exact E1 k
 ·rw [E8 hv] at k
  repeat' (first | refine Qa ?_ | intro hc)
  exact E1 k
theorem ga {cl : List aU} {K : PV → Prop} (k : K (.agg (jz cl))) : PF Tryz.prog X0 Mx 112 [.agg (bh cl)] K := by
 refine Pf uc fun hnt => ?_
 repeat' (first | refine Qa ?_ | (refine Ba ?_ ?_ <;> try exact Za) | (refine M3 ?_ (.h _ _ _ rfl); intro b) | intro hc)
 refine aJ (fun j : Nat => [(1, .ptr 1 _ 0), (2, .ptr 2 _ 0), (3, .ptr 3 _ 0), (16, pL 4 ia cl), (17, .int .i64 (cl.length : Nat)), (18, .int .i64 j)]) (fun j => [(1, some _, .cells (bh cl)), (2, some _, .cells [.aO, .eU]), (3, some _, .cells [pL 4 ia cl, .qD 13 _]), (13, some _, .jO (lH ((bK cl).take j)))]) (fun j => j ≤ cl.length) (fun j => cl.length - j) 0 (Nat.zero_le _) .su .su ?_
 intro j hj
 repeat' (first | refine Qa ?_ | (refine Ba ?_ ?_ <;> try exact Za) | (refine Hk (fun v hv => ?_) fun hv => ?_) | refine M4 ?_ | intro hc)
 ·rw [← ot (by omega)] at hv
  have e := E6 (by rw [bL]; omega) hv
  exact ⟨j + 1, by dsimp only; omega, om, .su, (.c (.c (.c (.cons rfl (by show wN _ (.jO (lH ((bK cl).take (j + 1)))); rw [e]; exact .refl _) .nil))))⟩
 ·rw [← ot (by omega)] at hv
  have e := Hi (by rw [bL]; omega) hv
  rw [ot (by omega)] at e
  exact ⟨j + 1, by dsimp only; omega, om, .su, (.c (.c (.c (.cons rfl (by show wN _ (.jO (lH ((bK cl).take (j + 1)))); rw [e]; exact .refl _) .nil))))⟩
 ·have e : (bK cl).take j = bK cl := List.take_of_length_le (by rw [bL]; omega)
  rw [e]
  exact ⟨Or.inr rfl, ⟨rfl, trivial⟩, _, _, rfl, .agg _ _ (.cons _ _ _ _ (.refl _) (.cons _ _ _ _ (.qD 13 _ _ rfl) .nil)), k⟩
def yw (cl : List aU) (i : Int) : Int := if (el cl i.toNat).cB = [] then -1 else bl (bK cl) (el cl i.toNat).cB
def idx (cl : List aU) (s : List Nat) : Int := bl (bK cl) s
noncomputable def px (l : List Int) (k : Int) : Option PV := if k ∈ l then some (.bool true) else none
theorem E9 {l : List Int} {a : Int} : (fun j => if j = a then some (PV.bool true) else px l j) = px (l ++ [a]) := by
 funext j
 unfold px
 by_cases h : j = a
 ·rw [if_pos h, if_pos (by simp [h])]
 ·rw [if_neg h]
  by_cases q : j ∈ l
  ·rw [if_pos q, if_pos (by simp [q])]
  ·rw [if_neg q, if_neg (by simp [q, h])]
theorem CF {l : List Int} {k : Int} {v : PV} (h : px l k = some v) : k ∈ l ∧ v = .bool true := by
 unfold px at h
 by_cases q : k ∈ l
 ·rw [if_pos q] at h; exact ⟨q, (Option.some.inj h).symm⟩
 ·rw [if_neg q] at h; cases h
theorem CG {l : List Int} {k : Int} (h : px l k = none) : ¬ k ∈ l := fun q => by rw [px, if_pos q] at h; cases h
structure SN where
 m : Nat
 out : List (List Nat)
 s : List Nat
 i : Int
 bp : Option Nat
theorem Hl {cl : List aU} {out : List (List Nat)} {s : List Nat} (ho : ∀ x ∈ out, x ∈ bK cl) (h0 : 0 ≤ idx cl s) : idx cl s ∈ out.map (idx cl) ↔ s ∈ out := by
 constructor
 ·intro h
  obtain ⟨x, hx, e⟩ := List.mem_map.1 h
  have h1 := (j7 (l := bK cl) (s := s) h0).2
  have h2 := (j7 (l := bK cl) (s := x) (aW.2 (ho x hx))).2
  have e' : bl (bK cl) x = bl (bK cl) s := e
  rw [e'] at h2
  rw [← h1, h2]; exact hx
 ·exact fun h => List.mem_map.2 ⟨s, h, rfl⟩
theorem ou {cl : List aU} {i : Int} {K : PV → Prop} (hi : 0 ≤ i ∧ i < cl.length) (k : K (.int .i64 (yw cl i))) : PF Tryz.prog X0 Mx 216 [.agg (jz cl), .int .i64 i] K := by
 refine Pf oh fun hnt => ?_
 repeat' (first | refine Qb ?_ | (refine aj ?_; intro b) | (refine Ba ?_ ?_ <;> intro hc <;> try exact Zb) | refine aG ?_ | refine pd ?_ | refine dW (aM (cJ ?_)))
 ·unfold yw at k; rw [if_pos (by assumption)] at k; exact E1 k
 ·unfold yw at k; rw [if_neg (by assumption)] at k; exact E1 k
theorem iV {cl : List aU} {s : List Nat} {K : PV → Prop} (ct : cl.length ≤ 64) (k : K (.bO [pL 1 pI ((b7 cl s).1.map (idx cl)), .bool (b7 cl s).2])) : PF Tryz.prog X0 Mx 173 [.agg (jz cl), .int .i64 (idx cl s)] K := by
 refine Pf oe fun hnt => ?_
 repeat' (first | refine Qa ?_ | (refine Ba ?_ ?_ <;> try exact Za) | (refine CH ?_ .m; intro b) | intro hc)
 refine aJ (ι := SN) (fun q => [(1, .int .i64 q.i), (2, .ptr 2 _ 0), (4, oL 21 q.bp 1 (q.out.map (idx cl))), (6, .qD 7 _)]) (fun q => [(2, some _, .cells (jz cl)), (21, q.bp, aL 1 pI (q.out.map (idx cl))), (7, some _, .ix (px (q.out.map (idx cl))))]) (fun q => b7 cl s = (if q.i < 0 then (q.out, false) else bA cl q.m q.out q.s) ∧ (0 ≤ q.i → q.i = idx cl q.s) ∧ (∀ x ∈ q.out, x ∈ bK cl) ∧ lx (bK cl) q.out < q.m ∧ q.out.length + lx (bK cl) q.out ≤ cl.length) (fun q => q.m) ⟨cl.length + 1, [], s, idx cl s, none⟩ ?_ (.c (.c (.cons rfl (.vO 21 1) (.c .nil)))) (.c (.vO (.c .nil))) ?_
 ·have BY := oY (ns := bK cl) (out := [])
  rw [bL] at BY
  refine ⟨?_, fun _ => rfl, fun x hx => (by cases hx), by dsimp only; omega, by simpa using BY⟩
  show bA cl (cl.length + 1) [] s = _
  by_cases q : idx cl s < 0
  ·rw [if_pos q, bA]; exact if_pos q
  ·rw [if_neg q]
 rintro ⟨m, out, s', i, bp⟩ ⟨hE, hi, ho, hm, hn⟩
 dsimp only at hE hi ho hm hn ⊢
 have hl := ee (l := bK cl) (s := s')
 rw [bL] at hl
 have hil : 0 ≤ i → 0 ≤ i ∧ i < cl.length := fun q => by have := hi q; unfold idx at this; omega
 repeat' (first | refine Qa ?_ | (refine Ba ?_ ?_ <;> try exact Za) | (refine Au (fun v hv => ?_) fun hv => ?_) | refine Hm ?_ | (refine bw ?_; intro b2) | (refine mI (f := pI) (l := out.map (idx cl)) (m := [i]) ?_ rfl rfl (.own _ _ _ _ _ rfl (Nat.le_refl _)) (.own _ _ _ _ _ rfl (Nat.le_refl _)) (fun a ha => by have : a = 0 := (by simpa using ha); subst this; rfl) (fun _ => rfl) (by rw [List.length_map]; show (_ + 1) * _ ≤ _; omega); intro oid2) | refine aq (ao (ou (hil am) ?_)) | intro hc)
 ·obtain ⟨hin, e⟩ := CF hv
  subst e
  repeat' (first | refine Qa ?_ | (refine Ba ?_ ?_ <;> try exact Za) | intro hc)
  obtain ⟨m, rfl⟩ : ∃ n, m = n + 1 := ⟨m - 1, om⟩
  rw [hi (by assumption)] at hin
  have h0 : 0 ≤ bl (bK cl) s' := by have := hi am; unfold idx at this; omega
  rw [if_neg (by omega), bA, if_neg (by omega), if_pos ((Hl ho h0).1 hin)] at hE
  rw [hE] at k
  exact ⟨Or.inr rfl, ⟨trivial, ⟨trivial, trivial⟩⟩, _, _, rfl, .bO _ _ (.cons _ _ _ _ fx (.cons _ _ _ _ (.refl _) .nil)), k⟩
 ·have hin := CG hv
  have e9 := hi am
  have h0 : 0 ≤ bl (bK cl) s' := by unfold idx at e9; omega
  rw [e9] at hin
  have hno : ¬ s' ∈ out := fun q => hin ((Hl ho h0).2 q)
  obtain ⟨m, rfl⟩ : ∃ n, m = n + 1 := ⟨m - 1, om⟩
  rw [if_neg (by omega), bA, if_neg (by omega), if_neg hno] at hE
  have hlt := kH (aW.1 h0) hno
  have e : (out ++ [s']).map (idx cl) = out.map (idx cl) ++ [i] := by rw [List.map_append, e9]; rfl
  have es : dm cl s' = (el cl i.toNat).cB := by rw [e9]; rfl
  refine ⟨⟨m, out ++ [s'], dm cl s', yw cl i, oid2⟩, Nat.lt_succ_self _, ⟨?_, fun q => ?_, fun x hx => ?_, by dsimp only; omega, by simp only [List.length_append, List.length_singleton]; omega⟩, (.c (.c (.cons rfl (by show Cv _ (oL 21 oid2 1 ((out ++ [s']).map (idx cl))); rw [e]; exact .refl _) (.c .nil)))), (.c (.cons rfl (by show wN _ (aL 1 pI ((out ++ [s']).map (idx cl))); rw [e]; exact .refl _) (.cons rfl (by show wN _ (.ix (px ((out ++ [s']).map (idx cl)))); rw [e, ← E9]; exact .refl _) .nil)))⟩
  ·rw [hE]
   show _ = if yw cl i < 0 then _ else _
   unfold yw
   rw [es]
   by_cases q : (el cl i.toNat).cB = []
   ·rw [if_pos q, if_pos q, if_pos (by decide)]
   ·rw [if_neg q, if_neg q]
    by_cases w : bl (bK cl) (el cl i.toNat).cB < 0
    ·rw [if_pos w]
     obtain ⟨m, rfl⟩ : ∃ n, m = n + 1 := ⟨m - 1, om⟩
     rw [bA, if_pos w]
    ·rw [if_neg w]
  ·show yw cl i = idx cl (dm cl s')
   have q : 0 ≤ yw cl i := q
   unfold yw at q ⊢
   rw [es]
   by_cases w : (el cl i.toNat).cB = []
   ·rw [if_pos w] at q; exact absurd q dc
   ·rw [if_neg w]; rfl
  ·rcases List.mem_append.1 hx with q | q
   ·exact ho x q
   ·rw [List.mem_singleton.1 q]; exact aW.1 h0
 ·rw [if_pos (by omega)] at hE
  rw [hE] at k
  exact ⟨Or.inr rfl, ⟨trivial, ⟨trivial, trivial⟩⟩, _, _, rfl, .bO _ _ (.cons _ _ _ _ fx (.cons _ _ _ _ (.refl _) .nil)), k⟩
theorem iW {cl : List aU} {s : List Nat} {K : PV → Prop} (ct : cl.length ≤ 64) (k : K (pL 1 pI ((aA cl s).map (idx cl)))) : PF Tryz.prog X0 Mx 113 [.agg (jz cl), .str s] K := by
 refine Pf n8 fun hnt => ?_
 repeat' (first | refine Qb ?_ | (refine aj ?_; intro b) | refine aG ?_ | refine pd ?_ | refine dW (aM (cJ ?_)) | refine dW (aM (iV ct ?_)))
 exact E1 k
noncomputable def db {α : Type} [Inhabited α] (p : α → Prop) (l : List α) : Int := bl (l.map fun x => if p x then [1] else []) [1]
theorem fK {α : Type} [Inhabited α] {p : α → Prop} {l : List α} {j : Nat} (hj : j < l.length) (he : p (el l j)) (hb : ∀ i, i < j → ¬ p (el l i)) : db p l = (j : Int) := by
 unfold db
 refine lT (by simpa using hj) (by rw [cQ hj, if_pos he]) fun i hi => ?_
 rw [cQ (by omega), if_neg (hb i hi)]
 intro q; cases q
theorem fL {α : Type} [Inhabited α] {p : α → Prop} {l : List α} (hb : ∀ i, i < l.length → ¬ p (el l i)) : db p l = -1 := by
 unfold db
 refine o5 fun i hi => ?_
 rw [List.length_map] at hi
 rw [cQ hi, if_neg (hb i hi)]
 intro q; cases q
theorem qS {x : ju} {s : List Nat} {K : PV → Prop} (kt : x.name = s → K (.bool true)) (kf : ¬ x.name = s → K (.bool false)) : PF Tryz.prog X0 Mx 306 [.agg (tI x), .fp [.str s] 0] K := by
 refine Pf qR fun hnt => ?_
 repeat' (first | refine Qa ?_ | (refine Ba ?_ ?_ <;> try exact Za) | intro hc)
 ·exact E1 (kt hc)
 ·exact E1 (kf hc)
theorem py {l : List ju} {s : List Nat} {K : PV → Prop} (k : K (.int .i64 (db (fun x : ju => x.name = s) l))) : PF Tryz.prog X0 Mx 305 [pL 2 tI l, .fn 306 [.fp [.str s] 0]] K := by
 refine Pf po fun hnt => ?_
 repeat' (first | refine Qa ?_ | (refine Ba ?_ ?_ <;> try exact Za) | intro hc)
 refine aJ (fun j : Nat => [(0, pL 2 tI l), (1, .fn 306 [.fp [.str s] 0]), (7, .int .i64 (l.length : Nat)), (8, .int .i64 j)]) (fun _ => []) (fun j => j ≤ l.length ∧ ∀ i, i < j → ¬ (el l i).name = s) (fun j => l.length - j) 0 ⟨Nat.zero_le _, fh⟩ .su (.nil) ?_
 rintro j ⟨hj, hb⟩
 repeat' (first | refine Qa ?_ | (refine Ba ?_ ?_ <;> try exact Za) | (refine aq (ao (qS (fun hc => ?_) fun hc => ?_))) | intro hc)
 ·rw [fK (p := fun x : ju => x.name = s) (j := j) (by omega) hc hb] at k
  exact E1 k
 ·refine ⟨j + 1, by dsimp only; omega, ⟨om, fun i hi => ?_⟩, .su, (.nil)⟩
  by_cases q : i = j
  ·subst q; assumption
  ·exact hb i om
 ·rw [fL (p := fun x : ju => x.name = s) fun i hi => hb i (by omega)] at k
  exact E1 k
theorem eo {c : aU} {s : List Nat} {K : PV → Prop} (k : K (.int .i64 (db (fun x : ju => x.name = s) c.fields))) : PF Tryz.prog X0 Mx 250 [.agg (ia c), .str s] K := by
 refine Pf uf fun hnt => ?_
 repeat' (first | refine Qa ?_ | (refine gS (py ⟨rfl, ?_⟩) rfl rfl rfl (.cons _ _ _ _ (.refl _) (.cons _ _ _ _ (.fn _ _ _ (.cons _ _ _ _ (.ptr _ _ _ _ _ rfl (.refl _)) .nil)) .nil))) | intro hc)
 exact E1 k
theorem pz {x : cz} {s : List Nat} {K : PV → Prop} (kt : x.name = s → K (.bool true)) (kf : ¬ x.name = s → K (.bool false)) : PF Tryz.prog X0 Mx 307 [.agg (cL x), .fp [.str s] 0] K := by
 refine Pf pq fun hnt => ?_
 repeat' (first | refine Qa ?_ | (refine Ba ?_ ?_ <;> try exact Za) | intro hc)
 ·exact E1 (kt hc)
 ·exact E1 (kf hc)
theorem sP {l : List cz} {s : List Nat} {K : PV → Prop} (k : K (.int .i64 (db (fun x : cz => x.name = s) l))) : PF Tryz.prog X0 Mx 214 [pL 4 cL l, .fn 307 [.fp [.str s] 0]] K := by
 refine Pf ll fun hnt => ?_
 repeat' (first | refine Qa ?_ | (refine Ba ?_ ?_ <;> try exact Za) | intro hc)
 refine aJ (fun j : Nat => [(0, pL 4 cL l), (1, .fn 307 [.fp [.str s] 0]), (7, .int .i64 (l.length : Nat)), (8, .int .i64 j)]) (fun _ => []) (fun j => j ≤ l.length ∧ ∀ i, i < j → ¬ (el l i).name = s) (fun j => l.length - j) 0 ⟨Nat.zero_le _, fh⟩ .su (.nil) ?_
 rintro j ⟨hj, hb⟩
 repeat' (first | refine Qa ?_ | (refine Ba ?_ ?_ <;> try exact Za) | (refine aq (ao (pz (fun hc => ?_) fun hc => ?_))) | intro hc)
 ·rw [fK (p := fun x : cz => x.name = s) (j := j) (by omega) hc hb] at k
  exact E1 k
 ·refine ⟨j + 1, by dsimp only; omega, ⟨om, fun i hi => ?_⟩, .su, (.nil)⟩
  by_cases q : i = j
  ·subst q; assumption
  ·exact hb i om
 ·rw [fL (p := fun x : cz => x.name = s) fun i hi => hb i (by omega)] at k
  exact E1 k
theorem fk {c : aU} {s : List Nat} {K : PV → Prop} (k : K (.int .i64 (db (fun x : cz => x.name = s) c.methods))) : PF Tryz.prog X0 Mx 251 [.agg (ia c), .str s] K := by
 refine Pf sO fun hnt => ?_
 repeat' (first | refine Qa ?_ | (refine gS (sP ⟨rfl, ?_⟩) rfl rfl rfl (.cons _ _ _ _ (.refl _) (.cons _ _ _ _ (.fn _ _ _ (.cons _ _ _ _ (.ptr _ _ _ _ _ rfl (.refl _)) .nil)) .nil))) | intro hc)
 exact E1 k
theorem Sz {b : Bool} (h : b = false) : ¬ b = true := by rw [h]; decide
theorem mJ {α : Type} [Inhabited α] {p : α → Prop} {l : List α} {k : Nat} (hk : k < l.length) (hp : p (el l k)) : db p l < (k : Int) ↔ ∃ i, i < k ∧ p (el l i) := by
 have hm : ∃ i, i < l.length ∧ p (el l i) := ⟨k, hk, hp⟩
 rcases dz (l.map fun x => if p x then [1] else []) [1] with ⟨_, h2⟩ | ⟨j, h1, h2, h3, h4⟩
 ·exact absurd (by rw [cQ hk, if_pos hp]) (h2 k (by simpa using hk))
 ·have hjl : j < l.length := by simpa using h2
  rw [cQ hjl] at h3
  have hpj : p (el l j) := by
   by_cases q : p (el l j)
   ·exact q
   ·rw [if_neg q] at h3; cases h3
  have e : db p l = (j : Int) := h1
  rw [e]
  constructor
  ·exact fun q => ⟨j, om, hpj⟩
  ·rintro ⟨i, hi, hpi⟩
   by_cases q : j < k
   ·omega
   ·exact absurd (by rw [cQ (by omega), if_pos hpi]) (h4 i om)
theorem wO {α : Type} [Inhabited α] {p : α → Prop} {l : List α} : 0 ≤ db p l ↔ ∃ x ∈ l, p x := by
 unfold db
 rw [aW, List.mem_map]
 constructor
 ·rintro ⟨x, hx, e⟩
  refine ⟨x, hx, ?_⟩
  by_cases q : p x
  ·exact q
  ·rw [if_neg q] at e; cases e
 ·rintro ⟨x, hx, q⟩
  exact ⟨x, hx, if_pos q⟩
theorem cP {cl : List aU} {s : List Nat} {K : PV → Prop} (kt : sq cl s → K (.bool true)) (kf : ¬ sq cl s → K (.bool false)) : PF Tryz.prog X0 Mx 249 [.agg (jz cl), .str s] K := by
 refine Pf nu fun hnt => ?_
 repeat' (first | refine Qa ?_ | (refine Ba ?_ ?_ <;> try exact Za) | refine aq (ao (cJ ?_)) | intro hc)
 ·exact E1 (kt (Or.inl hc))
 ·exact E1 (kt (Or.inr (aW.1 hc)))
 ·exact E1 (kf fun q => q.elim am fun q => hc (aW.2 q))
theorem lI {l m : List (List Nat)} {K : PV → Prop} (kt : l = m → K (.bool true)) (kf : ¬ l = m → K (.bool false)) : PF Tryz.prog X0 Mx 308 [pL 1 pS l, pL 1 pS m] K := by
 refine Pf lF fun hnt => ?_
 repeat' (first | refine Qa ?_ | (refine Ba ?_ ?_ <;> try exact Za) | intro hc)
 ·refine aJ (fun j : Nat => [(0, pL 1 pS l), (1, pL 1 pS m), (12, .int .i64 (l.length : Nat)), (13, .int .i64 j)]) (fun _ => []) (fun j => j ≤ l.length ∧ ∀ i, i < j → el l i = el m i) (fun j => l.length - j) 0 ⟨Nat.zero_le _, fh⟩ .su (.nil) ?_
  rintro j ⟨hj, hb⟩
  repeat' (first | refine Qa ?_ | (refine Ba ?_ ?_ <;> try exact Za) | intro hc)
  ·refine ⟨j + 1, by dsimp only; omega, ⟨om, fun i hi => ?_⟩, .su, (.nil)⟩
   by_cases q : i = j
   ·subst q; assumption
   ·exact hb i om
  ·exact E1 (kf fun q => (by assumption : ¬ el l j = el m j) (by rw [q]))
  ·exact E1 (kt (G7 om fun i hi => hb i om))
 ·exact E1 (kf fun q => by rw [q] at hc; exact hc rfl)
theorem qT {x y : cz} {K : PV → Prop} (kt : ¬ (y.static = true ∨ x.static = true ∨ ¬ j6 y x) → K (.bool true)) (kf : (y.static = true ∨ x.static = true ∨ ¬ j6 y x) → K (.bool false)) : PF Tryz.prog X0 Mx 252 [.agg (cL x), .agg (cL y)] K := by
 refine Pf qQ fun hnt => ?_
 repeat' (first | refine Qc ?_ | (refine Ba ?_ ?_ <;> try exact Za) | refine af ?_ | refine aj ?_ | (refine aq (ao (lI (fun hc => ?_) fun hc => ?_))) | intro hc)
 all_goals first
  | exact E1 (kf (by first | exact Or.inl am | exact Or.inr (Or.inl am) | exact Or.inr (Or.inr fun q => by first | exact absurd q.1.symm am | exact absurd q.2.symm am)))
  | exact E1 (kt (fun q => q.elim (Sz am) fun q => q.elim (Sz am) fun q => q ⟨Eq.symm am, Eq.symm am⟩))
end Go.Proofs.YtgaihilgffficaaGreatDoor.Ev
