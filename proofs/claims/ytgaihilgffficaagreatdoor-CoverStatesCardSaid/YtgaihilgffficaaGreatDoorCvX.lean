/- CoverStates, part 29 -/
import Derived.Test.YtgaihilgffficaaGreatDoorCvP
set_option linter.all false
set_option maxHeartbeats 4000000
namespace Go.Proofs.YtgaihilgffficaaGreatDoor.Ev
open Go
open Classical
theorem rS {cl : List aU} {a : List Nat} : ∀ (n : Nat) (out : List (List Nat)) (s : List Nat) (l : List (List Nat)), bA cl n (a :: out) s = (l, false) → ∃ l', l = a :: l' ∧ bA cl n out s = (l', false)
 | 0, out, s, l, h => by
  simp only [bA] at h ⊢
  cases h; exact ⟨out, rfl, rfl⟩
 | n + 1, out, s, l, h => by
  simp only [bA] at h ⊢
  by_cases h1 : bl (bK cl) s < 0
  ·rw [if_pos h1] at h ⊢; cases h; exact ⟨out, rfl, rfl⟩
  rw [if_neg h1] at h ⊢
  by_cases h2 : s ∈ a :: out
  ·rw [if_pos h2] at h; cases h
  rw [if_neg h2] at h
  rw [if_neg fun q => h2 (List.mem_cons_of_mem a q)]
  by_cases h3 : dm cl s = []
  ·rw [if_pos h3] at h ⊢; cases h; exact ⟨_, rfl, rfl⟩
  ·rw [if_neg h3] at h ⊢; exact rS n (out ++ [s]) (dm cl s) l h
theorem rT {cl : List aU} : ∀ (n : Nat) (out : List (List Nat)) (s : List Nat), lx (bK cl) out < n → bA cl n out s = bA cl (n + 1) out s
 | 0, out, s, h => absurd h om
 | n + 1, out, s, h => by
  rw [bA, bA]
  by_cases h1 : bl (bK cl) s < 0
  ·rw [if_pos h1, if_pos h1]
  rw [if_neg h1, if_neg h1]
  by_cases h2 : s ∈ out
  ·rw [if_pos h2, if_pos h2]
  rw [if_neg h2, if_neg h2]
  by_cases h3 : dm cl s = []
  ·rw [if_pos h3, if_pos h3]
  ·rw [if_neg h3, if_neg h3]
   have := kH (aW.1 (show 0 ≤ bl (bK cl) s by omega)) h2
   exact rT n _ _ om
theorem CI {cl : List aU} {c : List Nat} (hc : c ∈ bK cl) (hy : (b7 cl c).2 = false) : aA cl c = c :: (if dm cl c = [] then [] else aA cl (dm cl c)) := by
 have h0 := aW.2 hc
 have e : b7 cl c = if dm cl c = [] then ([c], false) else bA cl cl.length [c] (dm cl c) := by
  unfold b7
  rw [bA, if_neg (by omega), if_neg (by simp)]; rfl
 by_cases q : dm cl c = []
 ·rw [if_pos q] at e
  unfold aA; rw [e, if_pos q]
 ·rw [if_neg q] at e
  rw [if_neg q]
  have h1 := kH (out := []) hc (by simp)
  have h2 := oY (ns := bK cl) (out := [])
  rw [bL] at h2
  rw [rT _ _ _ (by simpa using Nat.lt_of_lt_of_le h1 h2)] at e
  have e2 : bA cl (cl.length + 1) (c :: []) (dm cl c) = ((b7 cl c).1, false) := by rw [← hy, e]
  obtain ⟨l', e3, e4⟩ := rS _ _ _ _ e2
  unfold aA
  rw [e3]
  unfold b7
  rw [e4]
theorem DX {α β : Type} {g : α → Option β} {l : List α} : (∃ y, l.findSome? g = some y) ↔ ∃ x ∈ l, ∃ y, g x = some y := by
 constructor
 ·rintro ⟨y, h⟩
  obtain ⟨x, hx, e⟩ := List.exists_of_findSome?_eq_some h
  exact ⟨x, hx, y, e⟩
 ·rintro ⟨x, hx, y, e⟩
  cases h : l.findSome? g with
  | some z => exact ⟨z, rfl⟩
  | none => rw [List.findSome?_eq_none_iff.1 h x hx] at e; cases e
theorem uh {x : aU} {nm : List Nat} : (∃ y, j5 x nm = some y) ↔ ∃ f ∈ x.fields, f.name = nm := by
 unfold j5
 rw [DX]
 constructor
 ·rintro ⟨f, hf, y, e⟩
  by_cases q : f.name = nm
  ·exact ⟨f, hf, q⟩
  ·rw [if_neg q] at e; cases e
 ·rintro ⟨f, hf, q⟩
  exact ⟨f, hf, f, if_pos q⟩
theorem Av {cl : List aU} {s nm : List Nat} : (∃ r, cK cl s nm = some r) ↔ ∃ d ∈ aA cl s, ∃ f ∈ (aY cl d).fields, f.name = nm := by
 unfold cK
 rw [DX]
 constructor
 ·rintro ⟨d, hd, y, e⟩
  refine ⟨d, hd, uh.1 ?_⟩
  cases h : j5 (aY cl d) nm with
  | some z => exact ⟨z, rfl⟩
  | none => rw [h] at e; cases e
 ·rintro ⟨d, hd, h⟩
  obtain ⟨z, e⟩ := uh.2 h
  exact ⟨d, hd, (d, z), by rw [e]; rfl⟩
def uppers (cl : List aU) (i : Nat) : List (List Nat) := if (el cl i).cB = [] then [] else aA cl (el cl i).cB
theorem ki {cl : List aU} {i : Nat} (hi : i < cl.length) (hf : bl (bK cl) (el cl i).name = i) (hy : (b7 cl (el cl i).name).2 = false) : aA cl (el cl i).name = (el cl i).name :: uppers cl i := by
 have hm : (el cl i).name ∈ bK cl := aW.1 om
 have e : dm cl (el cl i).name = (el cl i).cB := by unfold dm; rw [hf]; rfl
 rw [CI hm hy, e]; rfl
theorem ui {cl : List aU} {i : Nat} (hi : i < cl.length) (hf : bl (bK cl) (el cl i).name = i) (hy : (b7 cl (el cl i).name).2 = false) : ∃ L : List Int, (aA cl (el cl i).name).map (idx cl) = L ∧ L.length = (uppers cl i).length + 1 ∧ el L 0 = i ∧ ∀ k, k < (uppers cl i).length → el L (1 + k) = idx cl (el (uppers cl i) k) ∧ 0 ≤ idx cl (el (uppers cl i) k) ∧ idx cl (el (uppers cl i) k) < cl.length := by
 refine ⟨_, rfl, by rw [ki hi hf hy]; simp, ?_, fun k hk => ⟨?_, ?_⟩⟩
 ·rw [ki hi hf hy]; exact hf
 ·rw [ki hi hf hy, List.map_cons, show 1 + k = k + 1 by omega]
  have : ∀ (a : Int) (l : List Int), el (a :: l) (k + 1) = el l k := fun a l => rfl
  rw [this, cQ hk]
 ·have hm : el (uppers cl i) k ∈ aA cl (el cl i).name := by rw [ki hi hf hy]; exact List.mem_cons_of_mem _ (b8 hk)
  have h1 := aW.2 (cq hm)
  have h2 := (ee (l := bK cl) (s := el (uppers cl i) k)).1
  rw [bL] at h2
  exact ⟨h1, h2⟩
theorem pB {cl : List aU} {i : Nat} {nm : List Nat} : (∃ d ∈ uppers cl i, ∃ f ∈ (aY cl d).fields, f.name = nm) ↔ (∃ r, cK cl (el cl i).cB nm = some r) ∧ (el cl i).cB ≠ [] := by
 unfold uppers
 by_cases q : (el cl i).cB = []
 ·rw [if_pos q]
  exact ⟨fun ⟨d, hd, _⟩ => (by cases hd), fun h => absurd q h.2⟩
 ·rw [if_neg q, Av]
  exact ⟨fun h => ⟨h, q⟩, fun h => h.1⟩
theorem ov {cl : List aU} {i j : Nat} {K : PV → Prop} (ct : cl.length ≤ 64) (hi : i < cl.length) (hf : bl (bK cl) (el cl i).name = i) (hy : (b7 cl (el cl i).name).2 = false) (hj : j < (el cl i).fields.length) (hj2 : (j : Int) ≤ 9223372036854775807) (k : K (.int .i64 (gX cl i j))) : PF Tryz.prog X0 Mx 207 [.agg (jz cl), pL 1 pI ((aA cl (el cl i).name).map (idx cl)), .int .i64 (j : Nat)] K := by
 refine Pf og fun hnt => ?_
 obtain ⟨L, eL, hLl, hL0, hLk⟩ := ui hi hf hy
 rw [eL]
 have hL3 : el L (Int.toNat 0) = i := hL0
 have hL1 : 0 ≤ el L (Int.toNat 0) ∧ el L (Int.toNat 0) < cl.length := by omega
 have hLi : el cl (el L (Int.toNat 0)).toNat = el cl i := by rw [hL3]; rfl
 repeat' (first | refine Qb ?_ | (refine ai ?_; intro hl) | (refine aj ?_; intro b) | (refine Ba ?_ ?_ <;> intro hc <;> try exact Zb) | refine aG ?_ | refine pd ?_ | (refine aq (ao (du (fun hc => ?_) fun hc => ?_))) | (refine aq (ao (cP (fun hc => ?_) fun hc => ?_))) | refine aq (ao (eo ?_)) | refine cH ?_ | refine pb ?_)
 simp only [hLi]
 repeat' (first | refine Qb ?_ | (refine ai ?_; intro hl) | (refine aj ?_; intro b) | (refine Ba ?_ ?_ <;> intro hc <;> try exact Zb) | refine aG ?_ | refine pd ?_ | (refine aq (ao (du (fun hc => ?_) fun hc => ?_))) | (refine aq (ao (cP (fun hc => ?_) fun hc => ?_))) | refine aq (ao (eo ?_)) | (refine iL ?_ rfl rfl rfl om om om) | refine cH ?_ | refine pb ?_)
 case refine_2 => unfold gX at k; replace k := Ik k; exact E1 k
 case refine_1.refine_2 => unfold gX at k; replace k := Ik k; exact E1 k
 case refine_1.refine_1.refine_1 =>
  have h7 := (mJ (p := fun x : ju => x.name = (el (el cl i).fields j).name) hj rfl).1 am
  unfold gX at k; replace k := Ik k; exact E1 k
 have h7 : ¬ ∃ a, a < j ∧ (el (el cl i).fields a).name = (el (el cl i).fields j).name := fun q => (by assumption : ¬ db _ _ < _) ((mJ (p := fun x : ju => x.name = (el (el cl i).fields j).name) hj rfl).2 q)
 have eu : ((L.length : Int) - 1).toNat = (uppers cl i).length := by omega
 rw [eu] at *
 refine aJ (fun m : Nat => [(3, .ptr 3 _ 0), (8, .ptr 8 _ 0), (39, .tr 1 (uppers cl i).length (fun a => pI (el L (a + Int.toNat 1)))), (40, .int .i64 ((uppers cl i).length : Nat)), (41, .int .i64 m)]) (fun _ => [(3, some _, .cells (jz cl)), (8, some _, .cells (tI (el (el cl i).fields j)))]) (fun m => m ≤ (uppers cl i).length ∧ ∀ a, a < m → ¬ ∃ f ∈ (aY cl (el (uppers cl i) a)).fields, f.name = (el (el cl i).fields j).name) (fun m => (uppers cl i).length - m) 0 ⟨Nat.zero_le _, fh⟩ .su .su ?_
 rintro m ⟨hm, hb⟩
 have hmk : m < (uppers cl i).length → el L (m + Int.toNat 1) = idx cl (el (uppers cl i) m) ∧ 0 ≤ el L (m + Int.toNat 1) ∧ el L (m + Int.toNat 1) < cl.length := fun q => by
  have e1 : m + Int.toNat 1 = 1 + m := by show m + 1 = 1 + m; omega
  have := hLk m q
  rw [e1]; exact ⟨this.1, om, om⟩
 repeat' (first | refine Qb ?_ | (refine ai ?_; intro hl) | (refine aj ?_; intro b) | (refine Ba ?_ ?_ <;> intro hc <;> try exact Zb) | refine aG ?_ | refine pd ?_ | refine dW (aM (eo ?_)) | refine cH ?_ | refine pb ?_)
 ·have hc' := wO.1 (by assumption : 0 ≤ db (fun x : ju => x.name = (el (el cl i).fields j).name) (el cl (el L (m + Int.toNat 1)).toNat).fields)
  rw [(hmk (by omega)).1] at hc'
  have h4 := pB.1 ⟨_, b8 (by omega : m < (uppers cl i).length), hc'⟩
  unfold gX at k; replace k := Ik k; exact E1 k
 ·have hc' : ¬ 0 ≤ db (fun x : ju => x.name = (el (el cl i).fields j).name) (el cl (el L (m + Int.toNat 1)).toNat).fields := by assumption
  rw [wO, (hmk (by omega)).1] at hc'
  refine ⟨m + 1, by dsimp only; omega, ⟨om, fun a ha => ?_⟩, .su, .su⟩
  by_cases q : a = m
  ·subst q; exact hc'
  ·exact hb a om
 ·have h4 : ¬ ((∃ r, cK cl (el cl i).cB (el (el cl i).fields j).name = some r) ∧ (el cl i).cB ≠ []) := fun q => by
    obtain ⟨d, hd, f⟩ := pB.2 q
    obtain ⟨a, ha, e⟩ := dn hd
    subst e
    exact hb a om f
  unfold gX at k; replace k := Ik k; exact E1 k
theorem M5 {cl : List aU} {i : Nat} {s : cz} (hi : i < cl.length) (hf : bl (bK cl) (el cl i).name = i) (hy : (b7 cl (el cl i).name).2 = false) : zG cl (el cl i).name s ↔ ∃ d ∈ uppers cl i, ∃ m ∈ (aY cl d).methods, m.name = s.name ∧ (m.static = true ∨ s.static = true ∨ ¬ j6 m s) := by
 unfold zG; rw [ki hi hf hy]; rfl
theorem nx {cl : List aU} {i j : Nat} {K : PV → Prop} (ct : cl.length ≤ 64) (hi : i < cl.length) (hf : bl (bK cl) (el cl i).name = i) (hy : (b7 cl (el cl i).name).2 = false) (hj : j < (el cl i).methods.length) (hj2 : (j : Int) ≤ 9223372036854775807) (k : K (.int .i64 (fR cl i j))) : PF Tryz.prog X0 Mx 208 [.agg (jz cl), pL 1 pI ((aA cl (el cl i).name).map (idx cl)), .int .i64 (j : Nat)] K := by
 refine Pf np fun hnt => ?_
 have hov := M5 (s := (el (el cl i).methods j)) hi hf hy
 obtain ⟨L, eL, hLl, hL0, hLk⟩ := ui hi hf hy
 rw [eL]
 have hL3 : el L (Int.toNat 0) = i := hL0
 have hL1 : 0 ≤ el L (Int.toNat 0) ∧ el L (Int.toNat 0) < cl.length := by omega
 have hLi : el cl (el L (Int.toNat 0)).toNat = el cl i := by rw [hL3]; rfl
 repeat' (first | refine Qa ?_ | (refine Ba ?_ ?_ <;> try exact Za) | (refine aq (ao (du (fun hc => ?_) fun hc => ?_))) | (refine aq (ao (cP (fun hc => ?_) fun hc => ?_))) | refine aq (ao (fk ?_)) | intro hc)
 simp only [hLi]
 repeat' (first | refine Qa ?_ | (refine Ba ?_ ?_ <;> try exact Za) | (refine aq (ao (du (fun hc => ?_) fun hc => ?_))) | (refine aq (ao (cP (fun hc => ?_) fun hc => ?_))) | refine aq (ao (fk ?_)) | intro hc)
 case refine_2 => unfold fR at k; replace k := Ik k; exact E1 k
 case refine_1.refine_1 =>
  have h7 := (mJ (p := fun x : cz => x.name = (el (el cl i).methods j).name) hj rfl).1 am
  unfold fR at k; replace k := Ik k; exact E1 k
 all_goals have h7 : ¬ ∃ a, a < j ∧ (el (el cl i).methods a).name = (el (el cl i).methods j).name := fun q => (by assumption : ¬ db (fun x : cz => x.name = (el (el cl i).methods j).name) (el cl i).methods < _) ((mJ (p := fun x : cz => x.name = (el (el cl i).methods j).name) hj rfl).2 q)
 case refine_1.refine_2.refine_1 => unfold fR at k; replace k := Ik k; exact E1 k
 refine aJ (fun m : Nat => [(1, pL 1 pI L), (3, .ptr 3 _ 0), (8, .ptr 8 _ 0), (42, pL 1 pS (el (el cl i).methods j).params), (43, .int .i64 ((el (el cl i).methods j).params.length : Nat)), (44, .int .i64 m)]) (fun _ => [(3, some _, .cells (jz cl)), (8, some _, .cells (cL (el (el cl i).methods j)))]) (fun m => m ≤ (el (el cl i).methods j).params.length ∧ ∀ a, a < m → sq cl (el (el (el cl i).methods j).params a)) (fun m => (el (el cl i).methods j).params.length - m) 0 ⟨Nat.zero_le _, fh⟩ .su .su ?_
 rintro m ⟨hm, hb⟩
 repeat' (first | refine Qa ?_ | (refine Ba ?_ ?_ <;> try exact Za) | (refine aq (ao (cP (fun hc => ?_) fun hc => ?_))) | (refine iL ?_ rfl rfl rfl om om om) | intro hc)
 ·refine ⟨m + 1, by dsimp only; omega, ⟨om, fun a ha => ?_⟩, .su, .su⟩
  by_cases q : a = m
  ·subst q; assumption
  ·exact hb a om
 ·have htE : mZ cl (el (el cl i).methods j) = 8 := if_neg fun q => (by assumption : ¬ sq cl (el (el (el cl i).methods j).params m)) (q.1 _ (b8 om))
  have h5 : ¬ mZ cl (el (el cl i).methods j) = 0 := by rw [htE]; decide
  unfold fR at k; replace k := Ik k; rw [htE] at k; exact E1 k
 rotate_right
 ·have htE : mZ cl (el (el cl i).methods j) = 8 := if_neg fun q => q.2.elim am am
  have h5 : ¬ mZ cl (el (el cl i).methods j) = 0 := by rw [htE]; decide
  unfold fR at k; replace k := Ik k; rw [htE] at k; exact E1 k
 all_goals
  have hp : ∀ p ∈ (el (el cl i).methods j).params, sq cl p := fun p hp => by obtain ⟨a, ha, e⟩ := dn hp; rw [← e]; exact hb a om
  have htE : mZ cl (el (el cl i).methods j) = 0 := if_pos ⟨hp, by first | exact Or.inl am | exact Or.inr am⟩
  have eu : ((L.length : Int) - 1).toNat = (uppers cl i).length := by omega
  rw [eu] at *
  clear hb hm
  refine aJ (fun m : Nat => [(3, .ptr 3 _ 0), (8, .ptr 8 _ 0), (64, .tr 1 (uppers cl i).length (fun a => pI (el L (a + Int.toNat 1)))), (65, .int .i64 ((uppers cl i).length : Nat)), (66, .int .i64 m)]) (fun _ => [(3, some _, .cells (jz cl)), (8, some _, .cells (cL (el (el cl i).methods j)))]) (fun m => m ≤ (uppers cl i).length ∧ ∀ a, a < m → ¬ ∃ x ∈ (aY cl (el (uppers cl i) a)).methods, (x.name = (el (el cl i).methods j).name ∧ (x.static = true ∨ (el (el cl i).methods j).static = true ∨ ¬ j6 x (el (el cl i).methods j)))) (fun m => (uppers cl i).length - m) 0 ⟨Nat.zero_le _, fh⟩ .su .su ?_
  rintro m ⟨hm, hb⟩
  have hmk : m < (uppers cl i).length → el L (m + Int.toNat 1) = idx cl (el (uppers cl i) m) ∧ 0 ≤ el L (m + Int.toNat 1) ∧ el L (m + Int.toNat 1) < cl.length := fun q => by
   have e1 : m + Int.toNat 1 = 1 + m := by show m + 1 = 1 + m; omega
   have := hLk m q
   rw [e1]; exact ⟨this.1, om, om⟩
  have hcl : m < (uppers cl i).length → (el cl (el L (m + Int.toNat 1)).toNat) = aY cl (el (uppers cl i) m) := fun q => by rw [(hmk q).1]; rfl
  repeat' (first | refine Qa ?_ | (refine Ba ?_ ?_ <;> try exact Za) | intro hc)
  ·refine aJ (fun p : Nat => [(3, .ptr 3 _ 0), (8, .ptr 8 _ 0), (64, .tr 1 (uppers cl i).length (fun a => pI (el L (a + Int.toNat 1)))), (65, .int .i64 ((uppers cl i).length : Nat)), (66, .int .i64 m), (75, pL 4 cL (el cl (el L (m + Int.toNat 1)).toNat).methods), (76, .int .i64 ((el cl (el L (m + Int.toNat 1)).toNat).methods.length : Nat)), (77, .int .i64 p)]) (fun _ => [(3, some _, .cells (jz cl)), (8, some _, .cells (cL (el (el cl i).methods j)))]) (fun p => p ≤ (el cl (el L (m + Int.toNat 1)).toNat).methods.length ∧ ∀ a, a < p → ¬ ((el (el cl (el L (m + Int.toNat 1)).toNat).methods a).name = (el (el cl i).methods j).name ∧ ((el (el cl (el L (m + Int.toNat 1)).toNat).methods a).static = true ∨ (el (el cl i).methods j).static = true ∨ ¬ j6 (el (el cl (el L (m + Int.toNat 1)).toNat).methods a) (el (el cl i).methods j)))) (fun p => (el cl (el L (m + Int.toNat 1)).toNat).methods.length - p) 0 ⟨Nat.zero_le _, fh⟩ .su .su ?_
   rintro p ⟨hp', hb2⟩
   repeat' (first | refine Qa ?_ | (refine Ba ?_ ?_ <;> try exact Za) | (refine aq (ao (qT (fun hc => ?_) fun hc => ?_))) | intro hc)
   ·refine ⟨p + 1, by dsimp only; omega, ⟨om, fun a ha => ?_⟩, .su, .su⟩
    by_cases q : a = p
    ·subst q; exact fun w => hc w.2
    ·exact hb2 a om
   ·have ho := hov.2 ⟨_, b8 (by omega : m < (uppers cl i).length), _, by rw [← hcl (by omega)]; exact b8 (by omega : p < _), am, hc⟩
    have h5 : ¬ ¬ mZ cl (el (el cl i).methods j) = 0 := not_not.2 htE
    unfold fR at k; replace k := Ik k; exact E1 k
   ·refine ⟨p + 1, by dsimp only; omega, ⟨om, fun a ha => ?_⟩, .su, .su⟩
    by_cases q : a = p
    ·subst q; exact fun w => hc w.1
    ·exact hb2 a om
   ·refine ⟨m + 1, by dsimp only; omega, ⟨om, fun a ha => ?_⟩, .su, .su⟩
    by_cases q : a = m
    ·subst q
     rintro ⟨x, hx, w⟩
     rw [← hcl (by omega)] at hx
     obtain ⟨y, hy', e⟩ := dn hx
     subst e
     exact hb2 y om w
    ·exact hb a om
  ·have ho : ¬ zG cl (el cl i).name (el (el cl i).methods j) := fun q => by
     obtain ⟨d, hd, x, hx, w⟩ := hov.1 q
     obtain ⟨a, ha, e⟩ := dn hd
     subst e
     exact hb a om ⟨x, hx, w⟩
   have h5 : ¬ ¬ mZ cl (el (el cl i).methods j) = 0 := not_not.2 htE
   unfold fR at k; replace k := Ik k; exact E1 k
theorem iX {cl : List aU} {s : List Nat} {i : Int} {K : PV → Prop} (ct : cl.length ≤ 64) (hs : idx cl s = i) (k : K (.bO [pL 1 pI ((b7 cl s).1.map (idx cl)), .bool (b7 cl s).2])) : PF Tryz.prog X0 Mx 173 [.agg (jz cl), .int .i64 i] K := by
 subst hs; exact iV ct k
theorem ow {cl : List aU} {i : Nat} {K : PV → Prop} (ct : cl.length ≤ 64) (hi : i < cl.length) (k : K (.int .i64 (lz cl i))) : PF Tryz.prog X0 Mx 154 [.agg (jz cl), .int .i64 (i : Nat)] K := by
 refine Pf n9 fun hnt => ?_
 repeat' (first | refine Qa ?_ | (refine Ba ?_ ?_ <;> try exact Za) | (refine aq (ao (du (fun hc => ?_) fun hc => ?_))) | refine aq (ao (cJ ?_)) | intro hc)
 case refine_1.refine_2 => unfold lz at k; replace k := Ik k; exact E1 k
 case refine_2 => unfold lz at k; replace k := Ik k; exact E1 k
 case refine_1.refine_1.refine_2.refine_1 =>
  have hns : (el cl i).cB ≠ [] ∧ ¬ (el cl i).cB ∈ bK cl := ⟨am, fun q => by have := aW.2 q; omega⟩
  unfold lz at k; replace k := Ik k; exact E1 k
 all_goals have hns : ¬ ((el cl i).cB ≠ [] ∧ ¬ (el cl i).cB ∈ bK cl) := by first | exact fun q => q.1 am | exact fun q => q.2 (aW.1 om)
 all_goals
  have hf : bl (bK cl) (el cl i).name = i := by assumption
  have bV := (by assumption : fy (el cl i).name)
  have e : lz cl i = if (b7 cl (el cl i).name).2 = true then 10 else if 16 < (el cl i).fields.length ∨ 16 < (el cl i).methods.length then 3 else if bB (gX cl i) (el cl i).fields.length ≠ 0 then bB (gX cl i) (el cl i).fields.length else bB (fR cl i) (el cl i).methods.length := by unfold lz; rw [if_neg (not_not.2 bV), if_neg (not_not.2 hf), if_neg hns]
  rw [e] at k
  clear e hns
  refine aq (ao (iX ct hf ?_))
  cases hcy : (b7 cl (el cl i).name).2
  all_goals rw [hcy] at k
  all_goals repeat' (first | refine Qa ?_ | (refine Ba ?_ ?_ <;> try exact Za) | intro hc)
  all_goals try (replace k := Ik k; exact E1 k)
  refine aJ (fun j : Nat => [(2, .ptr 2 _ 0), (5, .ptr 5 _ 0), (6, pL 1 pI ((aA cl (el cl i).name).map (idx cl))), (56, .int .i64 ((el cl i).fields.length : Nat)), (57, .int .i64 j)]) (fun _ => [(2, some _, .cells (jz cl)), (5, some _, .cells (ia (el cl i)))]) (fun j => j ≤ (el cl i).fields.length ∧ ∀ a, a < j → gX cl i a = 0) (fun j => (el cl i).fields.length - j) 0 ⟨Nat.zero_le _, fh⟩ .su .su ?_
  rintro j ⟨hj, hb⟩
  repeat' (first | refine Qa ?_ | (refine Ba ?_ ?_ <;> try exact Za) | (refine aq (ao (ov (i := i) (j := j) ct hi hf hcy ?_ ?_ ?_))) | omega | intro hc)
  ·refine ⟨j + 1, by dsimp only; omega, ⟨om, fun a ha => ?_⟩, .su, .su⟩
   by_cases q : a = j
   ·subst q; assumption
   ·exact hb a om
  ·have e := bc (n := (el cl i).fields.length) om hb rfl am
   replace k := Ik k; rw [e] at k; replace k := Ik k; exact E1 k
  have e := bY fun x (hx : x < (el cl i).fields.length) => hb x om
  rw [if_neg Bool.false_ne_true, if_neg (by omega), if_neg (not_not.2 e)] at k
  clear hb hj e
  refine aJ (fun j : Nat => [(2, .ptr 2 _ 0), (5, .ptr 5 _ 0), (6, pL 1 pI ((aA cl (el cl i).name).map (idx cl))), (70, .int .i64 ((el cl i).methods.length : Nat)), (71, .int .i64 j)]) (fun _ => [(2, some _, .cells (jz cl)), (5, some _, .cells (ia (el cl i)))]) (fun j => j ≤ (el cl i).methods.length ∧ ∀ a, a < j → fR cl i a = 0) (fun j => (el cl i).methods.length - j) 0 ⟨Nat.zero_le _, fh⟩ .su .su ?_
  rintro j ⟨hj, hb⟩
  repeat' (first | refine Qa ?_ | (refine Ba ?_ ?_ <;> try exact Za) | (refine aq (ao (nx (i := i) (j := j) ct hi hf hcy ?_ ?_ ?_))) | omega | intro hc)
  ·refine ⟨j + 1, by dsimp only; omega, ⟨om, fun a ha => ?_⟩, .su, .su⟩
   by_cases q : a = j
   ·subst q; assumption
   ·exact hb a om
  ·have e := bc (n := (el cl i).methods.length) om hb rfl am
   rw [e] at k; exact E1 k
  ·rw [bY fun x (hx : x < (el cl i).methods.length) => hb x (by omega)] at k
   exact E1 k
theorem uj {cl : List aU} : ∀ (n : Nat) (out : List (List Nat)) (s : List Nat), (bA cl n out s).1.length ≤ out.length + n
 | 0, out, s => Nat.le_refl _
 | n + 1, out, s => by
  rw [bA]
  by_cases h1 : bl (bK cl) s < 0
  ·rw [if_pos h1]; show out.length ≤ _; omega
  rw [if_neg h1]
  by_cases h2 : s ∈ out
  ·rw [if_pos h2]; show out.length ≤ _; omega
  rw [if_neg h2]
  by_cases h3 : dm cl s = []
  ·rw [if_pos h3]; show (out ++ [s]).length ≤ _; rw [List.length_append]; show out.length + 1 ≤ _; omega
  ·rw [if_neg h3]
   have := uj (cl := cl) n (out ++ [s]) (dm cl s)
   rw [List.length_append] at this
   have e : [s].length = 1 := rfl
   omega
theorem gF {cl : List aU} {s : List Nat} (ct : cl.length ≤ 64) : (aA cl s).length ≤ 65 := by
 have := uj (cl := cl) (cl.length + 1) [] s
 have e : ([] : List (List Nat)).length = 0 := rfl
 unfold aA b7; omega
theorem uk {cl : List aU} {s : List Nat} (h : s ∈ bK cl) : (el cl (idx cl s).toNat).name = s := by
 have := j7 (aW.2 h)
 rw [← ot (by have := this.1; rw [bL] at this; exact this)]
 exact this.2
theorem CJ {cl : List aU} {s : List Nat} : db (fun c : aU => c.name = s) cl = bl (bK cl) s := by
 rcases dz (bK cl) s with ⟨h1, h2⟩ | ⟨j, h1, h2, h3, h4⟩
 ·rw [h1]
  exact fL fun i hi => by rw [← ot hi]; exact h2 i (by rw [bL]; exact hi)
 ·rw [h1]
  rw [bL] at h2
  exact fK h2 (by rw [← ot h2]; exact h3) fun i hi => by rw [← ot (by omega)]; exact h4 i hi
theorem yx {cl : List aU} {K : PV → Prop} (k : ∀ i, K (.bO [.int .i64 i, .int .i64 (fV cl)])) : PF Tryz.prog X0 Mx 97 [.agg (bh cl)] K := by
 refine Pf yn fun hnt => ?_
 repeat' (first | refine Qa ?_ | (refine Ba ?_ ?_ <;> try exact Za) | intro hc)
 ·specialize k (-1); unfold fV at k; replace k := Ik k; exact E1 k
 have ct : cl.length ≤ 64 := by omega
 repeat' (first | refine Qa ?_ | (refine Ba ?_ ?_ <;> try exact Za) | refine aq (ao (ga ?_)) | intro hc)
 refine aJ (fun j : Nat => [(4, .ptr 4 _ 0), (15, .int .i64 (cl.length : Nat)), (16, .int .i64 j)]) (fun _ => [(4, some _, .cells (jz cl))]) (fun j => j ≤ cl.length ∧ ∀ a, a < j → lz cl a = 0) (fun j => cl.length - j) 0 ⟨Nat.zero_le _, fh⟩ .su .su ?_
 rintro j ⟨hj, hb⟩
 repeat' (first | refine Qa ?_ | (refine Ba ?_ ?_ <;> try exact Za) | refine aq (ao (ow ct ?_ ?_)) | omega | intro hc)
 ·refine ⟨j + 1, by dsimp only; omega, ⟨om, fun a ha => ?_⟩, .su, .su⟩
  by_cases q : a = j
  ·subst q; assumption
  ·exact hb a om
 ·have e := bc (n := cl.length) om hb rfl am
  specialize k (j : Nat); unfold fV at k; rw [if_neg (by omega), e] at k; exact E1 k
 ·specialize k 0; unfold fV at k; rw [if_neg (by omega), bY fun x (hx : x < cl.length) => hb x (by omega)] at k; exact E1 k
theorem wi {cl : List aU} {s : List Nat} {K : PV → Prop} (ct : cl.length ≤ 64) (k : K (pL 1 pS (aA cl s))) : PF Tryz.prog X0 Mx 55 [.agg (bh cl), .str s] K := by
 refine Pf v8 fun hnt => ?_
 repeat' (first | refine Qa ?_ | (refine Ba ?_ ?_ <;> try exact Za) | refine aq (ao (ga ?_)) | refine aq (ao (iW ct ?_)) | intro hc)
 have hsl := gF (s := s) ct
 refine aJ (ι := Nat × Option Nat) (fun q => [(5, .ptr 5 _ 0), (6, oL 27 q.2 1 ((aA cl s).take q.1)), (13, pL 1 pI ((aA cl s).map (idx cl))), (14, .int .i64 ((aA cl s).length : Nat)), (15, .int .i64 (q.1 : Nat))]) (fun q => [(5, some _, .cells (jz cl)), (27, q.2, aL 1 pS ((aA cl s).take q.1))]) (fun q => q.1 ≤ (aA cl s).length) (fun q => (aA cl s).length - q.1) (0, none) (Nat.zero_le _) (.c (.cons rfl (.vO 27 1) (.c (.cons rfl (Zf.eq (by rw [List.length_map])) (.c .nil))))) (.c (.vO .nil)) ?_
 rintro ⟨j, bp⟩ hj
 dsimp only at hj ⊢
 by_cases hlt : j < (aA cl s).length
 ·have hm := cq (b8 hlt)
  have h1 := aW.2 hm
  have h2 := (ee (l := bK cl) (s := el (aA cl s) j)).1
  rw [bL] at h2
  have hml : ((aA cl s).map (idx cl)).length = (aA cl s).length := List.length_map _
  have hme : el ((aA cl s).map (idx cl)) j = idx cl (el (aA cl s) j) := cQ hlt
  have hbd : 0 ≤ el ((aA cl s).map (idx cl)) j ∧ el ((aA cl s).map (idx cl)) j < cl.length := by rw [hme]; exact ⟨h1, h2⟩
  have hnm : (el cl (el ((aA cl s).map (idx cl)) j).toNat).name = el (aA cl s) j := by rw [hme]; exact uk hm
  repeat' (first | refine Qa ?_ | (refine Ba ?_ ?_ <;> try exact Za) | (refine bw ?_; intro b2) | (refine fi (el (aA cl s) j) ?_ rfl rfl rfl rfl (by show [PV.str _] = pS _; rw [hnm]; rfl) (fun _ => rfl) (by rw [List.length_take]; omega); intro od) | intro hc)
  have e : (aA cl s).take (j + 1) = (aA cl s).take j ++ [el (aA cl s) j] := by
   rw [List.take_succ_eq_append_getElem hlt]
   simp [el, hlt]
  exact ⟨(j + 1, od), by dsimp only; omega, by dsimp only; omega, (.c (.cons rfl (by show Cv _ (oL 27 od 1 ((aA cl s).take (j + 1))); rw [e]; exact .refl _) (.c (.c (.c .nil))))), (.c (.cons rfl (by show wN _ (aL 1 pS ((aA cl s).take (j + 1))); rw [e]; exact .refl _) .nil))⟩
 ·have e : (aA cl s).take j = aA cl s := List.take_of_length_le om
  rw [e]
  repeat' (first | refine Qa ?_ | (refine Ba ?_ ?_ <;> try exact Za) | intro hc)
  exact ⟨Or.inr rfl, ⟨trivial, trivial⟩, _, _, rfl, fx, k⟩
theorem pC {cl : List aU} {s t : List Nat} {K : PV → Prop} (ct : cl.length ≤ 64) (kt : t ∈ aA cl s → K (.bool true)) (kf : ¬ t ∈ aA cl s → K (.bool false)) : PF Tryz.prog X0 Mx 20 [.agg (bh cl), .str s, .str t] K := by
 refine Pf yj fun hnt => ?_
 repeat' (first | refine Qa ?_ | refine aq (ao (wi ct ?_)) | (refine aq (ao (eT (fun hin => ?_) fun hin => ?_))) | intro hc)
 ·exact E1 (kt hin)
 ·exact E1 (kf hin)
theorem wj {x : aU} {s : List Nat} {K : PV → Prop} (kt : x.name = s → K (.bool true)) (kf : ¬ x.name = s → K (.bool false)) : PF Tryz.prog X0 Mx 158 [.agg (ia x), .fp [.str s] 0] K := by
 refine Pf we fun hnt => ?_
 repeat' (first | refine Qa ?_ | (refine Ba ?_ ?_ <;> try exact Za) | intro hc)
 ·exact E1 (kt hc)
 ·exact E1 (kf hc)
theorem lJ {l : List aU} {s : List Nat} {K : PV → Prop} (k : K (.int .i64 (bl (bK l) s))) : PF Tryz.prog X0 Mx 157 [pL 4 ia l, .fn 158 [.fp [.str s] 0]] K := by
 refine Pf lE fun hnt => ?_
 rw [← CJ] at k
 repeat' (first | refine Qa ?_ | (refine Ba ?_ ?_ <;> try exact Za) | intro hc)
 refine aJ (fun j : Nat => [(0, pL 4 ia l), (1, .fn 158 [.fp [.str s] 0]), (7, .int .i64 (l.length : Nat)), (8, .int .i64 j)]) (fun _ => []) (fun j => j ≤ l.length ∧ ∀ i, i < j → ¬ (el l i).name = s) (fun j => l.length - j) 0 ⟨Nat.zero_le _, fh⟩ .su (.nil) ?_
 rintro j ⟨hj, hb⟩
 repeat' (first | refine Qa ?_ | (refine Ba ?_ ?_ <;> try exact Za) | (refine aq (ao (wj (fun hc => ?_) fun hc => ?_))) | intro hc)
 ·rw [fK (p := fun x : aU => x.name = s) (j := j) (by omega) hc hb] at k
  exact E1 k
 ·refine ⟨j + 1, by dsimp only; omega, ⟨om, fun i hi => ?_⟩, .su, (.nil)⟩
  by_cases q : i = j
  ·subst q; assumption
  ·exact hb i om
 ·rw [fL (p := fun x : aU => x.name = s) fun i hi => hb i (by omega)] at k
  exact E1 k
theorem ic {cl : List aU} {s : List Nat} {K : PV → Prop} (k : K (.int .i64 (bl (bK cl) s))) : PF Tryz.prog X0 Mx 100 [.agg (bh cl), .str s] K := by
 refine Pf Aq fun hnt => ?_
 repeat' (first | refine Qa ?_ | (refine gS (lJ ⟨rfl, ?_⟩) rfl rfl rfl (.cons _ _ _ _ (.refl _) (.cons _ _ _ _ (.fn _ _ _ (.cons _ _ _ _ (.ptr _ _ _ _ _ rfl (.refl _)) .nil)) .nil))) | intro hc)
 exact E1 k
theorem ed {α : Type} [Inhabited α] (p : α → Prop) (l : List α) : (db p l = -1 ∧ ∀ i, i < l.length → ¬ p (el l i)) ∨ ∃ j : Nat, db p l = (j : Int) ∧ j < l.length ∧ p (el l j) ∧ ∀ i, i < j → ¬ p (el l i) := by
 rcases dz (l.map fun x => if p x then [1] else []) [1] with ⟨h1, h2⟩ | ⟨j, h1, h2, h3, h4⟩
 ·refine Or.inl ⟨h1, fun i hi q => h2 i (by simpa using hi) ?_⟩
  rw [cQ hi, if_pos q]
 ·have hj : j < l.length := by simpa using h2
  refine Or.inr ⟨j, h1, hj, ?_, fun i hi q => h4 i hi ?_⟩
  ·rw [cQ hj] at h3
   by_cases q : p (el l j)
   ·exact q
   ·rw [if_neg q] at h3; cases h3
  ·rw [cQ (by omega), if_pos q]
theorem DY {cl : List aU} {l : List (List Nat)} : (l.map (idx cl)).length = l.length := List.length_map _
theorem Hn {cl : List aU} {s : List Nat} {m : Nat} (hlt : m < (aA cl s).length) : (0 ≤ el ((aA cl s).map (idx cl)) m ∧ el ((aA cl s).map (idx cl)) m < cl.length) ∧ el cl (el ((aA cl s).map (idx cl)) m).toNat = aY cl (el (aA cl s) m) ∧ (aY cl (el (aA cl s) m)).name = el (aA cl s) m := by
 have hm := cq (b8 hlt)
 have h1 := aW.2 hm
 have h2 := (ee (l := bK cl) (s := el (aA cl s) m)).1
 rw [bL] at h2
 rw [cQ hlt]
 exact ⟨⟨h1, h2⟩, rfl, uk hm⟩
theorem yy {cl : List aU} {s nm : List Nat} {K : PV → Prop} (ct : cl.length ≤ 64) (k1 : ∀ c f, cK cl s nm = some (c, f) → K (.bO [.str c, .str f.ly, .bool true])) (k0 : cK cl s nm = none → K (.bO [.str [], .str [], .bool false])) : PF Tryz.prog X0 Mx 211 [.agg (bh cl), .str s, .str nm] K := by
 refine Pf yv fun hnt => ?_
 repeat' (first | refine Qa ?_ | (refine Ba ?_ ?_ <;> try exact Za) | refine aq (ao (ga ?_)) | refine aq (ao (iW ct ?_)) | intro hc)
 refine aJ (fun j : Nat => [(9, .ptr 9 _ 0), (2, .str nm), (18, pL 1 pI ((aA cl s).map (idx cl))), (19, .int .i64 (((aA cl s).map (idx cl)).length : Nat)), (20, .int .i64 j)]) (fun _ => [(9, some _, .cells (jz cl))]) (fun j => j ≤ (aA cl s).length ∧ ∀ a, a < j → j5 (aY cl (el (aA cl s) a)) nm = none) (fun j => (aA cl s).length - j) 0 ⟨Nat.zero_le _, fh⟩ .su .su ?_
 rintro j ⟨hj, hb⟩
 have hml := DY (cl := cl) (l := aA cl s)
 have hsl := gF (s := s) ct
 by_cases hlt : j < (aA cl s).length
 ·obtain ⟨hbd, hcl, hnm⟩ := Hn (cl := cl) hlt
  rcases ed (fun x : ju => x.name = nm) (aY cl (el (aA cl s) j)).fields with ⟨e1, q1⟩ | ⟨q, e1, q2, q3, q4⟩
  all_goals rw [← hcl] at e1
  ·repeat' (first | refine Qa ?_ | (refine Ba ?_ ?_ <;> try exact Za) | refine aq (ao (eo ?_)) | intro hc)
   refine ⟨j + 1, by dsimp only; omega, ⟨om, fun a ha => ?_⟩, .su, .su⟩
   by_cases w : a = j
   ·subst w; exact iB fun i hi => if_neg (q1 i hi)
   ·exact hb a om
  ·rw [← hcl] at q2 q3 q4 hnm
   repeat' (first | refine Qa ?_ | (refine Ba ?_ ?_ <;> try exact Za) | refine aq (ao (eo ?_)) | intro hc)
   have hF : cK cl s nm = some (el (aA cl s) j, el (aY cl (el (aA cl s) j)).fields q) := gY hlt (by rw [← hcl]; unfold j5; rw [gY q2 (if_pos q3) fun i hi => if_neg (q4 i hi)]; rfl) fun a ha => by rw [hb a ha]; rfl
   have k2 := k1 _ _ hF
   rw [← hcl, ← hnm] at k2
   rw [e1]
   exact E1 k2
 ·repeat' (first | refine Qa ?_ | (refine Ba ?_ ?_ <;> try exact Za) | intro hc)
  have hF : cK cl s nm = none := iB fun a ha => by rw [hb a (by omega)]; rfl
  have k2 := k0 hF
  exact E1 k2
def Py (cl : List aU) (s nm : List Nat) (a b : Nat) : Prop := a < cl.length ∧ b < (el cl a).methods.length ∧ cb cl s nm = some ((el cl a).name, el (el cl a).methods b)
theorem ny {cl : List aU} {s nm : List Nat} {i : Int} {K : PV → Prop} (ct : cl.length ≤ 64) (hi : idx cl s = i) (k1 : ∀ a b : Nat, Py cl s nm a b → K (.bO [.int .i64 (a : Nat), .int .i64 (b : Nat)])) (k0 : cb cl s nm = none → K (.bO [.int .i64 (-1), .int .i64 (-1)])) : PF Tryz.prog X0 Mx 212 [.agg (jz cl), .int .i64 i, .str nm] K := by
 refine Pf nq fun hnt => ?_
 repeat' (first | refine Qa ?_ | (refine Ba ?_ ?_ <;> try exact Za) | refine aq (ao (iX ct hi ?_)) | intro hc)
 refine aJ (fun j : Nat => [(3, .ptr 3 _ 0), (2, .str nm), (19, pL 1 pI ((aA cl s).map (idx cl))), (20, .int .i64 (((aA cl s).map (idx cl)).length : Nat)), (21, .int .i64 j)]) (fun _ => [(3, some _, .cells (jz cl))]) (fun j => j ≤ (aA cl s).length ∧ ∀ a, a < j → gB (aY cl (el (aA cl s) a)) nm = none) (fun j => (aA cl s).length - j) 0 ⟨Nat.zero_le _, fh⟩ .su .su ?_
 rintro j ⟨hj, hb⟩
 have hml := DY (cl := cl) (l := aA cl s)
 have hsl := gF (s := s) ct
 by_cases hlt : j < (aA cl s).length
 ·obtain ⟨hbd, hcl, hnm⟩ := Hn (cl := cl) hlt
  rcases ed (fun x : cz => x.name = nm) (aY cl (el (aA cl s) j)).methods with ⟨e1, q1⟩ | ⟨q, e1, q2, q3, q4⟩
  all_goals rw [← hcl] at e1
  ·repeat' (first | refine Qa ?_ | (refine Ba ?_ ?_ <;> try exact Za) | refine aq (ao (fk ?_)) | intro hc)
   refine ⟨j + 1, by dsimp only; omega, ⟨om, fun a ha => ?_⟩, .su, .su⟩
   by_cases w : a = j
   ·subst w; exact iB fun i hi => if_neg (q1 i hi)
   ·exact hb a om
  ·rw [← hcl] at q2 q3 q4 hnm
   repeat' (first | refine Qa ?_ | (refine Ba ?_ ?_ <;> try exact Za) | refine aq (ao (fk ?_)) | intro hc)
   have hF : cb cl s nm = some (el (aA cl s) j, el (aY cl (el (aA cl s) j)).methods q) := gY hlt (by rw [← hcl]; unfold gB; rw [gY q2 (if_pos q3) fun i hi => if_neg (q4 i hi)]; rfl) fun a ha => by rw [hb a ha]; rfl
   rw [← hcl, ← hnm] at hF
   have k2 := k1 (el ((aA cl s).map (idx cl)) j).toNat q ⟨om, q2, hF⟩
   rw [show (((el ((aA cl s).map (idx cl)) j).toNat : Nat) : Int) = el ((aA cl s).map (idx cl)) j by omega] at k2
   rw [e1]
   exact E1 k2
 ·repeat' (first | refine Qa ?_ | (refine Ba ?_ ?_ <;> try exact Za) | intro hc)
  have hF : cb cl s nm = none := iB fun a ha => by rw [hb a (by omega)]; rfl
  have k2 := k0 hF
  exact E1 k2
end Go.Proofs.YtgaihilgffficaaGreatDoor.Ev
