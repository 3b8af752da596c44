/- CoverStates, part 26 -/
import Derived.Test.YtgaihilgffficaaGreatDoorCvA
set_option linter.all false
set_option maxHeartbeats 4000000
namespace Go.Proofs.YtgaihilgffficaaGreatDoor.Ev
open Go
def kK (s : List Nat) : Prop := (s.length ≤ 32 ∧ 1 ≤ s.length ∧ s.getD 0 0 = 36 ∧ G0 (s.drop 1)) ∨ fy s
theorem th {s : List Nat} : zU s [36] ↔ 1 ≤ s.length ∧ s.getD 0 0 = 36 := by
 cases s with
 | nil => simp [zU]
 | cons a s => simp [zU]
theorem DU {s : List Nat} : (s.drop (Int.toNat 1)).take ((s.length : Int) - 1).toNat = s.drop 1 := by
 apply List.take_of_length_le
 show (s.drop 1).length ≤ _
 simp
theorem G3 {s : List Nat} (h : s.getD 0 0 = 36) : ¬ fy s := fun q => by
 have := q.2.2.1
 rw [h] at this
 rcases this with x | x <;> omega
theorem o8 {s : List Nat} {K : PV → Prop} (kt : kK s → K (.bool true)) (kf : ¬ kK s → K (.bool false)) : PF Tryz.prog X0 Mx 99 [.str s] K := by
 refine Pf o9 fun hnt => ?_
 repeat' (first | refine Qa ?_ | (refine Ba ?_ ?_ <;> try exact Za) | (refine aq (ao (nj (fun hc => ?_) fun hc => ?_))) | (refine aq (ao (du (fun hc => ?_) fun hc => ?_))) | (refine aq (ao (xW ?_ (fun hn => ?_) fun hn => ?_))) | (refine qK ?_ rfl rfl rfl om (by have := (th.1 hc).1; omega) om) | intro hc)
 all_goals try rw [DU] at *
 ·simp; try omega
 ·have := th.1 am
  exact E1 (kt (Or.inl ⟨om, this.1, this.2, hn⟩))
 ·have := th.1 am
  exact E1 (kf fun q => q.elim (fun q => hn q.2.2.2) (G3 this.2))
 ·exact E1 (kt (Or.inr hc))
 ·exact E1 (kf fun q => q.elim (fun q => (by assumption : ¬ zU s [36]) (th.2 ⟨q.2.1, q.2.2.1⟩)) hc)
 ·exact E1 (kt (Or.inr hc))
 ·exact E1 (kf fun q => q.elim (fun q => om) hc)
def wL (op : Int) : List Nat := if 0 ≤ op ∧ op < 17 then el Ri op.toNat else []
def nL (op : Int) : List Nat := el Sy op.toNat
def hasB (op : Int) (f : Nat) : Bool := decide (0 ≤ op ∧ op < 17) && (nL op).any fun b => b == f || (f == 110 && b == 111)
theorem G4 {x f : Nat} : (x == f || (f == 110 && x == 111)) = true ↔ x = f ∨ f = 110 ∧ x = 111 := by simp
theorem G5 {x f : Nat} : (x == f || (f == 110 && x == 111)) = false ↔ ¬ (x = f ∨ f = 110 ∧ x = 111) := by rw [← G4]; simp
theorem mH {op : Int} (h : 0 ≤ op ∧ op < 17) : ∃ k : Fin 17, op = ((k.1 : Nat) : Int) := ⟨⟨op.toNat, om⟩, by show op = (op.toNat : Int); omega⟩
theorem iM {op : Int} : wL op = [] ↔ ¬ (0 ≤ op ∧ op < 17) := by
 constructor
 ·intro h q
  obtain ⟨k, rfl⟩ := mH q
  rw [wL, if_pos q] at h
  have : ∀ k : Fin 17, el Ri ((k.1 : Nat) : Int).toNat ≠ [] := by decide
  exact this k h
 ·intro h; rw [wL, if_neg h]
theorem EW {op : Int} (h : 0 ≤ op ∧ op < 17) : (nL op).length ≤ 10 := by
 obtain ⟨k, rfl⟩ := mH h
 have : ∀ k : Fin 17, (nL ((k.1 : Nat) : Int)).length ≤ 10 := by decide
 exact this k
theorem Cd {s : List Nat} {p : Nat → Bool} : s.any p = true ↔ ∃ i, i < s.length ∧ p (s.getD i 0) = true := by
 rw [List.any_eq_true]
 constructor
 ·rintro ⟨x, hx, hp⟩
  obtain ⟨i, hi, e⟩ := List.mem_iff_getElem.1 hx
  exact ⟨i, hi, by simpa [hi, e] using hp⟩
 ·rintro ⟨i, hi, hp⟩
  exact ⟨s[i], List.getElem_mem hi, by simpa [hi] using hp⟩
theorem tN {P : Program} {X : dg} {M : Mf} {G : aZ} {S : aX} {K0 : PV → Prop} (L : List (List Nat)) {x : XV} {p id i : Nat} (hk : K0 (.str (el L i))) (hx : ca G x = some (.ib p id i 0 1) := by exact rfl) (hS : aI S p = some (some id, .arr 1 L.length (rN 1 (L.map PV.str))) := by exact rfl) (hi : i < L.length) : wM P X M (.aB x) G S K0 :=
 aT hk hx hS (by rw [wK hi]; rfl) hi
theorem Ce {op : Int} {K : PV → Prop} (h : 0 ≤ op ∧ op < 17) (k : K (.str (nL op))) : PF Tryz.prog X0 Mx 313 [.int .i64 op] K := by
 refine Pf Cf fun hnt => ?_
 repeat' (first | refine Qa ?_ | (refine bw ?_; intro b) | (refine qL ?_; intro q hq; cases hq) | refine tN Sy ?_ rfl rfl (by show op.toNat < 17; omega) | intro hc)
 exact E1 k
theorem n4 {op : Int} {K : PV → Prop} (k : K (.str (wL op))) : PF Tryz.prog X0 Mx 225 [.int .i64 op] K := by
 refine Pf Cg fun hnt => ?_
 repeat' (first | refine Qa ?_ | (refine Ba ?_ ?_ <;> try exact Za) | (refine bw ?_; intro b) | (refine qL ?_; intro q hq; cases hq) | refine tN Ri ?_ rfl rfl (by show op.toNat < 17; omega) | intro hc)
 ·refine E1 ?_; rwa [iM.2 (by omega)] at k
 ·refine E1 ?_; rwa [iM.2 (by omega)] at k
 ·rw [wL, if_pos ⟨by omega, by omega⟩] at k
  exact E1 k
theorem c6 {op : Int} {f : Nat} {K : PV → Prop} (kt : hasB op f = true → K (.bool true)) (kf : hasB op f = false → K (.bool false)) : PF Tryz.prog X0 Mx 257 [.int .i64 op, .int .u8 (f : Int)] K := by
 refine Pf EX fun hnt => ?_
 by_cases h : 0 ≤ op ∧ op < 17
 ·have hl := EW h
  have hn : ¬ wL op = [] := fun q => iM.1 q h
  repeat' (first | refine Qa ?_ | (refine Ba ?_ ?_ <;> try exact Za) | refine aq (ao (n4 ?_)) | refine aq (ao (Ce h ?_)) | intro hc)
  refine aJ (fun j : Nat => [(1, .int .u8 (f : Int)), (5, .str (nL op)), (6, .int .i64 j)]) (fun _ => []) (fun j => j ≤ (nL op).length ∧ ∀ i, i < j → ((nL op).getD i 0 == f || (f == 110 && (nL op).getD i 0 == 111)) = false) (fun j => (nL op).length - j) 0 ⟨Nat.zero_le _, fh⟩ .su (.nil) ?_
  rintro j ⟨hj, hb⟩
  repeat' (first | refine Qa ?_ | (refine Ba ?_ ?_ <;> try exact Za) | intro hc)
  ·exact E1 (kt (by unfold hasB; rw [decide_eq_true h, Bool.true_and, Cd]; exact ⟨j, om, G4.2 om⟩))
  ·exact E1 (kt (by unfold hasB; rw [decide_eq_true h, Bool.true_and, Cd]; exact ⟨j, om, G4.2 om⟩))
  ·refine ⟨j + 1, by dsimp only; omega, ⟨om, fun i hi => ?_⟩, .su, (.nil)⟩
   by_cases q : i = j
   ·subst q; exact G5.2 om
   ·exact hb i om
  ·refine ⟨j + 1, by dsimp only; omega, ⟨om, fun i hi => ?_⟩, .su, (.nil)⟩
   by_cases q : i = j
   ·subst q; exact G5.2 om
   ·exact hb i om
  ·exact E1 (kf (by unfold hasB; rw [decide_eq_true h, Bool.true_and]; cases hq : (nL op).any _ with | false => rfl | true => (obtain ⟨i, hi, e⟩ := Cd.1 hq; rw [hb i (by omega)] at e; cases e)))
 ·have hn := iM.2 h
  repeat' (first | refine Qa ?_ | (refine Ba ?_ ?_ <;> try exact Za) | refine aq (ao (n4 ?_)) | intro hc)
  exact E1 (kf (by unfold hasB; rw [decide_eq_false h]; rfl))
theorem tO {op : Int} {K : PV → Prop} (kt : 0 ≤ op ∧ op < 17 → K (.bool true)) (kf : ¬ (0 ≤ op ∧ op < 17) → K (.bool false)) : PF Tryz.prog X0 Mx 101 [.int .i64 op] K := by
 refine Pf Ch fun hnt => ?_
 repeat' (first | refine Qa ?_ | (refine Ba ?_ ?_ <;> try exact Za) | intro hc)
 ·exact E1 (kt om)
 ·exact E1 (kf om)
 ·exact E1 (kf om)
def eN (op : Int) (f : Nat) : Bool := decide (0 ≤ op ∧ op < 17) && (el zD op.toNat).elem f
theorem cy {op : Int} {f : Nat} {K : PV → Prop} (hf : f ≤ 255) (kt : eN op f = true → K (.bool true)) (kf : eN op f = false → K (.bool false)) : PF Tryz.prog X0 Mx 159 [.int .i64 op, .int .u8 (f : Int)] K := by
 refine Pf EY fun hnt => ?_
 repeat' (first | refine Qa ?_ | (refine Ba ?_ ?_ <;> try exact Za) | (refine aq (ao (tO (fun hc => ?_) fun hc => ?_))) | refine EZ zD ?_ | refine aq (ao (nh hf ?_)) | intro hc)
 ·exact E1 (kt (by unfold eN; rw [decide_eq_true (by assumption), Bool.true_and, List.elem_iff]; rcases qI (c := f) (el zD op.toNat) 0 with ⟨q, _⟩ | ⟨_, q⟩; (have hc : 0 ≤ qJ f (el zD op.toNat) 0 := hc; omega); exact q))
 ·exact E1 (kf (by unfold eN; rw [decide_eq_true (by assumption), Bool.true_and]; rcases qI (c := f) (el zD op.toNat) 0 with ⟨_, q⟩ | ⟨q, _⟩; (simpa using q); (have hc : ¬ 0 ≤ qJ f (el zD op.toNat) 0 := hc; omega)))
 ·exact E1 (kf (by unfold eN; rw [decide_eq_false (by assumption)]; rfl))
theorem en {op : Int} {f : Nat} (hf : f = 100 ∨ f = 97 ∨ f = 98 ∨ f = 99 ∨ f = 109 ∨ f = 103) : eN op f = hasB op f := by
 by_cases h : 0 ≤ op ∧ op < 17
 ·obtain ⟨k, rfl⟩ := mH h
  rcases hf with rfl | rfl | rfl | rfl | rfl | rfl
  ·exact (by decide : ∀ k : Fin 17, eN ((k.1 : Nat) : Int) 100 = hasB ((k.1 : Nat) : Int) 100) k
  ·exact (by decide : ∀ k : Fin 17, eN ((k.1 : Nat) : Int) 97 = hasB ((k.1 : Nat) : Int) 97) k
  ·exact (by decide : ∀ k : Fin 17, eN ((k.1 : Nat) : Int) 98 = hasB ((k.1 : Nat) : Int) 98) k
  ·exact (by decide : ∀ k : Fin 17, eN ((k.1 : Nat) : Int) 99 = hasB ((k.1 : Nat) : Int) 99) k
  ·exact (by decide : ∀ k : Fin 17, eN ((k.1 : Nat) : Int) 109 = hasB ((k.1 : Nat) : Int) 109) k
  ·exact (by decide : ∀ k : Fin 17, eN ((k.1 : Nat) : Int) 103 = hasB ((k.1 : Nat) : Int) 103) k
 ·unfold eN hasB; rw [decide_eq_false h]; rfl
theorem G6 {op : Int} : eN op 42 = hasB op 108 := by
 by_cases h : 0 ≤ op ∧ op < 17
 ·obtain ⟨k, rfl⟩ := mH h
  exact (by decide : ∀ k : Fin 17, eN ((k.1 : Nat) : Int) 42 = hasB ((k.1 : Nat) : Int) 108) k
 ·unfold eN hasB; rw [decide_eq_false h]; rfl
theorem MX {op : Int} : (eN op 110 || eN op 111) = hasB op 110 := by
 by_cases h : 0 ≤ op ∧ op < 17
 ·obtain ⟨k, rfl⟩ := mH h
  exact (by decide : ∀ k : Fin 17, (eN ((k.1 : Nat) : Int) 110 || eN ((k.1 : Nat) : Int) 111) = hasB ((k.1 : Nat) : Int) 110) k
 ·unfold eN hasB; rw [decide_eq_false h]; rfl
theorem lB {l : List (List Nat)} {s : List Nat} {K : PV → Prop} (k : K (.int .i64 (bl l s))) : PF Tryz.prog X0 Mx 110 [pL 1 pS l, .str s] K := by
 refine Pf lC fun hnt => ?_
 repeat' (first | refine Qa ?_ | (refine Ba ?_ ?_ <;> try exact Za) | intro hc)
 refine aJ (fun j : Nat => [(0, pL 1 pS l), (1, .str s), (7, .int .i64 (l.length : Nat)), (8, .int .i64 j)]) (fun _ => []) (fun j => j ≤ l.length ∧ ∀ i, i < j → el l i ≠ s) (fun j => l.length - j) 0 ⟨Nat.zero_le _, fh⟩ .su (.nil) ?_
 rintro j ⟨hj, hb⟩
 repeat' (first | refine Qa ?_ | (refine Ba ?_ ?_ <;> try exact Za) | intro hc)
 ·refine E1 ?_; rwa [lT (j := j) (by omega) hc.symm hb] at k
 ·refine ⟨j + 1, by dsimp only; omega, ⟨om, fun i hi => ?_⟩, .su, (.nil)⟩
  by_cases q : i = j
  ·subst q; exact fun q => hc q.symm
  ·exact hb i om
 ·refine E1 ?_; rwa [o5 fun i hi => hb i (by omega)] at k
theorem eT {l : List (List Nat)} {s : List Nat} {K : PV → Prop} (kt : s ∈ l → K (.bool true)) (kf : ¬ s ∈ l → K (.bool false)) : PF Tryz.prog X0 Mx 51 [pL 1 pS l, .str s] K := by
 refine Pf jM fun hnt => ?_
 repeat' (first | refine Qa ?_ | (refine Ba ?_ ?_ <;> try exact Za) | refine aq (ao (lB ?_)) | intro hc)
 ·exact E1 (kt (aW.1 hc))
 ·exact E1 (kf fun q => hc (aW.2 q))
section
open Classical
theorem Ia {c : Prop} (h : c := by first | assumption | omega | exact rfl) : c := h
theorem Ib {c : Prop} (h : ¬ c := by first | assumption | exact not_not.2 (by assumption) | omega | exact Bool.false_ne_true) : ¬ c := h
theorem Ik {p q : Prop} (k : p) (h : p → Wq q := by intro k; (repeat (first | rw [if_pos (by exact Ia)] at k | rw [if_neg (by exact Ib)] at k)); exact ⟨k⟩) : q := (h k).u
def bB (f : Nat → Int) : Nat → Int
 | 0 => 0
 | n + 1 => if bB f n = 0 then f n else bB f n
theorem bY {f : Nat → Int} : ∀ {n : Nat}, (∀ i, i < n → f i = 0) → bB f n = 0
 | 0, _ => rfl
 | n + 1, h => by rw [bB, if_pos (bY fun i hi => h i (by omega))]; exact h n om
theorem bc {f : Nat → Int} {e : Int} : ∀ {n j : Nat}, j < n → (∀ i, i < j → f i = 0) → f j = e → e ≠ 0 → bB f n = e
 | 0, j, h, _, _, _ => absurd h om
 | n + 1, j, h, h0, h1, h2 => by
  by_cases q : j = n
  ·subst q; rw [bB, if_pos (bY h0)]; exact h1
  ·have := bc (n := n) om h0 h1 h2
   rw [bB, if_neg (by rw [this]; exact h2)]; exact this
theorem dY {f : Nat → Int} : ∀ {n : Nat}, bB f n = 0 → ∀ i, i < n → f i = 0
 | 0, _, i, hi => absurd hi om
 | n + 1, h, i, hi => by
  rw [bB] at h
  by_cases q : bB f n = 0
  ·rw [if_pos q] at h
   by_cases qi : i = n
   ·subst qi; exact h
   ·exact dY q i om
  ·rw [if_neg q] at h; exact absurd h q
def j6 (a b : cz) : Prop := a.params = b.params ∧ a.result = b.result
def sq (cl : List aU) (t : List Nat) : Prop := t = gZ ∨ t ∈ bK cl
def Pn (cl : List aU) (s : cz) : Prop := (∀ p ∈ s.params, sq cl p) ∧ (s.result = [] ∨ sq cl s.result)
noncomputable def mZ (cl : List aU) (s : cz) : Int := if Pn cl s then 0 else 8
def zG (cl : List aU) (c : List Nat) (s : cz) : Prop := ∃ d ∈ (aA cl c).drop 1, ∃ m ∈ (aY cl d).methods, m.name = s.name ∧ (m.static = true ∨ s.static = true ∨ ¬ j6 m s)
theorem G7 {α : Type} [Inhabited α] {l m : List α} (hl : l.length = m.length) (h : ∀ i, i < l.length → el l i = el m i) : l = m := by
 apply List.ext_getElem hl
 intro i h1 h2
 have := h i h1
 simpa [el, h1, h2] using this
theorem vV {x y : cz} {K : PV → Prop} (kt : j6 x y → K (.bool true)) (kf : ¬ j6 x y → K (.bool false)) : PF Tryz.prog X0 Mx 331 [.agg (cL x), .agg (cL y)] K := by
 refine Pf vW fun hnt => ?_
 repeat' (first | refine Qa ?_ | (refine Ba ?_ ?_ <;> try exact Za) | intro hc)
 ·refine aJ (fun j : Nat => [(2, .ptr 2 _ 0), (3, .ptr 3 _ 0), (5, .int .i64 j)]) (fun _ => [(2, some _, .cells (cL x)), (3, some _, .cells (cL y))]) (fun j => j ≤ x.params.length ∧ ∀ i, i < j → el x.params i = el y.params i) (fun j => x.params.length - j) 0 ⟨Nat.zero_le _, fh⟩ .su .su ?_
  rintro j ⟨hj, hb⟩
  repeat' (first | refine Qa ?_ | (refine Ba ?_ ?_ <;> try exact Za) | intro hc)
  ·refine ⟨j + 1, by dsimp only; omega, ⟨om, fun i hi => ?_⟩, .su, .su⟩
   by_cases q : i = j
   ·subst q; exact hc
   ·exact hb i om
  ·exact E1 (kf fun q => hc (by rw [q.1]))
  ·exact E1 (kt ⟨G7 om fun i hi => hb i om, am⟩)
 ·exact E1 (kf fun q => hc q.2)
 ·exact E1 (kf fun q => hc (by rw [q.1]))
theorem rO {cl : List aU} {s : cz} {K : PV → Prop} (k : K (.int .i64 (mZ cl s))) : PF Tryz.prog X0 Mx 311 [.agg (bh cl), .agg (cL s)] K := by
 refine Pf zX fun hnt => ?_
 repeat' (first | refine Qa ?_ | (refine Ba ?_ ?_ <;> try exact Za) | intro hc)
 refine aJ (fun j : Nat => [(2, .ptr 2 _ 0), (3, .ptr 3 _ 0), (5, .int .i64 j)]) (fun _ => [(2, some _, .cells (bh cl)), (3, some _, .cells (cL s))]) (fun j => j ≤ s.params.length ∧ ∀ i, i < j → sq cl (el s.params i)) (fun j => s.params.length - j) 0 ⟨Nat.zero_le _, fh⟩ .su .su ?_
 rintro j ⟨hj, hb⟩
 repeat' (first | refine Qa ?_ | (refine Ba ?_ ?_ <;> try exact Za) | (refine dW (aM (iT (fun hc => ?_) fun hc => ?_))) | (refine aq (ao (iT (fun hc => ?_) fun hc => ?_))) | intro hc)
 ·refine ⟨j + 1, by dsimp only; omega, ⟨om, fun i hi => ?_⟩, .su, .su⟩
  by_cases q : i = j
  ·subst q; exact hc
  ·exact hb i om
 ·rw [mZ, if_neg fun q => hc (q.1 _ (b8 (by omega)))] at k
  exact E1 k
 all_goals have hp : ∀ p ∈ s.params, sq cl p := fun p hp => by obtain ⟨i, hi, e⟩ := dn hp; rw [← e]; exact hb i om
 ·rw [mZ, if_pos ⟨hp, Or.inl hc⟩] at k
  exact E1 k
 ·rw [mZ, if_pos ⟨hp, Or.inr hc⟩] at k
  exact E1 k
 ·rw [mZ, if_neg fun q => q.2.elim (by assumption) hc] at k
  exact E1 k
theorem lh {cl : List aU} {c : List Nat} {s : cz} {K : PV → Prop} (ct : cl.length ≤ 64) (kt : zG cl c s → K (.bool true)) (kf : ¬ zG cl c s → K (.bool false)) : PF Tryz.prog X0 Mx 312 [.agg (bh cl), .str c, .agg (cL s)] K := by
 refine Pf sy fun hnt => ?_
 repeat' (first | refine Qc ?_ | (refine Ba ?_ ?_ <;> try exact Za) | refine af ?_ | refine aa ?_ | refine ai ?_ | refine aj ?_ | refine ag ?_ | refine ae ?_ | refine aq (ao (GY ct ?_)) | refine pb ?_ | intro hc)
 refine aJ (fun j : Nat => [(3, .ptr 3 _ 0), (5, .ptr 5 _ 0), (7, pL 1 pS ((aA cl c).drop 1)), (8, .int .i64 j)]) (fun _ => [(3, some _, .cells (bh cl)), (5, some _, .cells (cL s))]) (fun j => j ≤ ((aA cl c).drop 1).length ∧ ∀ i, i < j → ¬ ∃ m ∈ (aY cl (el ((aA cl c).drop 1) i)).methods, m.name = s.name ∧ (m.static = true ∨ s.static = true ∨ ¬ j6 m s)) (fun j => ((aA cl c).drop 1).length - j) 0 ⟨Nat.zero_le _, fh⟩ .su .su ?_
 rintro j ⟨hj, hb⟩
 by_cases hlt : j < ((aA cl c).drop 1).length
 ·have hm := aW.2 (cq (List.mem_of_mem_drop (b8 hlt)))
  have hl2 := ee (l := bK cl) (s := el ((aA cl c).drop 1) j)
  rw [bL] at hl2
  repeat' (first | refine Qc ?_ | (refine Ba ?_ ?_ <;> try exact Za) | refine af ?_ | refine aa ?_ | refine ai ?_ | refine aj ?_ | refine ag ?_ | refine ae ?_ | refine aG ?_ | refine pd ?_ | refine ay ?_ | (refine dW (aM (dA ?_))) | refine cH ?_ | refine pb ?_ | intro hc)
  refine aJ (fun i : Nat => [(3, .ptr 3 _ 0), (5, .ptr 5 _ 0), (7, pL 1 pS ((aA cl c).drop 1)), (8, .int .i64 j), (9, .ptr 9 _ 0), (10, .int .i64 i)]) (fun _ => [(3, some _, .cells (bh cl)), (5, some _, .cells (cL s)), (9, some _, .cells (ia (aY cl (el ((aA cl c).drop 1) j))))]) (fun i => i ≤ (aY cl (el ((aA cl c).drop 1) j)).methods.length ∧ ∀ i', i' < i → ¬ ((el (aY cl (el ((aA cl c).drop 1) j)).methods i').name = s.name ∧ ((el (aY cl (el ((aA cl c).drop 1) j)).methods i').static = true ∨ s.static = true ∨ ¬ j6 (el (aY cl (el ((aA cl c).drop 1) j)).methods i') s))) (fun i => (aY cl (el ((aA cl c).drop 1) j)).methods.length - i) 0 ⟨Nat.zero_le _, fh⟩ .su .su ?_
  rintro i ⟨hi, hb2⟩
  have fin : i < (aY cl (el ((aA cl c).drop 1) j)).methods.length → (el (aY cl (el ((aA cl c).drop 1) j)).methods i).name = s.name ∧ ((el (aY cl (el ((aA cl c).drop 1) j)).methods i).static = true ∨ s.static = true ∨ ¬ j6 (el (aY cl (el ((aA cl c).drop 1) j)).methods i) s) → zG cl c s := fun q1 q2 => ⟨_, b8 hlt, _, b8 q1, q2⟩
  repeat' (first | refine Qc ?_ | (refine Ba ?_ ?_ <;> try exact Za) | refine af ?_ | refine aa ?_ | refine ai ?_ | refine aj ?_ | refine ag ?_ | refine ae ?_ | refine aG ?_ | refine pd ?_ | refine ay ?_ | (refine dW (aM (vV (fun hc => ?_) fun hc => ?_))) | refine cH ?_ | refine pb ?_ | intro hc)
  ·exact E1 (kt (fin om ⟨am, Or.inl hc⟩))
  ·exact E1 (kt (fin om ⟨am, Or.inr (Or.inl hc)⟩))
  ·refine ⟨i + 1, by dsimp only; omega, ⟨om, fun i' hi' => ?_⟩, .su, .su⟩
   by_cases q : i' = i
   ·subst q; exact fun q => by rcases q.2 with q | q | q; exact absurd (q.symm.trans (by assumption : _ = false)) dc; exact absurd (q.symm.trans (by assumption : _ = false)) dc; exact q hc
   ·exact hb2 i' om
  ·exact E1 (kt (fin om ⟨am, Or.inr (Or.inr hc)⟩))
  ·refine ⟨i + 1, by dsimp only; omega, ⟨om, fun i' hi' => ?_⟩, .su, .su⟩
   by_cases q : i' = i
   ·subst q; exact fun q => hc q.1
   ·exact hb2 i' om
  ·refine ⟨j + 1, by dsimp only; omega, ⟨om, fun i' hi' => ?_⟩, .su, .su⟩
   by_cases q : i' = j
   ·subst q
    rintro ⟨m, hm, q⟩
    obtain ⟨x, hx, e⟩ := dn hm
    subst e
    exact hb2 x om q
   ·exact hb i' om
 ·repeat' (first | refine Qc ?_ | (refine Ba ?_ ?_ <;> try exact Za) | refine af ?_ | refine aa ?_ | refine ai ?_ | refine aj ?_ | refine ag ?_ | refine ae ?_ | refine aG ?_ | refine pd ?_ | refine ay ?_ | refine cH ?_ | refine pb ?_ | intro hc)
  exact E1 (kf (by rintro ⟨d, hd, q⟩; obtain ⟨i, hi, e⟩ := dn hd; subst e; exact hb i om q))
noncomputable def gX (cl : List aU) (i j : Nat) : Int :=
 if ¬ fy (el (el cl i).fields j).name then 5 else if ¬ sq cl (el (el cl i).fields j).ly then 8 else if ∃ k, k < j ∧ (el (el cl i).fields k).name = (el (el cl i).fields j).name then 7 else if (∃ r, cK cl (el cl i).cB (el (el cl i).fields j).name = some r) ∧ (el cl i).cB ≠ [] then 7 else 0
noncomputable def fR (cl : List aU) (i j : Nat) : Int :=
 if ¬ fy (el (el cl i).methods j).name then 5 else if ∃ k, k < j ∧ (el (el cl i).methods k).name = (el (el cl i).methods j).name then 7 else if 6 < (el (el cl i).methods j).params.length then 3 else if ¬ mZ cl (el (el cl i).methods j) = 0 then mZ cl (el (el cl i).methods j) else if zG cl (el cl i).name (el (el cl i).methods j) then 11 else 0
noncomputable def lz (cl : List aU) (i : Nat) : Int :=
 if ¬ fy (el cl i).name then 5 else if bl (bK cl) (el cl i).name ≠ i then 7 else if (el cl i).cB ≠ [] ∧ ¬ (el cl i).cB ∈ bK cl then 6 else if (b7 cl (el cl i).name).2 = true then 10 else if 16 < (el cl i).fields.length ∨ 16 < (el cl i).methods.length then 3 else if bB (gX cl i) (el cl i).fields.length ≠ 0 then bB (gX cl i) (el cl i).fields.length else bB (fR cl i) (el cl i).methods.length
noncomputable def fV (cl : List aU) : Int := if 64 < cl.length then 3 else bB (lz cl) cl.length
theorem iE {cl : List aU} {i : Nat} {K : PV → Prop} (ct : cl.length ≤ 64) (hi : i < cl.length) (k : K (.int .i64 (bB (gX cl i) (el cl i).fields.length))) : PF Tryz.prog X0 Mx 255 [.agg (bh cl), .int .i64 (i : Nat)] K := by
 refine Pf xY fun hnt => ?_
 repeat' (first | refine Qb ?_ | (refine ai ?_; intro hl) | (refine aj ?_; intro b) | (refine Ba ?_ ?_ <;> intro hc <;> try exact Zb) | refine pb ?_)
 refine aJ (fun j : Nat => [(1, .int .i64 (i : Nat)), (2, .ptr 2 _ 0), (5, pL 2 tI (el cl i).fields), (6, .int .i64 j)]) (fun _ => [(2, some _, .cells (bh cl))]) (fun j => j ≤ (el cl i).fields.length ∧ ∀ x, x < j → gX cl i x = 0) (fun j => (el cl i).fields.length - j) 0 ⟨Nat.zero_le _, fh⟩ .su .su ?_
 rintro j ⟨hj, hb⟩
 repeat' (first | refine Qb ?_ | (refine ai ?_; intro hl) | (refine aj ?_; intro b) | (refine Ba ?_ ?_ <;> intro hc <;> try exact Zb) | refine aG ?_ | refine pd ?_ | (refine aq (ao (dJ (fun hc => ?_) fun hc => ?_))) | (refine dW (aM (iT (fun hc => ?_) fun hc => ?_))) | refine pb ?_)
 ·refine aJ (fun m : Nat => [(1, .int .i64 (i : Nat)), (2, .ptr 2 _ 0), (5, pL 2 tI (el cl i).fields), (6, .int .i64 j), (7, .int .i64 m)]) (fun _ => [(2, some _, .cells (bh cl))]) (fun m => m ≤ j ∧ ∀ x, x < m → (el (el cl i).fields x).name ≠ (el (el cl i).fields j).name) (fun m => j - m) 0 ⟨Nat.zero_le _, fh⟩ .su .su ?_
  rintro m ⟨hm, hb2⟩
  repeat' (first | refine Qb ?_ | (refine ai ?_; intro hl) | (refine aj ?_; intro b) | (refine Ba ?_ ?_ <;> intro hc <;> try exact Zb) | refine aG ?_ | refine pd ?_ | (refine dW (aM (iT (fun hc => ?_) fun hc => ?_))) | (refine dW (aM (rL ct (fun c f hF => ?_) fun hF => ?_))) | refine pb ?_)
  ·have e : gX cl i j = 7 := by unfold gX; rw [if_neg (not_not.2 (by assumption)), if_neg (not_not.2 (by assumption)), if_pos ⟨m, by omega, hc⟩]
   rw [bc (by omega) hb e (by decide)] at k
   exact E1 k
  ·refine ⟨m + 1, by dsimp only; omega, ⟨om, fun x hx => ?_⟩, .su, .su⟩
   by_cases q : x = m
   ·subst q; exact hc
   ·exact hb2 x om
  all_goals have hne : ¬ ∃ k, k < j ∧ (el (el cl i).fields k).name = (el (el cl i).fields j).name := fun ⟨y, hy, q⟩ => hb2 y om q
  ·refine ⟨j + 1, by dsimp only; omega, ⟨om, fun i hi => ?_⟩, .su, .su⟩
   by_cases q : i = j
   ·subst q; unfold gX; rw [if_neg (not_not.2 (by assumption)), if_neg (not_not.2 (by assumption)), if_neg hne, if_neg fun q => q.2 (by assumption)]
   ·exact hb i om
  ·have e : gX cl i j = 7 := by unfold gX; rw [if_neg (not_not.2 (by assumption)), if_neg (not_not.2 (by assumption)), if_neg hne, if_pos ⟨⟨_, hF⟩, hc⟩]
   rw [bc (by omega) hb e (by decide)] at k
   exact E1 k
  ·refine ⟨j + 1, by dsimp only; omega, ⟨om, fun i hi => ?_⟩, .su, .su⟩
   by_cases q : i = j
   ·subst q; unfold gX; rw [if_neg (not_not.2 (by assumption)), if_neg (not_not.2 (by assumption)), if_neg hne, if_neg fun q => by rw [hF] at q; exact absurd q.1 (by simp)]
   ·exact hb i om
 ·have e : gX cl i j = 8 := by unfold gX; rw [if_neg (not_not.2 (by assumption)), if_pos (by assumption)]
  rw [bc (by omega) hb e (by decide)] at k
  exact E1 k
 ·have e : gX cl i j = 5 := by unfold gX; rw [if_pos (by assumption)]
  rw [bc (by omega) hb e (by decide)] at k
  exact E1 k
 ·rw [bY fun x hx => hb x (by omega)] at k
  exact E1 k
theorem gT {cl : List aU} {i : Nat} {K : PV → Prop} (ct : cl.length ≤ 64) (hi : i < cl.length) (k : K (.int .i64 (bB (fR cl i) (el cl i).methods.length))) : PF Tryz.prog X0 Mx 256 [.agg (bh cl), .int .i64 (i : Nat)] K := by
 refine Pf vX fun hnt => ?_
 repeat' (first | refine Qb ?_ | (refine ai ?_; intro hl) | (refine aj ?_; intro b) | (refine Ba ?_ ?_ <;> intro hc <;> try exact Zb) | refine pb ?_)
 refine aJ (fun j : Nat => [(1, .int .i64 (i : Nat)), (2, .ptr 2 _ 0), (5, pL 4 cL (el cl i).methods), (6, .int .i64 j)]) (fun _ => [(2, some _, .cells (bh cl))]) (fun j => j ≤ (el cl i).methods.length ∧ ∀ x, x < j → fR cl i x = 0) (fun j => (el cl i).methods.length - j) 0 ⟨Nat.zero_le _, fh⟩ .su .su ?_
 rintro j ⟨hj, hb⟩
 repeat' (first | refine Qb ?_ | (refine ai ?_; intro hl) | (refine aj ?_; intro b) | (refine Ba ?_ ?_ <;> intro hc <;> try exact Zb) | refine aG ?_ | refine pd ?_ | (refine aq (ao (dJ (fun hc => ?_) fun hc => ?_))) | refine dW (aM (rO ?_)) | (refine dW (aM (lh ct (fun hc => ?_) fun hc => ?_))) | refine pb ?_)
 ·refine aJ (fun m : Nat => [(1, .int .i64 (i : Nat)), (2, .ptr 2 _ 0), (5, pL 4 cL (el cl i).methods), (6, .int .i64 j), (7, .int .i64 m)]) (fun _ => [(2, some _, .cells (bh cl))]) (fun m => m ≤ j ∧ ∀ x, x < m → (el (el cl i).methods x).name ≠ (el (el cl i).methods j).name) (fun m => j - m) 0 ⟨Nat.zero_le _, fh⟩ .su .su ?_
  rintro m ⟨hm, hb2⟩
  repeat' (first | refine Qb ?_ | (refine ai ?_; intro hl) | (refine aj ?_; intro b) | (refine Ba ?_ ?_ <;> intro hc <;> try exact Zb) | refine aG ?_ | refine pd ?_ | refine dW (aM (rO ?_)) | (refine dW (aM (lh ct (fun hc => ?_) fun hc => ?_))) | refine pb ?_)
  ·have e : fR cl i j = 7 := by unfold fR; rw [if_neg (not_not.2 (by assumption)), if_pos ⟨m, by omega, hc⟩]
   rw [bc (by omega) hb e (by decide)] at k
   exact E1 k
  ·refine ⟨m + 1, by dsimp only; omega, ⟨om, fun x hx => ?_⟩, .su, .su⟩
   by_cases q : x = m
   ·subst q; exact hc
   ·exact hb2 x om
  all_goals have hne : ¬ ∃ k, k < j ∧ (el (el cl i).methods k).name = (el (el cl i).methods j).name := fun ⟨y, hy, q⟩ => hb2 y om q
  ·have e : fR cl i j = 3 := by unfold fR; (repeat (first | rw [if_pos (by exact Ia)] | rw [if_neg (by exact Ib)]))
   rw [bc (by omega) hb e (by decide)] at k
   exact E1 k
  ·have e : fR cl i j = 11 := by unfold fR; (repeat (first | rw [if_pos (by exact Ia)] | rw [if_neg (by exact Ib)]))
   rw [bc (by omega) hb e (by decide)] at k
   exact E1 k
  ·refine ⟨j + 1, by dsimp only; omega, ⟨om, fun i hi => ?_⟩, .su, .su⟩
   by_cases q : i = j
   ·subst q; unfold fR; (repeat (first | rw [if_pos (by exact Ia)] | rw [if_neg (by exact Ib)]))
   ·exact hb i om
  ·have e : fR cl i j = mZ cl (el (el cl i).methods j) := by unfold fR; (repeat (first | rw [if_pos (by exact Ia)] | rw [if_neg (by exact Ib)]))
   rw [bc (by omega) hb e (by assumption)] at k
   exact E1 k
 ·have e : fR cl i j = 5 := by unfold fR; rw [if_pos (by assumption)]
  rw [bc (by omega) hb e (by decide)] at k
  exact E1 k
 ·rw [bY fun x hx => hb x (by omega)] at k
  exact E1 k
theorem zY {cl : List aU} {i : Nat} {K : PV → Prop} (ct : cl.length ≤ 64) (hi : i < cl.length) (k : K (.int .i64 (lz cl i))) : PF Tryz.prog X0 Mx 222 [.agg (bh cl), .int .i64 (i : Nat)] K := by
 refine Pf zZ fun hnt => ?_
 repeat' (first | refine Qa ?_ | (refine Ba ?_ ?_ <;> try exact Za) | (refine aq (ao (dJ (fun hc => ?_) fun hc => ?_))) | refine aq (ao (dA ?_)) | refine aq (ao (lU ct ?_)) | refine aq (ao (iE ct hi ?_)) | refine aq (ao (gT ct hi ?_)) | intro hc)
 case refine_1.refine_2 => unfold lz at k; replace k := Ik k; exact E1 k
 case refine_2 => unfold lz at k; replace k := Ik k; exact E1 k
 case refine_1.refine_1.refine_2.refine_1 =>
  have hns : (el cl i).cB ≠ [] ∧ ¬ (el cl i).cB ∈ bK cl := ⟨am, fun q => by have := aW.2 q; omega⟩
  unfold lz at k; replace k := Ik k; exact E1 k
 all_goals have hns : ¬ ((el cl i).cB ≠ [] ∧ ¬ (el cl i).cB ∈ bK cl) := by first | exact fun q => q.1 am | exact fun q => q.2 (aW.1 om)
 all_goals
  cases hcy : (b7 cl (el cl i).name).2
  repeat' (first | refine Qa ?_ | (refine Ba ?_ ?_ <;> try exact Za) | refine aq (ao (iE ct hi ?_)) | refine aq (ao (gT ct hi ?_)) | intro hc)
 all_goals have hq : ((b7 cl (el cl i).name).2 = true) = False ∨ (b7 cl (el cl i).name).2 = true := by rw [hcy]; simp
 all_goals (unfold lz at k; rw [hcy] at k; replace k := Ik k; exact E1 k)
theorem z6 {cl : List aU} {K : PV → Prop} (k : ∀ i, K (.bO [.int .i64 i, .int .i64 (fV cl)])) : PF Tryz.prog X0 Mx 185 [.agg (bh cl)] K := by
 refine Pf z7 fun hnt => ?_
 repeat' (first | refine Qa ?_ | (refine Ba ?_ ?_ <;> try exact Za) | intro hc)
 ·specialize k (-1); unfold fV at k; replace k := Ik k; exact E1 k
 refine aJ (fun j : Nat => [(1, .ptr 1 _ 0), (4, .int .i64 j)]) (fun _ => [(1, some _, .cells (bh cl))]) (fun j => j ≤ cl.length ∧ ∀ i, i < j → lz cl i = 0) (fun j => cl.length - j) 0 ⟨Nat.zero_le _, fh⟩ .su .su ?_
 rintro j ⟨hj, hb⟩
 repeat' (first | refine Qa ?_ | (refine Ba ?_ ?_ <;> try exact Za) | refine aq (ao (zY ?_ ?_ ?_)) | omega | intro hc)
 ·refine ⟨j + 1, by dsimp only; omega, ⟨om, fun i hi => ?_⟩, .su, .su⟩
  by_cases q : i = j
  ·subst q; assumption
  ·exact hb i om
 ·have e := bc (n := cl.length) om hb rfl am
  specialize k (j : Nat); unfold fV at k; rw [if_neg (by omega), e] at k; exact E1 k
 ·specialize k 0; unfold fV at k; rw [if_neg (by omega), bY fun x hx => hb x (by omega)] at k; exact E1 k
def pa : List Nat := [110, 117, 108, 108]
def iD (cl : List aU) (s t : List Nat) : Prop := s = t ∨ s = pa ∧ t ≠ gZ ∨ s ≠ pa ∧ s ∈ bK cl ∧ t ∈ bK cl ∧ t ∈ aA cl s
theorem gG {cl : List aU} {s t : List Nat} {K : PV → Prop} (ct : cl.length ≤ 64) (kt : iD cl s t → K (.bool true)) (kf : ¬ iD cl s t → K (.bool false)) : PF Tryz.prog X0 Mx 260 [.agg (bh cl), .str s, .str t] K := by
 refine Pf Ci fun hnt => ?_
 repeat' (first | refine pg ?_ | refine aH ?_ | (refine aj ?_; intro b) | (refine aQ ?_ ?_ <;> intro hc <;> try first | contradiction | omega) | refine ag ?_ | (refine aq (ao (gR (fun hc => ?_) fun hc => ?_))) | (refine aq (ao (lV ct (fun hc => ?_) fun hc => ?_))) | refine pc ?_ | refine pt ?_)
 all_goals first
  | exact E1 (kt (by first | exact Or.inl am | exact Or.inr (Or.inl ⟨am, am⟩) | exact Or.inr (Or.inr ⟨am, am, am, am⟩)))
  | exact E1 (kf (by rintro (q | ⟨q1, q2⟩ | ⟨q1, q2, q3, q4⟩) <;> first | exact absurd q am | exact absurd q1 am | exact absurd q2 am | exact absurd q3 am | exact absurd q4 am | exact absurd am q1 | exact absurd am q2))
def E0 (x : bJ) : Prop := (hasB x.op 100 = true ∨ x.dst = 0) ∧ (hasB x.op 97 = true ∨ x.a = 0) ∧ (hasB x.op 98 = true ∨ x.b = 0) ∧ (hasB x.op 110 = true ∨ x.n = 0) ∧ (hasB x.op 99 = true ∨ x.cls = []) ∧ (hasB x.op 109 = true ∨ x.name = []) ∧ (hasB x.op 108 = true ∨ x.args.length = 0) ∧ (hasB x.op 103 = true ∨ x.goto = 0)
theorem xZ {x : bJ} {K : PV → Prop} (kt : E0 x → K (.bool true)) (kf : ¬ E0 x → K (.bool false)) : PF Tryz.prog X0 Mx 226 [.agg (fw x)] K := by
 refine Pf x5 fun hnt => ?_
 repeat' (first | refine pg ?_ | refine aH ?_ | refine af ?_ | (refine ai ?_; intro hl) | (refine aj ?_; intro b) | (refine aQ ?_ ?_ <;> intro hc <;> try first | contradiction | omega) | refine pc ?_ | refine pt ?_)
 refine cA 5 12 (hasB x.op 100 = true ∨ x.dst = 0) (fun b hb0 => ?_) (fun J => ?_)
 rotate_left
 ·repeat' (first | (refine J _ _ .su rfl ?_) | refine pg ?_ | refine aH ?_ | refine af ?_ | (refine ai ?_; intro hl) | (refine aj ?_; intro b) | (refine aQ ?_ ?_ <;> intro hc <;> try first | contradiction | omega) | (refine aq (ao (c6 (fun hc => ?_) fun hc => ?_))) | refine pc ?_ | refine pt ?_)
  all_goals first | (simp_all; done) | (simp_all; omega)
 cases b
 ·repeat' (first | refine pg ?_ | refine aH ?_ | refine af ?_ | (refine ai ?_; intro hl) | (refine aj ?_; intro b) | (refine aQ ?_ ?_ <;> intro hc <;> try first | contradiction | omega) | refine pc ?_ | refine pt ?_)
  exact E1 (kf fun q => by have q2 := hb0.2 q.1; cases q2)
 repeat' (first | refine pg ?_ | refine aH ?_ | refine af ?_ | (refine ai ?_; intro hl) | (refine aj ?_; intro b) | (refine aQ ?_ ?_ <;> intro hc <;> try first | contradiction | omega) | refine pc ?_ | refine pt ?_)
 refine cA 6 21 (hasB x.op 97 = true ∨ x.a = 0) (fun b hb1 => ?_) (fun J => ?_)
 rotate_left
 ·repeat' (first | (refine J _ _ .su rfl ?_) | refine pg ?_ | refine aH ?_ | refine af ?_ | (refine ai ?_; intro hl) | (refine aj ?_; intro b) | (refine aQ ?_ ?_ <;> intro hc <;> try first | contradiction | omega) | (refine aq (ao (c6 (fun hc => ?_) fun hc => ?_))) | refine pc ?_ | refine pt ?_)
  all_goals first | (simp_all; done) | (simp_all; omega)
 cases b
 ·repeat' (first | refine pg ?_ | refine aH ?_ | refine af ?_ | (refine ai ?_; intro hl) | (refine aj ?_; intro b) | (refine aQ ?_ ?_ <;> intro hc <;> try first | contradiction | omega) | refine pc ?_ | refine pt ?_)
  exact E1 (kf fun q => by have q2 := hb1.2 q.2.1; cases q2)
 repeat' (first | refine pg ?_ | refine aH ?_ | refine af ?_ | (refine ai ?_; intro hl) | (refine aj ?_; intro b) | (refine aQ ?_ ?_ <;> intro hc <;> try first | contradiction | omega) | refine pc ?_ | refine pt ?_)
 refine cA 6 30 (hasB x.op 98 = true ∨ x.b = 0) (fun b hb2 => ?_) (fun J => ?_)
 rotate_left
 ·repeat' (first | (refine J _ _ .su rfl ?_) | refine pg ?_ | refine aH ?_ | refine af ?_ | (refine ai ?_; intro hl) | (refine aj ?_; intro b) | (refine aQ ?_ ?_ <;> intro hc <;> try first | contradiction | omega) | (refine aq (ao (c6 (fun hc => ?_) fun hc => ?_))) | refine pc ?_ | refine pt ?_)
  all_goals first | (simp_all; done) | (simp_all; omega)
 cases b
 ·repeat' (first | refine pg ?_ | refine aH ?_ | refine af ?_ | (refine ai ?_; intro hl) | (refine aj ?_; intro b) | (refine aQ ?_ ?_ <;> intro hc <;> try first | contradiction | omega) | refine pc ?_ | refine pt ?_)
  exact E1 (kf fun q => by have q2 := hb2.2 q.2.2.1; cases q2)
 repeat' (first | refine pg ?_ | refine aH ?_ | refine af ?_ | (refine ai ?_; intro hl) | (refine aj ?_; intro b) | (refine aQ ?_ ?_ <;> intro hc <;> try first | contradiction | omega) | refine pc ?_ | refine pt ?_)
 refine cA 6 39 (hasB x.op 110 = true ∨ x.n = 0) (fun b hb3 => ?_) (fun J => ?_)
 rotate_left
 ·repeat' (first | (refine J _ _ .su rfl ?_) | refine pg ?_ | refine aH ?_ | refine af ?_ | (refine ai ?_; intro hl) | (refine aj ?_; intro b) | (refine aQ ?_ ?_ <;> intro hc <;> try first | contradiction | omega) | (refine aq (ao (c6 (fun hc => ?_) fun hc => ?_))) | refine pc ?_ | refine pt ?_)
  all_goals first | (simp_all; done) | (simp_all; omega)
 cases b
 ·repeat' (first | refine pg ?_ | refine aH ?_ | refine af ?_ | (refine ai ?_; intro hl) | (refine aj ?_; intro b) | (refine aQ ?_ ?_ <;> intro hc <;> try first | contradiction | omega) | refine pc ?_ | refine pt ?_)
  exact E1 (kf fun q => by have q2 := hb3.2 q.2.2.2.1; cases q2)
 repeat' (first | refine pg ?_ | refine aH ?_ | refine af ?_ | (refine ai ?_; intro hl) | (refine aj ?_; intro b) | (refine aQ ?_ ?_ <;> intro hc <;> try first | contradiction | omega) | refine pc ?_ | refine pt ?_)
 refine cA 6 48 (hasB x.op 99 = true ∨ x.cls = []) (fun b hb4 => ?_) (fun J => ?_)
 rotate_left
 ·repeat' (first | (refine J _ _ .su rfl ?_) | refine pg ?_ | refine aH ?_ | refine af ?_ | (refine ai ?_; intro hl) | (refine aj ?_; intro b) | (refine aQ ?_ ?_ <;> intro hc <;> try first | contradiction | omega) | (refine aq (ao (c6 (fun hc => ?_) fun hc => ?_))) | refine pc ?_ | refine pt ?_)
  all_goals first | (simp_all; done) | (simp_all; omega)
 cases b
 ·repeat' (first | refine pg ?_ | refine aH ?_ | refine af ?_ | (refine ai ?_; intro hl) | (refine aj ?_; intro b) | (refine aQ ?_ ?_ <;> intro hc <;> try first | contradiction | omega) | refine pc ?_ | refine pt ?_)
  exact E1 (kf fun q => by have q2 := hb4.2 q.2.2.2.2.1; cases q2)
 repeat' (first | refine pg ?_ | refine aH ?_ | refine af ?_ | (refine ai ?_; intro hl) | (refine aj ?_; intro b) | (refine aQ ?_ ?_ <;> intro hc <;> try first | contradiction | omega) | refine pc ?_ | refine pt ?_)
 refine cA 6 57 (hasB x.op 109 = true ∨ x.name = []) (fun b hb5 => ?_) (fun J => ?_)
 rotate_left
 ·repeat' (first | (refine J _ _ .su rfl ?_) | refine pg ?_ | refine aH ?_ | refine af ?_ | (refine ai ?_; intro hl) | (refine aj ?_; intro b) | (refine aQ ?_ ?_ <;> intro hc <;> try first | contradiction | omega) | (refine aq (ao (c6 (fun hc => ?_) fun hc => ?_))) | refine pc ?_ | refine pt ?_)
  all_goals first | (simp_all; done) | (simp_all; omega)
 cases b
 ·repeat' (first | refine pg ?_ | refine aH ?_ | refine af ?_ | (refine ai ?_; intro hl) | (refine aj ?_; intro b) | (refine aQ ?_ ?_ <;> intro hc <;> try first | contradiction | omega) | refine pc ?_ | refine pt ?_)
  exact E1 (kf fun q => by have q2 := hb5.2 q.2.2.2.2.2.1; cases q2)
 repeat' (first | refine pg ?_ | refine aH ?_ | refine af ?_ | (refine ai ?_; intro hl) | (refine aj ?_; intro b) | (refine aQ ?_ ?_ <;> intro hc <;> try first | contradiction | omega) | refine pc ?_ | refine pt ?_)
 refine cA 7 67 (hasB x.op 108 = true ∨ x.args.length = 0) (fun b hb6 => ?_) (fun J => ?_)
 rotate_left
 ·repeat' (first | (refine J _ _ .su rfl ?_) | refine pg ?_ | refine aH ?_ | refine af ?_ | (refine ai ?_; intro hl) | (refine aj ?_; intro b) | (refine aQ ?_ ?_ <;> intro hc <;> try first | contradiction | omega) | (refine aq (ao (c6 (fun hc => ?_) fun hc => ?_))) | refine pc ?_ | refine pt ?_)
  all_goals first | (simp_all; done) | (simp_all; omega)
 cases b
 ·repeat' (first | refine pg ?_ | refine aH ?_ | refine af ?_ | (refine ai ?_; intro hl) | (refine aj ?_; intro b) | (refine aQ ?_ ?_ <;> intro hc <;> try first | contradiction | omega) | refine pc ?_ | refine pt ?_)
  exact E1 (kf fun q => by have q2 := hb6.2 q.2.2.2.2.2.2.1; cases q2)
 repeat' (first | refine pg ?_ | refine aH ?_ | refine af ?_ | (refine ai ?_; intro hl) | (refine aj ?_; intro b) | (refine aQ ?_ ?_ <;> intro hc <;> try first | contradiction | omega) | refine pc ?_ | refine pt ?_)
 refine cA 6 76 (hasB x.op 103 = true ∨ x.goto = 0) (fun b hb7 => ?_) (fun J => ?_)
 rotate_left
 ·repeat' (first | (refine J _ _ .su rfl ?_) | refine pg ?_ | refine aH ?_ | refine af ?_ | (refine ai ?_; intro hl) | (refine aj ?_; intro b) | (refine aQ ?_ ?_ <;> intro hc <;> try first | contradiction | omega) | (refine aq (ao (c6 (fun hc => ?_) fun hc => ?_))) | refine pc ?_ | refine pt ?_)
  all_goals first | (simp_all; done) | (simp_all; omega)
 cases b
 ·repeat' (first | refine pg ?_ | refine aH ?_ | refine af ?_ | (refine ai ?_; intro hl) | (refine aj ?_; intro b) | (refine aQ ?_ ?_ <;> intro hc <;> try first | contradiction | omega) | refine pc ?_ | refine pt ?_)
  exact E1 (kf fun q => by have q2 := hb7.2 q.2.2.2.2.2.2.2; cases q2)
 repeat' (first | refine pg ?_ | refine aH ?_ | refine af ?_ | (refine ai ?_; intro hl) | (refine aj ?_; intro b) | (refine aQ ?_ ?_ <;> intro hc <;> try first | contradiction | omega) | refine pc ?_ | refine pt ?_)
 exact E1 (kt ⟨hb0.1 rfl, hb1.1 rfl, hb2.1 rfl, hb3.1 rfl, hb4.1 rfl, hb5.1 rfl, hb6.1 rfl, hb7.1 rfl⟩)
end
end Go.Proofs.YtgaihilgffficaaGreatDoor.Ev
