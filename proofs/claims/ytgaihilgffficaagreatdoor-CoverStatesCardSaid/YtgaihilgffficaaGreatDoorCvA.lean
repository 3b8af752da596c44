/- CoverStates, part 25 -/
import Derived.Test.YtgaihilgffficaaGreatDoorCvS
set_option linter.all false
set_option maxHeartbeats 4000000
namespace Go.Proofs.YtgaihilgffficaaGreatDoor.Ev
open Go
structure ju where
 name : List Nat
 ly : List Nat
 deriving Inhabited, DecidableEq
structure cz where
 name : List Nat
 static : Bool
 params : List (List Nat)
 result : List Nat
 deriving Inhabited, DecidableEq
structure aU where
 name : List Nat
 cB : List Nat
 fields : List ju
 methods : List cz
 deriving Inhabited
structure bJ where
 op : Int
 dst : Int
 a : Int
 b : Int
 n : Int
 cls : List Nat
 name : List Nat
 args : List Int
 goto : Int
 xR : Int
 deriving Inhabited
structure dN where
 cls : List Nat
 name : List Nat
 static : Bool
 params : Int
 vars : List ju
 result : List Nat
 code : List bJ
 deriving Inhabited
structure aK where
 cl : List aU
 fns : List dN
 main : Int
 deriving Inhabited
def tI (x : ju) : List PV := [.str x.name, .str x.ly]
def cL (x : cz) : List PV := [.str x.name, .bool x.static, pL 1 pS x.params, .str x.result]
def ia (x : aU) : List PV := [.str x.name, .str x.cB, pL 2 tI x.fields, pL 4 cL x.methods]
def fw (x : bJ) : List PV := [.int .i64 x.op, .int .i64 x.dst, .int .i64 x.a, .int .i64 x.b, .int .i64 x.n, .str x.cls, .str x.name, pL 1 pI x.args, .int .i64 x.goto, .int .i64 x.xR]
def lA (x : dN) : List PV := [.str x.cls, .str x.name, .bool x.static, .int .i64 x.params, pL 2 tI x.vars, .str x.result, pL 10 fw x.code]
def bh (l : List aU) : List PV := [pL 4 ia l]
def bQ (u : aK) : List PV := [pL 4 ia u.cl, pL 7 lA u.fns, .int .i64 u.main]
def bl : List (List Nat) → List Nat → Int
 | [], _ => -1
 | x :: l, s => if x = s then 0 else if bl l s < 0 then -1 else bl l s + 1
theorem dz : ∀ (l : List (List Nat)) (s : List Nat), (bl l s = -1 ∧ ∀ i, i < l.length → el l i ≠ s) ∨ (∃ j : Nat, bl l s = (j : Int) ∧ j < l.length ∧ el l j = s ∧ ∀ i, i < j → el l i ≠ s)
 | [], s => Or.inl ⟨rfl, fun i hi => absurd hi (by simp)⟩
 | x :: l, s => by
  by_cases hx : x = s
  ·exact Or.inr ⟨0, by simp [bl, hx], by simp, by simpa [el] using hx, fh⟩
  ·rcases dz l s with ⟨h1, h2⟩ | ⟨j, h1, h2, h3, h4⟩
   ·refine Or.inl ⟨by simp [bl, hx, h1], fun i hi => ?_⟩
    cases i with
    | zero => simpa [el] using hx
    | succ i => simpa [el] using h2 i (by simpa using hi)
   ·refine Or.inr ⟨j + 1, ?_, by simpa using h2, by simpa [el] using h3, fun i hi => ?_⟩
    ·have : ¬ (j : Int) < 0 := by omega
     simp only [bl, if_neg hx, h1, if_neg this]
     omega
    ·cases i with
     | zero => simpa [el] using hx
     | succ i => simpa [el] using h4 i om
theorem lT {l : List (List Nat)} {s : List Nat} {j : Nat} (hj : j < l.length) (he : el l j = s) (hb : ∀ i, i < j → el l i ≠ s) : bl l s = (j : Int) := by
 rcases dz l s with ⟨_, h2⟩ | ⟨i, h1, h2, h3, h4⟩
 ·exact absurd he (h2 j hj)
 ·rcases Nat.lt_trichotomy i j with q | q | q
  ·exact absurd h3 (hb i q)
  ·rw [h1, q]
  ·exact absurd he (h4 j q)
theorem o5 {l : List (List Nat)} {s : List Nat} (hb : ∀ i, i < l.length → el l i ≠ s) : bl l s = -1 := by
 rcases dz l s with ⟨h1, _⟩ | ⟨i, h1, h2, h3, h4⟩
 ·exact h1
 ·exact absurd h3 (hb i h2)
theorem ee {l : List (List Nat)} {s : List Nat} : bl l s < l.length ∧ -1 ≤ bl l s := by
 rcases dz l s with ⟨h1, _⟩ | ⟨i, h1, h2, _, _⟩ <;> omega
theorem aW {l : List (List Nat)} {s : List Nat} : 0 ≤ bl l s ↔ s ∈ l := by
 rcases dz l s with ⟨h1, h2⟩ | ⟨i, h1, h2, h3, _⟩
 ·refine ⟨fun q => by omega, fun q => ?_⟩
  obtain ⟨i, hi, e⟩ := List.mem_iff_getElem.1 q
  exact absurd (by simpa [el, hi] using e) (h2 i hi)
 ·exact ⟨fun _ => h3 ▸ b8 h2, fun _ => by omega⟩
theorem j7 {l : List (List Nat)} {s : List Nat} (h : 0 ≤ bl l s) : (bl l s).toNat < l.length ∧ el l (bl l s).toNat = s := by
 rcases dz l s with ⟨h1, _⟩ | ⟨i, h1, h2, h3, _⟩
 ·omega
 ·rw [h1]; exact ⟨h2, h3⟩
def bK (cl : List aU) : List (List Nat) := cl.map aU.name
theorem qE {cl : List aU} {i : Nat} (h : i < cl.length) : el (bK cl) i = (el cl i).name := cQ h
theorem bL {cl : List aU} : (bK cl).length = cl.length := by simp [bK]
theorem dA {cl : List aU} {s : List Nat} {K : PV → Prop} (k : K (.int .i64 (bl (bK cl) s))) : PF Tryz.prog X0 Mx 190 [.agg (bh cl), .str s] K := by
 refine Pf B6 fun hnt => ?_
 repeat' (first | refine Qb ?_ | (refine ai ?_; intro hl) | (refine aj ?_; intro b) | (refine Ba ?_ ?_ <;> intro hc <;> try exact Zb) | refine pb ?_)
 refine aJ (ι := Nat) (fun j => [(1, .str s), (2, .ptr 2 b 0), (5, .int .i64 j)]) (fun _ => [(2, some b, .cells (bh cl))]) (fun j => j ≤ cl.length ∧ ∀ i, i < j → el (bK cl) i ≠ s) (fun j => cl.length - j) 0 ⟨Nat.zero_le _, fh⟩ .su .su ?_
 rintro j ⟨hj, hb⟩
 repeat' (first | refine Qb ?_ | (refine ai ?_; intro hl) | (refine aj ?_; intro b) | (refine Ba ?_ ?_ <;> intro hc <;> try exact Zb) | refine pb ?_)
 ·refine E1 ?_; rwa [lT (j := j) (by rw [bL]; omega) ((qE (by omega)).trans hc) hb] at k
 ·refine ⟨j + 1, by dsimp only; omega, ⟨om, fun i hi => ?_⟩, .su, .su⟩
  by_cases q : i = j
  ·subst q; rw [qE (by omega)]; exact hc
  ·exact hb i om
 ·refine E1 ?_; rwa [o5 fun i hi => hb i (by rw [bL] at hi; omega)] at k
theorem zL {l : List (List Nat)} {s : List Nat} {K : PV → Prop} (kt : s ∈ l → K (.bool true)) (kf : ¬ s ∈ l → K (.bool false)) : PF Tryz.prog X0 Mx 66 [pL 1 pS l, .str s] K := by
 refine Pf GX fun hnt => ?_
 repeat' (first | refine Qa ?_ | (refine Ba ?_ ?_ <;> try exact Za) | intro hc)
 refine aJ (ι := Nat) (fun j => [(0, pL 1 pS l), (1, .str s), (5, .int .i64 j)]) (fun _ => []) (fun j => j ≤ l.length ∧ ∀ i, i < j → el l i ≠ s) (fun j => l.length - j) 0 ⟨Nat.zero_le _, fh⟩ .su (.nil) ?_
 rintro j ⟨hj, hb⟩
 repeat' (first | refine Qa ?_ | (refine Ba ?_ ?_ <;> try exact Za) | intro hc)
 ·exact E1 (kt (by rw [← hc]; exact b8 om))
 ·refine ⟨j + 1, by dsimp only; omega, ⟨om, fun i hi => ?_⟩, .su, (.nil)⟩
  by_cases q : i = j
  ·subst q; exact hc
  ·exact hb i om
 ·exact E1 (kf fun q => by obtain ⟨i, hi, e⟩ := List.mem_iff_getElem.1 q; exact hb i om (by simpa [el, hi] using e))
theorem gR {cl : List aU} {s : List Nat} {K : PV → Prop} (kt : s ∈ bK cl → K (.bool true)) (kf : ¬ s ∈ bK cl → K (.bool false)) : PF Tryz.prog X0 Mx 259 [.agg (bh cl), .str s] K := by
 refine Pf vN fun hnt => ?_
 repeat' (first | refine Qa ?_ | (refine Ba ?_ ?_ <;> try exact Za) | refine aq (ao (dA ?_)) | intro hc)
 ·exact E1 (kt (aW.1 hc))
 ·exact E1 (kf fun q => hc (aW.2 q))
def gZ : List Nat := [105, 110, 116]
theorem iT {cl : List aU} {s : List Nat} {K : PV → Prop} (kt : s = gZ ∨ s ∈ bK cl → K (.bool true)) (kf : ¬ (s = gZ ∨ s ∈ bK cl) → K (.bool false)) : PF Tryz.prog X0 Mx 224 [.agg (bh cl), .str s] K := by
 refine Pf B7 fun hnt => ?_
 repeat' (first | refine Qa ?_ | (refine Ba ?_ ?_ <;> try exact Za) | refine aq (ao (dA ?_)) | intro hc)
 ·exact E1 (kt (Or.inl hc))
 ·exact E1 (kt (Or.inr (aW.1 am)))
 ·exact E1 (kf fun q => q.elim am fun q => (by have := aW.2 q; contradiction))
def dm (cl : List aU) (s : List Nat) : List Nat := (el cl (bl (bK cl) s).toNat).cB
def bA (cl : List aU) : Nat → List (List Nat) → List Nat → List (List Nat) × Bool
 | 0, out, _ => (out, false)
 | n + 1, out, s => if bl (bK cl) s < 0 then (out, false) else if s ∈ out then (out, true) else if dm cl s = [] then (out ++ [s], false) else bA cl n (out ++ [s]) (dm cl s)
def b7 (cl : List aU) (s : List Nat) : List (List Nat) × Bool := bA cl (cl.length + 1) [] s
def aA (cl : List aU) (s : List Nat) : List (List Nat) := (b7 cl s).1
def lx (ns out : List (List Nat)) : Nat := ns.countP fun x => decide (¬ x ∈ out)
theorem oY {ns out : List (List Nat)} : lx ns out ≤ ns.length := List.countP_le_length
theorem kH : ∀ {ns out : List (List Nat)} {s : List Nat}, s ∈ ns → ¬ s ∈ out → lx ns (out ++ [s]) < lx ns out
 | x :: ns, out, s, hs, ho => by
  have mono : ∀ l : List (List Nat), lx l (out ++ [s]) ≤ lx l out := fun l => List.countP_mono_left fun y _ hy => by
   simp only [decide_eq_true_eq] at hy ⊢
   exact fun q => hy (by simp [q])
  by_cases e : x = s
  ·subst e
   have h1 : lx (x :: ns) (out ++ [x]) = lx ns (out ++ [x]) := by unfold lx; rw [List.countP_cons]; simp
   have h2 : lx (x :: ns) out = lx ns out + 1 := by unfold lx; rw [List.countP_cons]; simp [ho]
   have := mono ns
   omega
  ·have hs' : s ∈ ns := by
     rcases List.mem_cons.1 hs with q | q
     ·exact absurd q.symm e
     ·exact q
   have ih := kH (ns := ns) hs' ho
   unfold lx at ih ⊢
   rw [List.countP_cons, List.countP_cons]
   by_cases q : x ∈ out
   ·simp only [List.mem_append, q, true_or, not_true_eq_false, decide_false]
    simpa using ih
   ·have : ¬ x ∈ out ++ [s] := by simp [q, e]
    simp only [this, q, not_false_eq_true, decide_true, if_true]
    omega
structure SM where
 m : Nat
 out : List (List Nat)
 s : List Nat
 bp : Option Nat
theorem lU {cl : List aU} {s : List Nat} {K : PV → Prop} (ct : cl.length ≤ 64) (k : K (.bO [pL 1 pS (b7 cl s).1, .bool (b7 cl s).2])) : PF Tryz.prog X0 Mx 124 [.agg (bh cl), .str s] K := by
 refine Pf zM fun hnt => ?_
 repeat' (first | refine Qb ?_ | (refine aj ?_; intro b) | (refine Ba ?_ ?_ <;> intro hc <;> try exact Zb) | refine aq (ao (dA ?_)) | refine pb ?_)
 refine aJ (ι := SM) (fun q => [(1, .str q.s), (2, .ptr 2 b 0), (6, oL 23 q.bp 1 q.out), (7, .int .i64 (bl (bK cl) q.s))]) (fun q => [(2, some b, .cells (bh cl)), (23, q.bp, aL 1 pS q.out)]) (fun q => b7 cl s = bA cl q.m q.out q.s ∧ lx (bK cl) q.out < q.m ∧ q.out.length + lx (bK cl) q.out ≤ cl.length) (fun q => q.m) ⟨cl.length + 1, [], s, none⟩ ⟨rfl, by have := oY (ns := bK cl) (out := []); rw [bL] at this; dsimp only; omega, by have := oY (ns := bK cl) (out := []); rw [bL] at this; simpa using this⟩ (.c (.c (.cons rfl (.vO 23 1) (.c .nil)))) (.c (.vO .nil)) ?_
 rintro ⟨m, out, s', bp⟩ ⟨hE, hm, hn⟩
 dsimp only at hE hm hn ⊢
 obtain ⟨m, rfl⟩ : ∃ n, m = n + 1 := ⟨m - 1, om⟩
 simp only [bA] at hE
 have hl := ee (l := bK cl) (s := s')
 rw [bL] at hl
 repeat' (first | refine Qb ?_ | (refine aj ?_; intro b) | (refine Ba ?_ ?_ <;> intro hc <;> try exact Zb) | refine gS (zL (fun hin => ⟨rfl, ?_⟩) fun hin => ⟨rfl, ?_⟩) | (refine bw ?_; intro b2) | (refine fi s' ?_; intro oid2) | refine aq (ao (dA ?_)) | refine pb ?_)
 ·rw [if_neg (by omega), if_pos hin] at hE; rw [hE] at k
  exact ⟨Or.inr rfl, ⟨trivial, ⟨trivial, trivial⟩⟩, _, _, rfl, .bO _ _ (.cons _ _ _ _ fx (.cons _ _ _ _ (.refl _) .nil)), k⟩
 ·rw [if_neg (by omega), if_neg hin, if_pos (show dm cl s' = [] from hc)] at hE; rw [hE] at k
  exact ⟨Or.inr rfl, ⟨trivial, ⟨trivial, trivial⟩⟩, _, _, rfl, .bO _ _ (.cons _ _ _ _ fx (.cons _ _ _ _ (.refl _) .nil)), k⟩
 ·rw [if_neg (by omega), if_neg hin, if_neg (show ¬ dm cl s' = [] from hc)] at hE
  have := kH (aW.1 am) hin
  refine ⟨⟨m, out ++ [s'], dm cl s', oid2⟩, Nat.lt_succ_self _, ⟨hE, by dsimp only; omega, by simp only [List.length_append, List.length_singleton]; omega⟩, .su, .su⟩
 ·rw [if_pos (by omega)] at hE; rw [hE] at k
  exact ⟨Or.inr rfl, ⟨trivial, ⟨trivial, trivial⟩⟩, _, _, rfl, .bO _ _ (.cons _ _ _ _ fx (.cons _ _ _ _ (.refl _) .nil)), k⟩
theorem fY {cl : List aU} {s : List Nat} {K : PV → Prop} (ct : cl.length ≤ 64) (k : K (pL 1 pS (aA cl s))) : PF Tryz.prog X0 Mx 67 [.agg (bh cl), .str s] K := by
 refine Pf xS fun hnt => ?_
 repeat' (first | refine Qa ?_ | refine aq (ao (lU ct ?_)) | intro hc)
 exact E1 k
theorem lV {cl : List aU} {s t : List Nat} {K : PV → Prop} (ct : cl.length ≤ 64) (kt : t ∈ aA cl s → K (.bool true)) (kf : ¬ t ∈ aA cl s → K (.bool false)) : PF Tryz.prog X0 Mx 29 [.agg (bh cl), .str s, .str t] K := by
 refine Pf zN fun hnt => ?_
 repeat' (first | refine Qa ?_ | refine aq (ao (fY ct ?_)) | refine aq (ao (zL (fun hin => ?_) fun hin => ?_)) | intro hc)
 ·exact E1 (kt hin)
 ·exact E1 (kf hin)
theorem DT {S : aX} {α : Type} [Inhabited α] {e n k : Nat} {f : α → List PV} {l : List α} (hn : n = l.length - k) : Zf S (.tr e n fun i => f (el l (i + k))) (pL e f (l.drop k)) := by
 subst hn
 unfold pL
 rw [List.length_drop]
 exact .tr _ _ _ _ fun i hi => c5.of_eq (by rw [J1, Nat.add_comm])
theorem GY {cl : List aU} {s : List Nat} {K : PV → Prop} (ct : cl.length ≤ 64) (k : K (pL 1 pS ((aA cl s).drop 1))) : PF Tryz.prog X0 Mx 330 [.agg (bh cl), .str s] K := by
 refine Pf GZ fun hnt => ?_
 repeat' (first | refine Qa ?_ | (refine Ba ?_ ?_ <;> try exact Za) | refine aq (ao (fY ct ?_)) | refine iL ?_ | intro hc)
 ·have e : aA cl s = [] := List.length_eq_zero_iff.1 om
  rw [e] at k
  exact ⟨Or.inr rfl, ⟨trivial, trivial⟩, _, _, rfl, (.aO 1 _), k⟩
 ·exact ⟨Or.inr rfl, ⟨trivial, trivial⟩, _, _, rfl, (DT (k := 1) om), k⟩
def aY (cl : List aU) (s : List Nat) : aU := el cl (bl (bK cl) s).toNat
theorem tJ {cl : List aU} : ∀ (n : Nat) (out : List (List Nat)) (s : List Nat), (∀ c ∈ out, c ∈ bK cl) → ∀ c ∈ (bA cl n out s).1, c ∈ bK cl
 | 0, out, s, h => h
 | n + 1, out, s, h => by
  unfold bA
  by_cases h1 : bl (bK cl) s < 0
  ·rw [if_pos h1]; exact h
  have h' : ∀ c ∈ out ++ [s], c ∈ bK cl := fun c hc => by
   rcases List.mem_append.1 hc with q | q
   ·exact h c q
   ·rw [List.mem_singleton.1 q]; exact aW.1 om
  rw [if_neg h1]
  by_cases h2 : s ∈ out
  ·rw [if_pos h2]; exact h
  rw [if_neg h2]
  by_cases h3 : dm cl s = []
  ·rw [if_pos h3]; exact h'
  ·rw [if_neg h3]; exact tJ n _ _ h'
theorem cq {cl : List aU} {s c : List Nat} (h : c ∈ aA cl s) : c ∈ bK cl := tJ _ _ _ (fun c q => absurd q (by simp)) c h
theorem gY {α β : Type} [Inhabited α] {g : α → Option β} {y : β} : ∀ {l : List α} {j : Nat}, j < l.length → g (el l j) = some y → (∀ i, i < j → g (el l i) = none) → l.findSome? g = some y
 | [], j, h, _, _ => absurd h (by simp)
 | x :: l, 0, _, h, _ => by
  have h' : g x = some y := h
  simp [List.findSome?, h']
 | x :: l, j + 1, h, h1, h2 => by
  have h' : g x = none := h2 0 om
  simp only [List.findSome?, h']
  exact gY (by simpa using h) h1 fun i hi => h2 (i + 1) om
theorem iB {α β : Type} [Inhabited α] {g : α → Option β} : ∀ {l : List α}, (∀ i, i < l.length → g (el l i) = none) → l.findSome? g = none
 | [], _ => rfl
 | x :: l, h => by
  have h' : g x = none := h 0 (by simp)
  simp only [List.findSome?, h']
  exact iB fun i hi => h (i + 1) (by simpa using hi)
def j5 (x : aU) (name : List Nat) : Option ju := x.fields.findSome? fun f => if f.name = name then some f else none
def gB (x : aU) (name : List Nat) : Option cz := x.methods.findSome? fun f => if f.name = name then some f else none
def cK (cl : List aU) (s name : List Nat) : Option (List Nat × ju) := (aA cl s).findSome? fun c => (j5 (aY cl c) name).map fun f => (c, f)
def cb (cl : List aU) (s name : List Nat) : Option (List Nat × cz) := (aA cl s).findSome? fun c => (gB (aY cl c) name).map fun f => (c, f)
theorem rL {cl : List aU} {s nm : List Nat} {K : PV → Prop} (ct : cl.length ≤ 64) (k1 : ∀ c f, cK cl s nm = some (c, f) → K (.bO [.str c, .str f.ly, .bool true])) (k0 : cK cl s nm = none → K (.bO [.str [], .str [], .bool false])) : PF Tryz.prog X0 Mx 310 [.agg (bh cl), .str s, .str nm] K := by
 refine Pf zO fun hnt => ?_
 repeat' (first | refine Qa ?_ | (refine Ba ?_ ?_ <;> try exact Za) | refine aq (ao (fY ct ?_)) | intro hc)
 refine aJ (fun i : Nat => [(2, .str nm), (3, .ptr 3 _ 0), (9, pL 1 pS (aA cl s)), (10, .int .i64 i)]) (fun _ => [(3, some _, .cells (bh cl))]) (fun i => i ≤ (aA cl s).length ∧ ∀ i', i' < i → j5 (aY cl (el (aA cl s) i')) nm = none) (fun i => (aA cl s).length - i) 0 ⟨Nat.zero_le _, fh⟩ .su .su ?_
 rintro i ⟨hi, hno⟩
 by_cases hlt : i < (aA cl s).length
 ·have hm := aW.2 (cq (b8 hlt))
  have hl2 := ee (l := bK cl) (s := el (aA cl s) i)
  rw [bL] at hl2
  repeat' (first | refine Qa ?_ | (refine Ba ?_ ?_ <;> try exact Za) | refine dW (aM (dA ?_)) | intro hc)
  refine aJ (fun j : Nat => [(2, .str nm), (3, .ptr 3 _ 0), (9, pL 1 pS (aA cl s)), (10, .int .i64 i), (11, .ptr 11 _ 0), (12, .int .i64 j)]) (fun _ => [(3, some _, .cells (bh cl)), (11, some _, .cells (ia (aY cl (el (aA cl s) i))))]) (fun j => j ≤ (aY cl (el (aA cl s) i)).fields.length ∧ ∀ j', j' < j → (el (aY cl (el (aA cl s) i)).fields j').name ≠ nm) (fun j => (aY cl (el (aA cl s) i)).fields.length - j) 0 ⟨Nat.zero_le _, fh⟩ .su .su ?_
  rintro j ⟨hj, hnj⟩
  repeat' (first | refine Qa ?_ | (refine Ba ?_ ?_ <;> try exact Za) | intro hc)
  ·have hf : j5 (aY cl (el (aA cl s) i)) nm = some (el (aY cl (el (aA cl s) i)).fields j) := gY om (if_pos hc) fun j' hj' => if_neg (hnj j' hj')
   have hr : cK cl s nm = some (el (aA cl s) i, el (aY cl (el (aA cl s) i)).fields j) := gY hlt (by rw [hf]; rfl) fun i' hi' => by rw [hno i' hi']; rfl
   exact E1 (k1 _ _ hr)
  ·refine ⟨j + 1, by dsimp only; omega, ⟨om, fun j' hj' => ?_⟩, .su, .su⟩
   by_cases q : j' = j
   ·subst q; exact hc
   ·exact hnj j' om
  ·refine ⟨i + 1, by dsimp only; omega, ⟨om, fun i' hi' => ?_⟩, .su, .su⟩
   by_cases q : i' = i
   ·subst q; exact iB fun j' hj' => if_neg (hnj j' om)
   ·exact hno i' om
 ·repeat' (first | refine Qa ?_ | (refine Ba ?_ ?_ <;> try exact Za) | intro hc)
  have hr : cK cl s nm = none := iB fun i' hi' => by rw [hno i' (by omega)]; rfl
  exact E1 (k0 hr)
theorem kJ {cl : List aU} {s nm : List Nat} {K : PV → Prop} (ct : cl.length ≤ 64) (k1 : ∀ c f, cb cl s nm = some (c, f) → K (.bO [.str c, .agg (cL f), .bool true])) (k0 : cb cl s nm = none → K (.bO [.str [], .agg (cL default), .bool false])) : PF Tryz.prog X0 Mx 206 [.agg (bh cl), .str s, .str nm] K := by
 refine Pf xT fun hnt => ?_
 repeat' (first | refine Qa ?_ | (refine Ba ?_ ?_ <;> try exact Za) | refine aq (ao (fY ct ?_)) | intro hc)
 refine aJ (fun i : Nat => [(2, .str nm), (3, .ptr 3 _ 0), (9, pL 1 pS (aA cl s)), (10, .int .i64 i), (7, .ptr 7 _ 0)]) (fun _ => [(3, some _, .cells (bh cl)), (7, some _, .cells [.str [], .bool false, .aO, .str []])]) (fun i => i ≤ (aA cl s).length ∧ ∀ i', i' < i → gB (aY cl (el (aA cl s) i')) nm = none) (fun i => (aA cl s).length - i) 0 ⟨Nat.zero_le _, fh⟩ .su .su ?_
 rintro i ⟨hi, hno⟩
 by_cases hlt : i < (aA cl s).length
 ·have hm := aW.2 (cq (b8 hlt))
  have hl2 := ee (l := bK cl) (s := el (aA cl s) i)
  rw [bL] at hl2
  repeat' (first | refine Qa ?_ | (refine Ba ?_ ?_ <;> try exact Za) | refine dW (aM (dA ?_)) | intro hc)
  refine aJ (fun j : Nat => [(2, .str nm), (3, .ptr 3 _ 0), (9, pL 1 pS (aA cl s)), (10, .int .i64 i), (11, .ptr 11 _ 0), (12, .int .i64 j), (7, .ptr 7 _ 0)]) (fun _ => [(3, some _, .cells (bh cl)), (11, some _, .cells (ia (aY cl (el (aA cl s) i)))), (7, some _, .cells [.str [], .bool false, .aO, .str []])]) (fun j => j ≤ (aY cl (el (aA cl s) i)).methods.length ∧ ∀ j', j' < j → (el (aY cl (el (aA cl s) i)).methods j').name ≠ nm) (fun j => (aY cl (el (aA cl s) i)).methods.length - j) 0 ⟨Nat.zero_le _, fh⟩ .su .su ?_
  rintro j ⟨hj, hnj⟩
  repeat' (first | refine Qa ?_ | (refine Ba ?_ ?_ <;> try exact Za) | intro hc)
  ·have hf : gB (aY cl (el (aA cl s) i)) nm = some (el (aY cl (el (aA cl s) i)).methods j) := gY om (if_pos hc) fun j' hj' => if_neg (hnj j' hj')
   have hr : cb cl s nm = some (el (aA cl s) i, el (aY cl (el (aA cl s) i)).methods j) := gY hlt (by rw [hf]; rfl) fun i' hi' => by rw [hno i' hi']; rfl
   exact ⟨Or.inr rfl, ⟨trivial, ⟨rfl, ⟨trivial, trivial⟩⟩⟩, _, _, rfl, (.refl _), k1 _ _ hr⟩
  ·refine ⟨j + 1, by dsimp only; omega, ⟨om, fun j' hj' => ?_⟩, .su, .su⟩
   by_cases q : j' = j
   ·subst q; exact hc
   ·exact hnj j' om
  ·refine ⟨i + 1, by dsimp only; omega, ⟨om, fun i' hi' => ?_⟩, .su, .su⟩
   by_cases q : i' = i
   ·subst q; exact iB fun j' hj' => if_neg (hnj j' om)
   ·exact hno i' om
 ·repeat' (first | refine Qa ?_ | (refine Ba ?_ ?_ <;> try exact Za) | intro hc)
  have hr : cb cl s nm = none := iB fun i' hi' => by rw [hno i' (by omega)]; rfl
  exact ⟨Or.inr rfl, ⟨trivial, ⟨rfl, ⟨trivial, trivial⟩⟩⟩, _, _, rfl, .bO _ _ (.cons _ _ _ _ (.refl _) (.cons _ _ _ _ (.agg _ _ (.cons _ _ _ _ (.refl _) (.cons _ _ _ _ (.refl _) (.cons _ _ _ _ (.aO 1 _) (.cons _ _ _ _ (.refl _) .nil))))) (.cons _ _ _ _ (.refl _) .nil))), k0 hr⟩
def tK (c : Nat) : Prop := 97 ≤ c ∧ c ≤ 122 ∨ 65 ≤ c ∧ c ≤ 90
def qH (c : Nat) : Prop := 48 ≤ c ∧ c ≤ 57
def lW (c : Nat) : Prop := tK c ∨ qH c ∨ c = 95
def fy (s : List Nat) : Prop := s ≠ [] ∧ s.length ≤ 32 ∧ tK (s.getD 0 0) ∧ ¬ s ∈ nZ ∧ ∀ i, i < s.length → lW (s.getD i 0)
def G0 (s : List Nat) : Prop := (∀ i, i < s.length → qH (s.getD i 0)) ∧ (s.length = 1 ∨ 1 < s.length ∧ s.getD 0 0 ≠ 48)
theorem wK {l : List (List Nat)} {i : Nat} (h : i < l.length) : rN 1 (l.map PV.str) i = pS (el l i) := by
 have e : (l.map PV.str).drop (i * 1) = PV.str (el l i) :: (l.map PV.str).drop (i + 1) := by
  rw [Nat.mul_one, List.drop_eq_getElem_cons (by simpa using h)]
  simp [el, h]
 simp only [rN, e]; rfl
theorem o6 {c : Nat} {K : PV → Prop} (kt : tK c → K (.bool true)) (kf : ¬ tK c → K (.bool false)) : PF Tryz.prog X0 Mx 121 [.int .u8 (c : Int)] K := by
 refine Pf xU fun hnt => ?_
 repeat' (first | refine Qa ?_ | (refine Ba ?_ ?_ <;> try exact Za) | intro hc)
 all_goals first | exact E1 (kt (by unfold tK; omega)) | exact E1 (kf (by unfold tK; omega))
theorem zP {c : Nat} {K : PV → Prop} (kt : qH c → K (.bool true)) (kf : ¬ qH c → K (.bool false)) : PF Tryz.prog X0 Mx 189 [.int .u8 (c : Int)] K := by
 refine Pf zQ fun hnt => ?_
 repeat' (first | refine Qa ?_ | (refine Ba ?_ ?_ <;> try exact Za) | intro hc)
 all_goals first | exact E1 (kt (by unfold qH; omega)) | exact E1 (kf (by unfold qH; omega))
theorem tL {c : Nat} {K : PV → Prop} (kt : lW c → K (.bool true)) (kf : ¬ lW c → K (.bool false)) : PF Tryz.prog X0 Mx 123 [.int .u8 (c : Int)] K := by
 refine Pf B8 fun hnt => ?_
 repeat' (first | refine Qa ?_ | (refine Ba ?_ ?_ <;> try exact Za) | (refine aq (ao (o6 (fun hc => ?_) fun hc => ?_))) | (refine aq (ao (zP (fun hc => ?_) fun hc => ?_))) | intro hc)
 all_goals first | exact E1 (kt (by unfold lW; first | exact Or.inl am | exact Or.inr (Or.inl am) | exact Or.inr (Or.inr om))) | exact E1 (kf (fun q => by rcases q with q | q | q <;> first | contradiction | omega))
theorem o7 {c : Nat} {K : PV → Prop} (kt : tK c → K (.bool true)) (kf : ¬ tK c → K (.bool false)) : PF Tryz.prog X0 Mx 106 [.int .u8 (c : Int)] K := by
 refine Pf xV fun hnt => ?_
 repeat' (first | refine Qa ?_ | (refine Ba ?_ ?_ <;> try exact Za) | intro hc)
 all_goals first | exact E1 (kt (by unfold tK; omega)) | exact E1 (kf (by unfold tK; omega))
theorem zR {c : Nat} {K : PV → Prop} (kt : qH c → K (.bool true)) (kf : ¬ qH c → K (.bool false)) : PF Tryz.prog X0 Mx 171 [.int .u8 (c : Int)] K := by
 refine Pf zS fun hnt => ?_
 repeat' (first | refine Qa ?_ | (refine Ba ?_ ?_ <;> try exact Za) | intro hc)
 all_goals first | exact E1 (kt (by unfold qH; omega)) | exact E1 (kf (by unfold qH; omega))
theorem B9 {c : Nat} {K : PV → Prop} (kt : lW c → K (.bool true)) (kf : ¬ lW c → K (.bool false)) : PF Tryz.prog X0 Mx 108 [.int .u8 (c : Int)] K := by
 refine Pf Ca fun hnt => ?_
 repeat' (first | refine Qa ?_ | (refine Ba ?_ ?_ <;> try exact Za) | (refine aq (ao (o7 (fun hc => ?_) fun hc => ?_))) | (refine aq (ao (zR (fun hc => ?_) fun hc => ?_))) | intro hc)
 all_goals first | exact E1 (kt (by unfold lW; first | exact Or.inl am | exact Or.inr (Or.inl am) | exact Or.inr (Or.inr om))) | exact E1 (kf (fun q => by rcases q with q | q | q <;> first | contradiction | omega))
theorem vP {s : List Nat} {K : PV → Prop} (kt : s ∈ nZ → K (.bool true)) (kf : ¬ s ∈ nZ → K (.bool false)) : PF Tryz.prog X0 Mx 122 [.str s] K := by
 refine Pf vQ fun hnt => ?_
 repeat' (first | refine Qa ?_ | (refine Ba ?_ ?_ <;> try exact Za) | (refine bw ?_; intro b) | intro hc)
 refine aJ (fun j : Nat => [(0, .str s), (3, oL 5 (some b) 1 nZ), (4, .int .i64 j)]) (fun _ => [(5, some b, aL 1 pS nZ)]) (fun j => j ≤ nZ.length ∧ ∀ i, i < j → el nZ i ≠ s) (fun j => nZ.length - j) 0 ⟨Nat.zero_le _, fh⟩ .su (.cons rfl (.arr _ _ _ _ _ (Nat.le_refl _) fun i hi => c5.of_eq (wK (l := nZ) hi)) .nil) ?_
 rintro j ⟨hj, hb⟩
 have hkl : nZ.length = 17 := rfl
 repeat' (first | refine Qa ?_ | (refine Ba ?_ ?_ <;> try exact Za) | (refine ef ?_; intro q hq; cases hq) | refine tM ?_ | intro hc)
 ·exact E1 (kt (by rw [← hc]; exact b8 om))
 ·refine ⟨j + 1, by dsimp only; omega, ⟨om, fun i hi => ?_⟩, .su, .su⟩
  by_cases q : i = j
  ·subst q; exact hc
  ·exact hb i om
 ·exact E1 (kf fun q => by obtain ⟨i, hi, e⟩ := dn q; exact hb i om e)
theorem dJ {s : List Nat} {K : PV → Prop} (kt : fy s → K (.bool true)) (kf : ¬ fy s → K (.bool false)) : PF Tryz.prog X0 Mx 63 [.str s] K := by
 refine Pf zT fun hnt => ?_
 have hpos : s ≠ [] → 0 < s.length := List.length_pos_iff.2
 by_cases hs : s = []
 ·repeat' (first | refine Qa ?_ | (refine Ba ?_ ?_ <;> try exact Za) | intro hc)
  exact E1 (kf fun q => q.1 hs)
 have := hpos hs
 repeat' (first | refine Qa ?_ | (refine Ba ?_ ?_ <;> try exact Za) | (refine aq (ao (o6 (fun hc => ?_) fun hc => ?_))) | (refine aq (ao (vP (fun hc => ?_) fun hc => ?_))) | (refine aq (ao (tL (fun hc => ?_) fun hc => ?_))) | intro hc)
 ·exact E1 (kf fun q => by have := q.2.1; omega)
 ·exact E1 (kf fun q => q.2.2.2.1 am)
 ·refine aJ (ι := Nat) (fun j => [(0, .str s), (3, .int .i64 j)]) (fun _ => []) (fun j => j ≤ s.length ∧ ∀ i, i < j → lW (s.getD i 0)) (fun j => s.length - j) 0 ⟨Nat.zero_le _, fh⟩ .su (.nil) ?_
  rintro j ⟨hj, hb⟩
  repeat' (first | refine Qa ?_ | (refine Ba ?_ ?_ <;> try exact Za) | (refine aq (ao (tL (fun hc => ?_) fun hc => ?_))) | intro hc)
  ·refine ⟨j + 1, by dsimp only; omega, ⟨om, fun i hi => ?_⟩, .su, (.nil)⟩
   by_cases q : i = j
   ·subst q; exact hc
   ·exact hb i om
  ·exact E1 (kf fun q => hc (q.2.2.2.2 j om))
  ·exact E1 (kt ⟨hs, om, am, am, fun i hi => hb i om⟩)
 ·exact E1 (kf fun q => (by assumption : ¬ tK _) q.2.2.1)
theorem vR {s : List Nat} {K : PV → Prop} (hl : s.length ≤ 32) (kt : G0 s → K (.bool true)) (kf : ¬ G0 s → K (.bool false)) : PF Tryz.prog X0 Mx 223 [.str s] K := by
 refine Pf vS fun hnt => ?_
 repeat' (first | refine Qa ?_ | (refine Ba ?_ ?_ <;> try exact Za) | intro hc)
 refine aJ (ι := Nat) (fun j => [(0, .str s), (3, .int .i64 j)]) (fun _ => []) (fun j => j ≤ s.length ∧ ∀ i, i < j → qH (s.getD i 0)) (fun j => s.length - j) 0 ⟨Nat.zero_le _, fh⟩ .su (.nil) ?_
 rintro j ⟨hj, hb⟩
 repeat' (first | refine Qa ?_ | (refine Ba ?_ ?_ <;> try exact Za) | intro hc)
 ·exact E1 (kf fun q => by have := (q.1 j om).1; omega)
 ·exact E1 (kf fun q => by have := (q.1 j om).2; omega)
 ·refine ⟨j + 1, by dsimp only; omega, ⟨om, fun i hi => ?_⟩, .su, (.nil)⟩
  by_cases q : i = j
  ·subst q; exact ⟨om, om⟩
  ·exact hb i om
 all_goals have hd : ∀ i, i < s.length → qH (s.getD i 0) := fun i hi => hb i om
 ·exact E1 (kt ⟨hd, Or.inl om⟩)
 ·exact E1 (kf fun q => by rcases q.2 with q | q; omega; exact q.2 om)
 ·exact E1 (kt ⟨hd, Or.inr ⟨om, om⟩⟩)
 ·exact E1 (kf fun q => by rcases q.2 with q | q <;> omega)
theorem xW {s : List Nat} {K : PV → Prop} (hl : s.length ≤ 32) (kt : G0 s → K (.bool true)) (kf : ¬ G0 s → K (.bool false)) : PF Tryz.prog X0 Mx 156 [.str s] K := by
 refine Pf xX fun hnt => ?_
 by_cases hs : s = []
 ·repeat' (first | refine Qa ?_ | (refine Ba ?_ ?_ <;> try exact Za) | intro hc)
  exact E1 (kf fun q => by subst hs; rcases q.2 with q | q <;> simp at q)
 have := List.length_pos_iff.2 hs
 repeat' (first | refine Qa ?_ | (refine Ba ?_ ?_ <;> try exact Za) | intro hc)
 ·exact E1 (kf fun q => by rcases q.2 with q | q; omega; exact q.2 om)
 all_goals
  refine aJ (fun j : Nat => [(0, .str s), (17, .int .i64 (s.length : Nat)), (18, .int .i64 j)]) (fun _ => []) (fun j => j ≤ s.length ∧ ∀ i, i < j → qH (s.getD i 0)) (fun j => s.length - j) 0 ⟨Nat.zero_le _, fh⟩ .su (.nil) ?_
  rintro j ⟨hj, hb⟩
  repeat' (first | refine Qa ?_ | (refine Ba ?_ ?_ <;> try exact Za) | intro hc)
  ·exact E1 (kf fun q => by have := (q.1 j om).1; omega)
  ·exact E1 (kf fun q => by have := (q.1 j om).2; omega)
  ·refine ⟨j + 1, by dsimp only; omega, ⟨om, fun i hi => ?_⟩, .su, (.nil)⟩
   by_cases q : i = j
   ·subst q; exact ⟨om, om⟩
   ·exact hb i om
  ·exact E1 (kt ⟨fun i hi => hb i om, om⟩)
theorem qI {c : Nat} : ∀ (s : List Nat) (i : Nat), (qJ c s i = -1 ∧ ¬ c ∈ s) ∨ (0 ≤ qJ c s i ∧ c ∈ s)
 | [], i => Or.inl ⟨rfl, by simp⟩
 | b :: s, i => by
  unfold qJ
  cases hb : Nat.beq b c with
  | true => exact Or.inr ⟨Int.natCast_nonneg i, by rw [Nat.eq_of_beq_eq_true hb]; simp⟩
  | false =>
   have hne : c ≠ b := fun q => by subst q; simp at hb
   rcases qI s (i + 1) with ⟨h1, h2⟩ | ⟨h1, h2⟩
   ·exact Or.inl ⟨h1, by simp [hne, h2]⟩
   ·exact Or.inr ⟨h1, by simp [h2]⟩
theorem Rg {s : List Nat} {c : Nat} {K : PV → Prop} (hc : c ≤ 255) (k : K (.int .i64 (qJ c s 0))) : PF Tryz.prog X0 Mx 309 [.str s, .int .u8 (c : Int)] K :=
 MW Rh (jB _) (fun h F av r => by
  cases r with
  | cons _ a _ av2 r1 r2 =>
   cases r2 with
   | cons _ b _ bs r3 r4 =>
    cases r1; cases r3; cases r4
    refine ⟨_, ?_, .int .i64 (qJ c s 0)⟩
    show (bif Nat.ble c 255 then _ else _) = _
    rw [Nat.ble_eq_true_of_le hc]
    simp only [cond, eh]) k
theorem j9 {s : List Nat} {c : Nat} {K : PV → Prop} (hc : c ≤ 255) (k : K (.int .i64 (qJ c s 0))) : PF Tryz.prog X0 Mx 253 [.str s, .int .u8 (c : Int)] K := by
 refine Pf ka fun hnt => ?_
 repeat' (first | refine Qa ?_ | refine aq (ao (Rg hc ?_)) | intro hc)
 exact E1 k
theorem nh {s : List Nat} {c : Nat} {K : PV → Prop} (hc : c ≤ 255) (k : K (.int .i64 (qJ c s 0))) : PF Tryz.prog X0 Mx 210 [.str s, .int .u8 (c : Int)] K := by
 refine Pf ni fun hnt => ?_
 repeat' (first | refine Qa ?_ | refine aq (ao (j9 hc ?_)) | intro hc)
 exact E1 k
def zU (s t : List Nat) : Prop := t.length ≤ s.length ∧ s.take t.length = t
theorem kb {s t : List Nat} {K : PV → Prop} (kt : zU s t → K (.bool true)) (kf : ¬ zU s t → K (.bool false)) : PF Tryz.prog X0 Mx 209 [.str s, .str t] K := by
 refine Pf kc fun hnt => ?_
 repeat' (first | refine Qa ?_ | (refine Ba ?_ ?_ <;> try exact Za) | refine qK ?_ | intro hc)
 ·exact E1 (kt ⟨om, by simpa using hc⟩)
 ·exact E1 (kf fun q => hc (by simpa using q.2))
 ·exact E1 (kf fun q => by have := q.1; omega)
theorem nj {s t : List Nat} {K : PV → Prop} (kt : zU s t → K (.bool true)) (kf : ¬ zU s t → K (.bool false)) : PF Tryz.prog X0 Mx 155 [.str s, .str t] K := by
 refine Pf nk fun hnt => ?_
 repeat' (first | refine Qa ?_ | (refine aq (ao (kb (fun hc => ?_) fun hc => ?_))) | intro hc)
 ·exact E1 (kt hc)
 ·exact E1 (kf hc)
theorem vT {s : List Nat} {K : PV → Prop} (kt : s ∈ nZ → K (.bool true)) (kf : ¬ s ∈ nZ → K (.bool false)) : PF Tryz.prog X0 Mx 109 [.str s] K := by
 refine Pf vU fun hnt => ?_
 repeat' (first | refine Qa ?_ | (refine Ba ?_ ?_ <;> try exact Za) | intro hc)
 refine aJ (fun j : Nat => [(0, .str s), (5, .agg (nZ.map PV.str)), (6, .int .i64 j)]) (fun _ => []) (fun j => j ≤ nZ.length ∧ ∀ i, i < j → el nZ i ≠ s) (fun j => nZ.length - j) 0 ⟨Nat.zero_le _, fh⟩ .su (.nil) ?_
 rintro j ⟨hj, hb⟩
 have hkl : nZ.length = 17 := rfl
 repeat' (first | refine Qa ?_ | (refine Ba ?_ ?_ <;> try exact Za) | refine G2 nZ ?_ | intro hc)
 ·exact E1 (kt (by rw [hc]; exact b8 om))
 ·refine ⟨j + 1, by dsimp only; omega, ⟨om, fun i hi => ?_⟩, .su, (.nil)⟩
  by_cases q : i = j
  ·subst q; exact fun q => hc q.symm
  ·exact hb i om
 ·exact E1 (kf fun q => by obtain ⟨i, hi, e⟩ := dn q; exact hb i om e)
theorem Cb {s : List Nat} {K : PV → Prop} (hl : s.length ≤ 32) (kt : (∀ i, i < s.length → lW (s.getD i 0)) → K (.int .i64 (s.length : Nat))) (kf : ∀ n : Nat, (n : Int) ≠ s.length → (¬ ∀ i, i < s.length → lW (s.getD i 0)) → K (.int .i64 n)) : PF Tryz.prog X0 Mx 107 [.str s, .fn 108 []] K := by
 refine Pf Cc fun hnt => ?_
 repeat' (first | refine Qa ?_ | (refine Ba ?_ ?_ <;> try exact Za) | intro hc)
 refine aJ (fun j : Nat => [(0, .str s), (1, .fn 108 []), (5, .int .i64 j)]) (fun _ => []) (fun j => j ≤ s.length ∧ ∀ i, i < j → lW (s.getD i 0)) (fun j => s.length - j) 0 ⟨Nat.zero_le _, fh⟩ .su (.nil) ?_
 rintro j ⟨hj, hb⟩
 repeat' (first | refine Qa ?_ | (refine Ba ?_ ?_ <;> try exact Za) | (refine aq (ao (B9 (fun hc => ?_) fun hc => ?_))) | intro hc)
 ·refine ⟨j + 1, by dsimp only; omega, ⟨om, fun i hi => ?_⟩, .su, (.nil)⟩
  by_cases q : i = j
  ·subst q; exact hc
  ·exact hb i om
 ·exact E1 (kf j om fun q => hc (q j om))
 ·have hjl : j = s.length := by omega
  subst hjl
  exact E1 (kt fun i hi => hb i om)
theorem du {s : List Nat} {K : PV → Prop} (kt : fy s → K (.bool true)) (kf : ¬ fy s → K (.bool false)) : PF Tryz.prog X0 Mx 50 [.str s] K := by
 refine Pf zW fun hnt => ?_
 by_cases hs : s = []
 ·repeat' (first | refine Qa ?_ | (refine Ba ?_ ?_ <;> try exact Za) | intro hc)
  exact E1 (kf fun q => q.1 hs)
 have := List.length_pos_iff.2 hs
 repeat' (first | refine Qa ?_ | (refine Ba ?_ ?_ <;> try exact Za) | (refine aq (ao (o7 (fun hc => ?_) fun hc => ?_))) | (refine aq (ao (Cb ?_ (fun hp => ?_) fun n hn hp => ?_))) | (refine aq (ao (vT (fun hc => ?_) fun hc => ?_))) | omega | intro hc)
 ·exact E1 (kf fun q => by have := q.2.1; omega)
 ·exact E1 (kf fun q => q.2.2.2.1 hc)
 ·exact E1 (kt ⟨hs, om, am, hc, hp⟩)
 ·exact E1 (kf fun q => hp q.2.2.2.2)
 ·exact E1 (kf fun q => hc q.2.2.1)
end Go.Proofs.YtgaihilgffficaaGreatDoor.Ev
