/- CoverStates, part 37 -/
import Derived.Test.YtgaihilgffficaaGreatDoorCxL
set_option linter.all false
set_option maxHeartbeats 4000000
namespace Go.Proofs.YtgaihilgffficaaGreatDoor.Ev
open Go
open Classical
structure D2 where
 fn : Int
 ins : Int
 cls : List Nat
 deriving Inhabited
structure nP where
 fn : Int
 ins : Int
 site : Int
 deriving Inhabited
def Hv (x : D2) : List PV := [.int .i64 x.fn, .int .i64 x.ins, .str x.cls]
def AG (x : nP) : List PV := [.int .i64 x.fn, .int .i64 x.ins, .int .i64 x.site]
def l9 (f : Nat) (l : List bJ) (k : Nat) : List D2 := (List.range k).flatMap fun i => if (el l i).op = 6 then [⟨(f : Nat), (i : Nat), (el l i).cls⟩] else []
def nC (l : List dN) (k : Nat) : List D2 := (List.range k).flatMap fun f => l9 f (el l f).code (el l f).code.length
def gJ (u : aK) : List D2 := nC u.fns u.fns.length
theorem mM {f : Nat} {l : List bJ} {k : Nat} : l9 f l (k + 1) = l9 f l k ++ if (el l k).op = 6 then [⟨(f : Nat), (k : Nat), (el l k).cls⟩] else [] := by
 unfold l9
 rw [List.range_succ, List.flatMap_append]
 simp
theorem mN {l : List dN} {k : Nat} : nC l (k + 1) = nC l k ++ l9 k (el l k).code (el l k).code.length := by
 unfold nC
 rw [List.range_succ, List.flatMap_append]
 simp
theorem AH {f : Nat} {l : List bJ} : ∀ {k : Nat}, k ≤ l.length → (l9 f l k).length = eP (l.take k)
 | 0, _ => rfl
 | k + 1, h => by
  rw [mM, List.length_append, AH (by omega), j8 (by omega)]
  by_cases q : (el l k).op = 6
  ·rw [if_pos q, if_pos q]; rfl
  ·rw [if_neg q, if_neg q]; rfl
theorem AI {l : List dN} : ∀ {k : Nat}, k ≤ l.length → (nC l k).length = bH (l.take k)
 | 0, _ => rfl
 | k + 1, h => by
  rw [mN, List.length_append, AI (by omega), iR (by omega), AH (Nat.le_refl _), List.take_length]
theorem wT {u : aK} : (gJ u).length = bH u.fns := by
 unfold gJ
 rw [AI (Nat.le_refl _), List.take_length]
theorem tq {f : Nat} {l : List bJ} : ∀ {k : Nat}, (l9 f l k).length ≤ k
 | 0 => Nat.le_refl _
 | k + 1 => by
  have := tq (f := f) (l := l) (k := k)
  rw [mM, List.length_append]
  by_cases q : (el l k).op = 6
  ·rw [if_pos q]; simp; exact this
  ·rw [if_neg q]; simp; omega
theorem yH {l : List dN} (hc : ∀ i, i < l.length → (el l i).code.length ≤ 1024) : ∀ {k : Nat}, k ≤ l.length → (nC l k).length ≤ 1024 * k
 | 0, _ => Nat.le_refl _
 | k + 1, h => by
  have h1 := yH hc (k := k) om
  have h2 := tq (f := k) (l := (el l k).code) (k := (el l k).code.length)
  have h3 := hc k om
  rw [mN, List.length_append]; omega
def Hw (u : aK) (x : rU) (id : Nat) : List PV := [pL 4 ia u.cl, pL 7 lA u.fns, .int .i64 u.main, pL 5 nA x.bo, pL 3 Hv (gJ u), .qD 10 id]
def dK (u : aK) (o : uw) : bJ := el (el u.fns o.fn.toNat).code o.ins.toNat
noncomputable def oF (o : uw) (a : Int) : dC := if 0 ≤ a ∧ a < o.bg.length then el o.bg a.toNat else ⟨0, 0, 0⟩
noncomputable def Kl (a b : nP) : Int := JO [kQ a.fn b.fn, kQ a.ins b.ins, kQ a.site b.site]
theorem s5 {u : aK} {K : PV → Prop} (qW : u.fns.length ≤ 256) (hc : ∀ i, i < u.fns.length → (el u.fns i).code.length ≤ 1024) (k : K (pL 3 Hv (gJ u))) : PF Tryz.prog X0 Mx 54 [.agg (bQ u)] K := by
 refine Pf sH fun hnt => ?_
 repeat' (first | refine Qb ?_ | (refine ai ?_; intro hl) | (refine aj ?_; intro b) | (refine Ba ?_ ?_ <;> intro hc <;> try exact Zb) | refine pb ?_)
 refine aJ (ι := Nat × Option Nat) (fun q => [(1, .ptr 1 _ 0), (3, oL 34 q.2 3 (nC u.fns q.1)), (9, pL 7 lA u.fns), (10, .int .i64 (u.fns.length : Nat)), (11, .int .i64 (q.1 : Nat))]) (fun q => [(1, some _, .cells (bQ u)), (34, q.2, aL 3 Hv (nC u.fns q.1))]) (fun q => q.1 ≤ u.fns.length) (fun q => u.fns.length - q.1) (0, none) (Nat.zero_le _) (.c (.cons rfl (.vO 34 3) .su)) (.c (.vO .nil)) ?_
 rintro ⟨j, bp⟩ hj
 dsimp only at hj ⊢
 have hlj := yH hc hj
 by_cases hlt : j < u.fns.length
 ·have hcj := hc j hlt
  repeat' (first | refine Qb ?_ | (refine ai ?_; intro hl) | (refine aj ?_; intro b) | (refine Ba ?_ ?_ <;> intro hc <;> try exact Zb) | refine pb ?_)
  refine aJ (ι := Nat × Option Nat) (fun q => [(1, .ptr 1 _ 0), (3, oL 34 q.2 3 (nC u.fns j ++ l9 j (el u.fns j).code q.1)), (9, pL 7 lA u.fns), (10, .int .i64 (u.fns.length : Nat)), (11, .int .i64 (j : Nat)), (4, .int .i64 (j : Nat)), (17, pL 10 fw (el u.fns j).code), (18, .int .i64 ((el u.fns j).code.length : Nat)), (19, .int .i64 (q.1 : Nat))]) (fun q => [(1, some _, .cells (bQ u)), (34, q.2, aL 3 Hv (nC u.fns j ++ l9 j (el u.fns j).code q.1))]) (fun q => q.1 ≤ (el u.fns j).code.length) (fun q => (el u.fns j).code.length - q.1) (0, bp) (Nat.zero_le _) (by simp only [l9, List.range_zero, List.flatMap_nil, List.append_nil]; exact .su) (by simp only [l9, List.range_zero, List.flatMap_nil, List.append_nil]; exact .su) ?_
  rintro ⟨m, oid1⟩ hm
  dsimp only at hm ⊢
  have hlm := tq (f := j) (l := (el u.fns j).code) (k := m)
  have hsc := mM (f := j) (l := (el u.fns j).code) (k := m)
  by_cases hlt2 : m < (el u.fns j).code.length
  ·have hll : (nC u.fns j ++ l9 j (el u.fns j).code m).length ≤ 1000000 := by rw [List.length_append]; omega
   repeat' (first | refine Qb ?_ | (refine ai ?_; intro hl) | (refine aj ?_; intro b) | (refine Ba ?_ ?_ <;> intro hc <;> try exact Zb) | (refine bw ?_; intro b2) | (refine fi (f := Hv) ⟨(j : Nat), (m : Nat), (el (el u.fns j).code m).cls⟩ ?_; intro oid2) | refine pb ?_)
   ·rw [if_pos (by assumption)] at hsc
    rw [List.append_assoc, ← hsc]
    exact ⟨(m + 1, oid2), by dsimp only; omega, by dsimp only; omega, .su, .su⟩
   ·rw [if_neg (by assumption), List.append_nil] at hsc
    rw [← hsc]
    exact ⟨(m + 1, oid1), by dsimp only; omega, by dsimp only; omega, .su, .su⟩
  ·repeat' (first | refine Qb ?_ | (refine ai ?_; intro hl) | (refine aj ?_; intro b) | (refine Ba ?_ ?_ <;> intro hc <;> try exact Zb) | refine pb ?_)
   rw [show m = (el u.fns j).code.length by omega, ← mN]
   exact ⟨(j + 1, oid1), by dsimp only; omega, by dsimp only; omega, .su, .su⟩
 ·repeat' (first | refine Qb ?_ | (refine ai ?_; intro hl) | (refine aj ?_; intro b) | (refine Ba ?_ ?_ <;> intro hc <;> try exact Zb) | refine pb ?_)
  unfold gJ at k
  rw [← show j = u.fns.length by omega] at k
  exact ⟨Or.inr rfl, ⟨trivial, trivial⟩, _, _, rfl, fx, k⟩
theorem AJ {u : aK} {K : PV → Prop} (qW : u.fns.length ≤ 256) (hc : ∀ i, i < u.fns.length → (el u.fns i).code.length ≤ 1024) (k : K (pL 3 Hv (gJ u))) : PF Tryz.prog X0 Mx 28 [.agg (bQ u)] K := by
 refine Pf Am fun hnt => ?_
 repeat' (first | refine Qb ?_ | (refine ai ?_; intro hl) | (refine aj ?_; intro b) | (refine Ba ?_ ?_ <;> intro hc <;> try exact Zb) | refine pb ?_)
 refine aJ (ι := Nat × Option Nat) (fun q => [(1, .ptr 1 _ 0), (3, oL 50 q.2 3 (nC u.fns q.1)), (4, .int .i64 (q.1 : Nat))]) (fun q => [(1, some _, .cells (bQ u)), (50, q.2, aL 3 Hv (nC u.fns q.1))]) (fun q => q.1 ≤ u.fns.length) (fun q => u.fns.length - q.1) (0, none) (Nat.zero_le _) (.c (.cons rfl (.vO 50 3) .su)) (.c (.vO .nil)) ?_
 rintro ⟨j, bp⟩ hj
 dsimp only at hj ⊢
 have hlj := yH hc hj
 by_cases hlt : j < u.fns.length
 ·have hcj := hc j hlt
  repeat' (first | refine Qb ?_ | (refine ai ?_; intro hl) | (refine aj ?_; intro b) | (refine Ba ?_ ?_ <;> intro hc <;> try exact Zb) | refine pb ?_)
  refine aJ (ι := Nat × Option Nat) (fun q => [(1, .ptr 1 _ 0), (3, oL 50 q.2 3 (nC u.fns j ++ l9 j (el u.fns j).code q.1)), (4, .int .i64 (j : Nat)), (5, .int .i64 (q.1 : Nat))]) (fun q => [(1, some _, .cells (bQ u)), (50, q.2, aL 3 Hv (nC u.fns j ++ l9 j (el u.fns j).code q.1))]) (fun q => q.1 ≤ (el u.fns j).code.length) (fun q => (el u.fns j).code.length - q.1) (0, bp) (Nat.zero_le _) (by simp only [l9, List.range_zero, List.flatMap_nil, List.append_nil]; exact .su) (by simp only [l9, List.range_zero, List.flatMap_nil, List.append_nil]; exact .su) ?_
  rintro ⟨m, oid1⟩ hm
  dsimp only at hm ⊢
  have hlm := tq (f := j) (l := (el u.fns j).code) (k := m)
  have hsc := mM (f := j) (l := (el u.fns j).code) (k := m)
  by_cases hlt2 : m < (el u.fns j).code.length
  ·have hll : (nC u.fns j ++ l9 j (el u.fns j).code m).length ≤ 1000000 := by rw [List.length_append]; omega
   repeat' (first | refine Qb ?_ | (refine ai ?_; intro hl) | (refine aj ?_; intro b) | (refine Ba ?_ ?_ <;> intro hc <;> try exact Zb) | (refine bw ?_; intro b2) | (refine fi (f := Hv) ⟨(j : Nat), (m : Nat), (el (el u.fns j).code m).cls⟩ ?_; intro oid2) | refine pb ?_)
   ·rw [if_pos (by assumption)] at hsc
    rw [List.append_assoc, ← hsc]
    exact ⟨(m + 1, oid2), by dsimp only; omega, by dsimp only; omega, .su, .su⟩
   ·rw [if_neg (by assumption), List.append_nil] at hsc
    rw [← hsc]
    exact ⟨(m + 1, oid1), by dsimp only; omega, by dsimp only; omega, .su, .su⟩
  ·repeat' (first | refine Qb ?_ | (refine ai ?_; intro hl) | (refine aj ?_; intro b) | (refine Ba ?_ ?_ <;> intro hc <;> try exact Zb) | refine pb ?_)
   rw [show m = (el u.fns j).code.length by omega, ← mN]
   exact ⟨(j + 1, oid1), by dsimp only; omega, by dsimp only; omega, .su, .su⟩
 ·repeat' (first | refine Qb ?_ | (refine ai ?_; intro hl) | (refine aj ?_; intro b) | (refine Ba ?_ ?_ <;> intro hc <;> try exact Zb) | refine pb ?_)
  unfold gJ at k
  rw [← show j = u.fns.length by omega] at k
  exact ⟨Or.inr rfl, ⟨trivial, trivial⟩, _, _, rfl, fx, k⟩
theorem pM {u : aK} {x : rU} {K : PV → Prop} (qW : u.fns.length ≤ 256) (hc : ∀ i, i < u.fns.length → (el u.fns i).code.length ≤ 1024) (k : ∀ id, K (.fp (Hw u x id) 0)) : PF Tryz.prog X0 Mx 16 [.agg (bQ u), .agg (Kc x)] K := by
 refine Pf ph fun hnt => ?_
 repeat' (first | refine Qb ?_ | (refine aj ?_; intro b) | refine aG ?_ | refine pd ?_ | refine dW (aM (s5 qW hc ?_)) | (refine CH ?_ .m; intro bm))
 have k2 := k bm
 exact ⟨Or.inr rfl, ⟨trivial, trivial⟩, _, _, rfl, .ptr _ _ _ _ _ rfl (.refl _), k2⟩
theorem ma {u : aK} {x : rU} {id : Nat} {o : uw} {K : PV → Prop} (ho : AE u o) (k : K (.bO [.agg (fw (dK u o)), .bool true])) : PF Tryz.prog X0 Mx 17 [.fp (Hw u x id) 0, .agg (nA o)] K := by
 refine Pf lZ fun hnt => ?_
 have h0 := ho.f0
 have h1 := ho.f1
 have h2 := ho.i0
 have h3 := ho.i1
 repeat' (first | refine Qa ?_ | (refine Ba ?_ ?_ <;> try exact Za) | intro hc)
 exact ⟨Or.inr rfl, ⟨rfl, ⟨trivial, trivial⟩⟩, _, _, rfl, (.refl _), k⟩
theorem lM {u : aK} {x : rU} {id i : Nat} {K : PV → Prop} (hi : i < x.bo.length) (h300 : x.bo.length ≤ 5000) (kt : i + 1 < x.bo.length ∧ (el x.bo (i + 1)).call = i → K (.bool true)) (kf : ¬ (i + 1 < x.bo.length ∧ (el x.bo (i + 1)).call = i) → K (.bool false)) : PF Tryz.prog X0 Mx 18 [.fp (Hw u x id) 0, .int .i64 (i : Nat)] K := by
 refine Pf lD fun hnt => ?_
 repeat' (first | refine Qa ?_ | (refine mL (i + 1) ?_) | (refine Ba ?_ ?_ <;> try exact Za) | intro hc)
 all_goals first
  | (have k := kt ⟨om, am⟩; exact E1 k)
  | (have k := kf (fun q => by first | (have := q.1; omega) | exact absurd q.2 am); exact E1 k)
theorem wv {o : uw} {a : Int} {K : PV → Prop} (k : K (.agg (dd (oF o a)))) : PF Tryz.prog X0 Mx 19 [.agg (nA o), .int .i64 a] K := by
 refine Pf vZ fun hnt => ?_
 unfold oF at k
 repeat' (first | refine Qa ?_ | (refine Ba ?_ ?_ <;> try exact Za) | intro hc)
 all_goals first
  | (rw [if_pos ⟨by omega, by omega⟩] at k; exact ⟨Or.inr rfl, ⟨rfl, trivial⟩, _, _, rfl, (.refl _), k⟩)
  | (rw [if_neg (fun q => by have := q.1; have := q.2; omega)] at k; exact ⟨Or.inr rfl, ⟨rfl, trivial⟩, _, _, rfl, (.refl _), k⟩)
theorem me {u : aK} {x : rU} {id : Nat} {v : dC} {K : PV → Prop} (hk : v.kind = 3) (h0 : 0 ≤ v.site) (h1 : v.site < (gJ u).length) (k : K (.str (el (gJ u) v.site.toNat).cls)) : PF Tryz.prog X0 Mx 21 [.fp (Hw u x id) 0, .agg (dd v)] K := by
 refine Pf l4 fun hnt => ?_
 repeat' (first | refine Qa ?_ | (refine Ba ?_ ?_ <;> try exact Za) | intro hc)
 exact E1 k
theorem CU {P : Program} {X : dg} {M : Mf} {G : aZ} {K0 : PV → Prop} {neg : Bool} {x y : XV} {a b : nP} (ht : a = b → K0 (.bool (bne true neg))) (hf : ¬ a = b → K0 (.bool (bne false neg))) (hx : ca G x = some (.agg (AG a)) := by exact rfl) (hy : ca G y = some (.agg (AG b)) := by exact rfl) : kG P X M (.eql (.st [.int, .int, .int]) neg x y) G K0 := ⟨fun c h F env r K' k => by
 obtain ⟨u, e1, q1⟩ := r.ev hx
 obtain ⟨v, e2, q2⟩ := r.ev hy
 have row : ∀ {a : nP} {u : AV}, R h F (.agg (AG a)) u → u = .agg [.int .i64 a.fn, .int .i64 a.ins, .int .i64 a.site] := fun q => by
  cases q with
  | agg _ _ q =>
   cases q with
   | cons _ _ _ _ q1 q =>
    cases q with
    | cons _ _ _ _ q2 q =>
     cases q with
     | cons _ _ _ _ q3 q => cases q1; cases q2; cases q3; cases q; rfl
 rw [row q1] at e1
 rw [row q2] at e2
 refine Ng e1 e2 (fun q => k _ _ (.bool _) (ht ?_)) fun q => k _ _ (.bool _) (hf fun w => q (by rw [w]))
 cases a; cases b
 simp only [List.cons.injEq] at q
 obtain ⟨rfl, rfl, rfl, _⟩ := q
 rfl⟩
def pA : List nP → PV
 | [] => .aO
 | x :: l => pL 3 AG (x :: l)
def dO (a b : nP) : Prop := a.fn < b.fn ∨ (a.fn = b.fn ∧ (a.ins < b.ins ∨ (a.ins = b.ins ∧ a.site < b.site)))
noncomputable def iZ : List nP → nP → List nP
 | [], a => [a]
 | x :: l, a => if dO x a then x :: iZ l a else if x = a then x :: l else a :: x :: l
theorem wU {a : nP} : ∀ {l : List nP} {k : Nat}, k < l.length → (∀ i, i < k → dO (el l i) a) → ¬ dO (el l k) a → el l k = a → iZ l a = l
 | [], k, h, _, _, _ => absurd h (Nat.not_lt_zero _)
 | x :: l, 0, _, _, h1, h2 => by rw [iZ, if_neg (show ¬ dO x a from h1), if_pos (show x = a from h2)]
 | x :: l, k + 1, h, h0, h1, h2 => by
  rw [iZ, if_pos (show dO x a from h0 0 (by omega)), wU (k := k) (by simp at h; omega) (fun i hi => h0 (i + 1) (by omega)) h1 h2]
theorem uC {a : nP} : ∀ {l : List nP} {k : Nat}, k ≤ l.length → (∀ i, i < k → dO (el l i) a) → (k < l.length → ¬ dO (el l k) a ∧ ¬ el l k = a) → iZ l a = l.take k ++ [a] ++ l.drop k
 | [], k, h, _, _ => by
  have : k = 0 := by simpa using h
  subst this; rfl
 | x :: l, 0, _, _, h1 => by
  obtain ⟨q1, q2⟩ := h1 (by simp)
  rw [iZ, if_neg (show ¬ dO x a from q1), if_neg (show ¬ x = a from q2)]; rfl
 | x :: l, k + 1, h, h0, h1 => by
  rw [iZ, if_pos (show dO x a from h0 0 (by omega)), uC (k := k) (by simp at h; omega) (fun i hi => h0 (i + 1) (by omega)) fun q => h1 (by simp; omega)]
  rfl
theorem AK {l : List nP} (h : 0 < l.length) : pA l = pL 3 AG l := by
 cases l with
 | nil => exact absurd h (Nat.lt_irrefl _)
 | cons x l => rfl
theorem ja {l : List nP} {a : nP} {K : PV → Prop} (h300 : l.length ≤ 5000) (k : K (pA (iZ l a))) : PF Tryz.prog X0 Mx 31 [pA l, .agg (AG a)] K := by
 refine Pf tX fun hnt => ?_
 rcases Nat.eq_zero_or_pos l.length with hz | hz
 ·obtain rfl : l = [] := List.eq_nil_of_length_eq_zero hz
  rw [show pA [] = .aO from rfl]
  repeat' (first | refine Qb ?_ | (refine ai ?_; intro hl) | (refine aj ?_; intro b) | (refine Ba ?_ ?_ <;> intro hc <;> try exact Zb) | refine pb ?_)
  refine aJ (fun j : Nat => [(0, .aO), (3, .ptr 3 _ 0), (5, .int .i64 j)]) (fun _ => [(3, some _, .cells (AG a))]) (fun j => j = 0) (fun j => 0) 0 rfl .su .su ?_
  rintro j rfl
  repeat' (first | refine Qb ?_ | (refine yF ?_; intro b75) | (refine ai ?_; intro hl) | (refine aj ?_; intro b) | (refine Ba ?_ ?_ <;> intro hc <;> try exact Zb) | refine aG ?_ | refine pd ?_ | (refine CU ?_ ?_ <;> intro hc) | (refine Fi ?_) | (refine gI (r2 := fun _ => []) (k := 0 + 1) (m := 0) (p := 75) ?_ rfl rfl (.own _ _ _ _ _ rfl (Nat.le_refl _)) (.aO _) (fun i hi => rfl) dc dc; intro o3 ho3) | (refine gI (k := 0) (m := 1) (p := 75) ?_ rfl rfl (.own _ _ _ _ _ rfl (Nat.le_refl _)) (.own _ _ _ _ _ rfl (Nat.le_refl _)) (fun i hi => by obtain rfl : i = 0 := om; rfl) dc dc; intro o2 ho2) | (refine Ro (n := 0) (r2 := fun _ => []) (m := 0) (fun o1 ho1 => ?_) rfl rfl rfl (.aO _) (fun i hi => rfl) dc dc) | (refine bw ?_; intro bs) | refine cH ?_ | refine pb ?_)
  exact ⟨Or.inr rfl, ⟨trivial, trivial⟩, _, _, rfl, .own _ _ _ _ _ _ _ rfl (Nat.le_refl _) (fun i hi => c5.of_eq (by obtain rfl : i = 0 := om; rfl)), k⟩
 rw [AK hz]
 repeat' (first | refine Qb ?_ | (refine ai ?_; intro hl) | (refine aj ?_; intro b) | (refine Ba ?_ ?_ <;> intro hc <;> try exact Zb) | refine pb ?_)
 refine aJ (fun j : Nat => [(0, pL 3 AG l), (3, .ptr 3 _ 0), (5, .int .i64 j)]) (fun _ => [(3, some _, .cells (AG a))]) (fun j => j ≤ l.length ∧ ∀ i, i < j → dO (el l i) a) (fun j => l.length - j) 0 ⟨Nat.zero_le _, fh⟩ .su .su ?_
 rintro j ⟨hj, hb⟩
 have ht1 : (l.take j).length ≤ l.length := by rw [List.length_take]; omega
 have ht2 : (l.take j ++ [a]).length ≤ l.length + 1 := by rw [List.length_append, List.length_take, List.length_singleton]; omega
 have ht3 : (l.drop j).length ≤ l.length := by rw [List.length_drop]; omega
 have ne : 0 < (l.take j ++ [a] ++ l.drop j).length := by rw [List.length_append, List.length_append, List.length_singleton]; omega
 repeat' (first | refine Qb ?_ | (refine yF ?_; intro b75) | (refine ai ?_; intro hl) | (refine aj ?_; intro b) | (refine Ba ?_ ?_ <;> intro hc <;> try exact Zb) | refine aG ?_ | refine pd ?_ | (refine CU ?_ ?_ <;> intro hc) | (refine oD j ?_) | (refine CV j ?_) | (refine Ro (n := 0) (r2 := fun i => AG (el (l.take j) i)) (m := (l.take j).length) (fun o1 ho1 => ?_) rfl rfl rfl (.tr _ _) (fun i hi => rfl) om dc) | (refine fi (f := AG) a ?_; intro o2) | (refine x7 (f := AG) (m := l.drop j) ?_; intro o3) | (refine bw ?_; intro bs) | refine cH ?_ | refine pb ?_)
 all_goals first
  | (rw [wU (k := j) (by omega) hb (by intro q; rcases q with q | ⟨_, q | ⟨_, q⟩⟩ <;> omega) (by assumption), AK hz] at k; exact E1 k)
  | (refine cut (p := dO (el l j) a) ?_ (fun hs => ?_); (focus (first | exact Or.inl am | exact Or.inr ⟨am, Or.inl am⟩ | exact Or.inr ⟨am, Or.inr ⟨am, am⟩⟩)); (refine ⟨j + 1, by dsimp only; omega, ⟨om, fun i hi => ?_⟩, .su, .su⟩; by_cases q : i = j; (subst q; exact hs); (exact hb i om)))
  | (rw [uC (k := j) (by omega) hb (fun q => ⟨by intro q; rcases q with q | ⟨_, q | ⟨_, q⟩⟩ <;> omega, by assumption⟩), AK ne] at k; exact ⟨Or.inr rfl, ⟨trivial, trivial⟩, _, _, rfl, fx, k⟩)
  | (rw [uC (k := j) (by omega) hb (fun q => by omega), AK ne] at k; exact ⟨Or.inr rfl, ⟨trivial, trivial⟩, _, _, rfl, fx, k⟩)
noncomputable def JQ (u : aK) (x : rU) (i : Nat) : dC := oF (el x.bo i) (dK u (el x.bo i)).a
def Km (u : aK) (x : rU) (i : Nat) : Prop := (dK u (el x.bo i)).op = 9 ∧ i + 1 < x.bo.length ∧ (el x.bo (i + 1)).call = (i : Nat)
noncomputable def Hx (u : aK) (p : cZ) (x : rU) (i : Nat) : Prop := (JQ u x i).kind = 3 ∧ p.cls ∈ aA u.cl (el (gJ u) (JQ u x i).site.toNat).cls
def Hy (u : aK) (x : rU) (i : Nat) (v : dC) : nP := ⟨(el x.bo i).fn, (el x.bo i).ins, v.site⟩
noncomputable def eO (u : aK) (p : cZ) (x : rU) : Nat → (Int → Option Int) × List nP
 | 0 => (fun _ => none, [])
 | i + 1 => if Km u x i ∧ Hx u p x i then
     (fun k => if k = (JQ u x i).n then some (nB p (((eO u p x i).1 (JQ u x i).n).getD p.start) (dK u (el x.bo i)).name) else (eO u p x i).1 k,
      if ¬ ((eO u p x i).1 (JQ u x i).n).getD p.start = p.bad ∧ nB p (((eO u p x i).1 (JQ u x i).n).getD p.start) (dK u (el x.bo i)).name = p.bad then iZ (eO u p x i).2 (Hy u x i (JQ u x i)) else (eO u p x i).2)
  else eO u p x i
theorem AL {a : nP} : ∀ {l : List nP}, (iZ l a).length ≤ l.length + 1
 | [] => Nat.le_refl _
 | x :: l => by
  rw [iZ]
  by_cases q : dO x a
  ·rw [if_pos q]
   have := AL (a := a) (l := l)
   simp only [List.length_cons]; omega
  ·rw [if_neg q]
   by_cases q2 : x = a
   ·rw [if_pos q2]; simp
   ·rw [if_neg q2]; simp
theorem pN {u : aK} {p : cZ} {x : rU} : ∀ {i : Nat}, (eO u p x i).2.length ≤ i
 | 0 => Nat.le_refl _
 | i + 1 => by
  have h := pN (u := u) (p := p) (x := x) (i := i)
  rw [eO]
  split
  ·dsimp only
   split
   ·have := AL (l := (eO u p x i).2) (a := Hy u x i (JQ u x i)); omega
   ·omega
  ·omega
theorem CW {u : aK} {p : cZ} {x : rU} {i : Nat} (h : ¬ (Km u x i ∧ Hx u p x i)) : eO u p x (i + 1) = eO u p x i := by rw [eO, if_neg h]
theorem Kn {u : aK} {p : cZ} {x : rU} {j : Nat} (h1 : j ≤ x.bo.length) (h2 : x.bo.length ≤ j + 1) : eO u p x x.bo.length = eO u p x j := by
 by_cases q : x.bo.length = j
 ·rw [q]
 ·rw [show x.bo.length = j + 1 by omega]
  exact CW fun w => by have := w.1.2.1; omega
theorem wV {u : aK} {K : PV → Prop} (k : ∀ b, K (.bool b)) : PF Tryz.prog X0 Mx 12 [.agg (bQ u)] K := by
 refine Pf E3 fun hnt => ?_
 repeat' (first | refine Qa ?_ | (refine Ba ?_ ?_ <;> try exact Za) | intro hc)
 refine aJ (ι := Nat × Int) (fun q => [(1, .ptr 1 _ 0), (3, .int .i64 q.2), (4, .int .i64 (q.1 : Nat))]) (fun _ => [(1, some _, .cells (bQ u))]) (fun q => q.1 ≤ u.fns.length) (fun q => u.fns.length - q.1) (0, 0) (Nat.zero_le _) .su .su ?_
 rintro ⟨j, c⟩ hj
 dsimp only at hj ⊢
 repeat' (first | refine Qa ?_ | (refine Ba ?_ ?_ <;> try exact Za) | (refine uu (fun n => ?_)) | intro hc)
 all_goals first
  | (exact ⟨(j + 1, _), by dsimp only; omega, by dsimp only; omega, .su, .su⟩)
  | (have k2 := k true; exact E1 k2)
  | (have k2 := k false; exact E1 k2)
theorem Fj {u : aK} {fe : List Int} {n : Int} {K : PV → Prop} (ha : ∀ i, i < u.fns.length → ∀ j, j < (el u.fns i).code.length → (el (el u.fns i).code j).args.length ≤ fZ) (kf : K (.bO [.agg (Kc ⟨0, []⟩), .bool false])) (kt : xM u = 0 → ∀ x, Kg u n x → n ≤ 300 → K (.bO [.agg (Kc x), .bool true])) : PF Tryz.prog X0 Mx 5 [.agg (bQ u), pL 1 pI fe, .int .i64 n] K := by
 refine Pf E2 fun hnt => ?_
 repeat' (first | refine Qa ?_ | (refine Ba ?_ ?_ <;> try exact Za) | (refine aq (ao (wV (fun bf => ?_)))) | (refine aq (ao (wS ha (fun e he => ?_) (fun hu x hx => ?_)))) | intro hc)
 cases bf
 all_goals repeat' (first | refine Qa ?_ | (refine Ba ?_ ?_ <;> try exact Za) | (refine aq (ao (wV (fun bf => ?_)))) | (refine aq (ao (wS ha (fun e he => ?_) (fun hu x hx => ?_)))) | intro hc)
 all_goals first
  | (exact ⟨Or.inr rfl, ⟨rfl, ⟨trivial, trivial⟩⟩, _, _, rfl, (.bO _ _ (.cons _ _ _ _ (.agg _ _ (.cons _ _ _ _ (.refl _) (.cons _ _ _ _ (.aO _ _) .nil))) (.cons _ _ _ _ (.refl _) .nil))), kf⟩)
  | (exact ⟨Or.inr rfl, ⟨rfl, ⟨trivial, trivial⟩⟩, _, _, rfl, .refl _, kf⟩)
  | (exact ⟨Or.inr rfl, ⟨rfl, ⟨trivial, trivial⟩⟩, _, _, rfl, .refl _, kt hu x hx om⟩)
def PL (x : Int × Int) : List PV := [.int .i64 x.1, .int .i64 x.2]
def AM (l : List (Int × Int)) (k : Int) : Option Int := l.findSome? fun q => if q.1 = k then some q.2 else none
theorem iF {n s : Int} : ∀ {l : List (Int × Int)} {i : Nat}, i < l.length → (el l i).1 = n → (∀ j, j < i → ¬ (el l j).1 = n) → ∀ k, AM (l.set i (n, s)) k = if k = n then some s else AM l k
 | [], i, h, _, _, _ => absurd h (Nat.not_lt_zero _)
 | y :: l, 0, _, h1, _, k => by
  have h1' : y.1 = n := h1
  show (List.findSome? _ ((n, s) :: l)) = if k = n then some s else List.findSome? _ (y :: l)
  rw [List.findSome?_cons, List.findSome?_cons]
  by_cases q : k = n
  ·rw [if_pos q, if_pos (show (n, s).1 = k from q.symm)]
  ·rw [if_neg q, if_neg (show ¬ (n, s).1 = k from fun w => q w.symm), if_neg (fun w => q (w.symm.trans h1'))]
 | y :: l, i + 1, h, h1, h0, k => by
  have h2 : ¬ y.1 = n := h0 0 om
  have ih := iF (s := s) (l := l) (i := i) (by simp at h; omega) h1 (fun j hj => h0 (j + 1) om) k
  show (List.findSome? _ (y :: l.set i (n, s))) = if k = n then some s else List.findSome? _ (y :: l)
  rw [List.findSome?_cons, List.findSome?_cons]
  by_cases q : k = n
  ·rw [if_pos q, if_neg (fun w => h2 (w.trans q))]
   have e : AM (l.set i (n, s)) k = some s := by rw [ih, if_pos q]
   exact e
  ·rw [if_neg q]
   by_cases w : y.1 = k
   ·rw [if_pos w]
   ·rw [if_neg w]
    have e : AM (l.set i (n, s)) k = AM l k := by rw [ih, if_neg q]
    exact e
theorem Hz {n : Int} {l : List (Int × Int)} (h : ∀ i, i < l.length → ¬ (el l i).1 = n) : AM l n = none := iB fun i hi => if_neg (h i hi)
theorem Nh {n : Int} {l : List (Int × Int)} {k : Nat} (hk : k < l.length) (h1 : (el l k).1 = n) (h : ∀ i, i < k → ¬ (el l i).1 = n) : AM l n = some (el l k).2 := gY (g := fun q : Int × Int => if q.1 = n then some q.2 else none) hk (if_pos h1) fun i hi => if_neg (h i hi)
theorem Ko {n s k : Int} {l : List (Int × Int)} (h : ¬ k = n) : AM (l ++ [(n, s)]) k = AM l k := by
 unfold AM
 rw [List.findSome?_append]
 have e : List.findSome? (fun q : Int × Int => if q.1 = k then some q.2 else none) [(n, s)] = none := by
  rw [List.findSome?_cons, if_neg (show ¬ (n, s).1 = k from fun w => h w.symm)]
  rfl
 rw [e]
 cases List.findSome? (fun q : Int × Int => if q.1 = k then some q.2 else none) l <;> rfl
theorem pO {u : aK} {p : cZ} {x : rU} {i : Nat} {v : dC} {s : Int} (h : Km u x i ∧ Hx u p x i) (hv : JQ u x i = v) (hs : ((eO u p x i).1 v.n).getD p.start = s) : eO u p x (i + 1) = (fun k => if k = v.n then some (nB p s (dK u (el x.bo i)).name) else (eO u p x i).1 k, if ¬ s = p.bad ∧ nB p s (dK u (el x.bo i)).name = p.bad then iZ (eO u p x i).2 (Hy u x i v) else (eO u p x i).2) := by
 rw [eO, if_pos h, hv, hs]
theorem pP {p q : PV} (h : p = q) : Cv p q := h ▸ .refl _
theorem Rq {u : aK} (uo : wG u) {o : uw} (h : AE u o) (h9 : (dK u o).op = 9) : 0 ≤ (dK u o).a ∧ (dK u o).a < o.bg.length := by
 have h0 := h.i0
 have h1 := h.i1
 have fo := uo.at h.f0 h.f1
 have hr := (xL (fo.ins o.ins.toNat om)).2.1
 have := nc hr (show hasB (dK u o).op 97 = true by rw [h9]; decide) (by show (dK u o).op ≠ 13 ∨ _; omega)
 rw [h.vl]; exact this
theorem kR {u : aK} {p : cZ} {x : rU} {n : Int} {K : PV → Prop} (hu : xM u = 0) (hx : Kg u n x) (hn : n ≤ 300) (ha : ∀ i, i < u.fns.length → ∀ j, j < (el u.fns i).code.length → (el (el u.fns i).code j).args.length ≤ fZ) (ke : ¬ sY p = 0 → K (.bO [.aO, .int .i64 (sY p)])) (k : sY p = 0 → K (.bO [pA (eO u p x x.bo.length).2, .int .i64 0])) : PF Tryz.prog X0 Mx 7 [.agg (bQ u), .agg (eZ p), .agg (Kc x)] K := by
 refine Pf yi fun hnt => ?_
 have uo := Re hu
 have ct := uo.hv.ok.ct
 have qW := uo.f256
 have BY : ∀ i, i < u.fns.length → (el u.fns i).code.length ≤ 1024 := fun i hi => (uo.fn i hi).Q2
 have hlen := hx.len
 repeat' (first | refine Qb ?_ | (refine ai ?_; intro hl) | (refine aj ?_; intro b) | (refine Ba ?_ ?_ <;> intro hc <;> try exact Zb) | (refine aq (ao (rP ha (fun a c => ?_)))) | refine aq (ao (rV ?_)) | refine aq (ao (AJ qW BY ?_)) | refine pb ?_)
 rotate_left
 ·have k2 := ke am; exact E1 k2
 have hp : sY p = 0 := by assumption
 have k := k hp
 refine aJ (ι := Nat × Option Nat × List (Int × Int)) (fun q => [(3, .ptr 3 _ 0), (4, .ptr 4 _ 0), (5, .ptr 5 _ 0), (12, pL 3 Hv (gJ u)), (13, pA (eO u p x q.1).2), (14, oL 125 q.2.1 2 q.2.2), (15, .int .i64 (q.1 : Nat))]) (fun q => [(3, some _, .cells (bQ u)), (4, some _, .cells (eZ p)), (5, some _, .cells (Kc x)), (125, q.2.1, aL 2 PL q.2.2)]) (fun q => q.1 ≤ x.bo.length ∧ q.2.2.length ≤ q.1 ∧ ∀ k, (eO u p x q.1).1 k = AM q.2.2 k) (fun q => x.bo.length - q.1) (0, none, []) ⟨Nat.zero_le _, Nat.le_refl _, fun k => rfl⟩ (.c (.c (.c (.c (.c (.cons rfl (.vO 125 2) (.c .nil))))))) (.c (.c (.c (.vO .nil)))) ?_
 rintro ⟨j, bp, ol⟩ ⟨hj, hol, hlk⟩
 dsimp only at hj hol hlk ⊢
 by_cases hlt : j + 1 < x.bo.length
 ·have ho := hx.bo _ (b8 (show j < x.bo.length by omega))
  have f0 := ho.f0
  have f1 := ho.f1
  have f2 := ho.i0
  have f3 := ho.i1
  have f4 := ho.st
  have fa := Rq uo ho
  have hsl := wT (u := u)
  have f5 := fun (h9 : (dK u (el x.bo j)).op = 9) (h3 : (el (el x.bo j).bg (dK u (el x.bo j)).a.toNat).kind = 3) => f4 (dK u (el x.bo j)).a.toNat (by have := fa h9; omega) h3
  have hvv : (dK u (el x.bo j)).op = 9 → JQ u x j = (el (el x.bo j).bg (dK u (el x.bo j)).a.toNat) := fun h9 => if_pos (fa h9)
  simp only [dK] at fa f5
  repeat' (first | refine Qb ?_ | (refine mL (j + 1) ?_) | (refine ai ?_; intro hl) | (refine aj ?_; intro b) | (refine Ba ?_ ?_ <;> intro hc <;> try exact Zb) | refine aG ?_ | refine pd ?_ | refine bG (us := bh u.cl) ?_ rfl rfl ⟨by show 1 ≤ 3; decide, rfl⟩ | (refine dW (aM (lV ct (fun hc => ?_) fun hc => ?_))) | refine cH ?_ | refine pb ?_)
  all_goals first
   | (have hst := CW (u := u) (p := p) (x := x) (i := j) (fun w => by first | exact absurd w.1.1 am | exact absurd w.1.2.2 am | (have h9 := w.1.1; have e := hvv h9; have w2 := w.2; unfold Hx at w2; rw [e] at w2; first | exact absurd w2.1 am | exact absurd w2.2 am)); exact ⟨(j + 1, bp, ol), by dsimp only; omega, ⟨by dsimp only; omega, by dsimp only; omega, fun k => by dsimp only; rw [hst]; exact hlk k⟩, (.c (.c (.c (.c (.cons rfl (pP (by rw [hst])) (.c (.c .nil))))))), .c (.c (.c (.c .nil)))⟩)
   | skip
  have h9 : (dK u (el x.bo j)).op = 9 := by assumption
  have hE : Km u x j := ⟨h9, hlt, am⟩
  have hC : Hx u p x j := by
   unfold Hx
   rw [hvv h9]
   exact ⟨am, am⟩
  have hst := fun s => pO (s := s) ⟨hE, hC⟩ (hvv h9)
  simp only [hlk] at hst
  refine aJ (fun k : Nat => [(3, .ptr 3 _ 0), (4, .ptr 4 _ 0), (5, .ptr 5 _ 0), (12, pL 3 Hv (gJ u)), (13, pA (eO u p x j).2), (14, oL 125 bp 2 ol), (15, .int .i64 (j : Nat)), (16, .ptr 16 _ 0), (17, .ptr 17 _ 0), (18, .ptr 18 _ 0), (19, .int .i64 (k : Nat))]) (fun _ => [(3, some _, .cells (bQ u)), (4, some _, .cells (eZ p)), (5, some _, .cells (Kc x)), (16, some _, .cells (nA (el x.bo j))), (17, some _, .cells (fw (dK u (el x.bo j)))), (18, some _, .cells (dd (el (el x.bo j).bg (dK u (el x.bo j)).a.toNat))), (125, bp, aL 2 PL ol)]) (fun k => k ≤ ol.length ∧ ∀ i, i < k → ¬ (el ol i).1 = (el (el x.bo j).bg (dK u (el x.bo j)).a.toNat).n) (fun k => ol.length - k) 0 ⟨Nat.zero_le _, fh⟩ .su .su ?_
  rintro k ⟨hk, hkb⟩
  by_cases hlt2 : k < ol.length
  ·by_cases hkey : (el ol k).1 = (el (el x.bo j).bg (dK u (el x.bo j)).a.toNat).n
   ·have hk' := hlt2
    have key' := hkey
    have kb' := hkb
    have hs' : (AM ol (el (el x.bo j).bg (dK u (el x.bo j)).a.toNat).n).getD p.start = (el ol k).2 := by rw [Nh hlt2 hkey hkb]; rfl
    have lkL : ∀ k2, ¬ k2 = (el (el x.bo j).bg (dK u (el x.bo j)).a.toNat).n → AM ol k2 = AM ol k2 := fun _ _ => rfl
    have hst' := hst (el ol k).2 hs'
    repeat' (first | refine Qb ?_ | (refine ai ?_; intro hl) | (refine aj ?_; intro b) | (refine Ba ?_ ?_ <;> intro hc <;> try exact Zb) | refine aG ?_ | refine pd ?_ | (refine ef (fun id e => ?_); cases e) | refine c9 ?_ | refine aq (ao (oE ?_)) | (refine aq (ao (ja (l := (eO u p x j).2) (a := Hy u x j (el (el x.bo j).bg (dK u (el x.bo j)).a.toNat)) (by have := pN (u := u) (p := p) (x := x) (i := j); omega) ?_))) | (refine bw ?_; intro bs) | (refine fi (f := PL) ((el (el x.bo j).bg (dK u (el x.bo j)).a.toNat).n, p.start) ?_; intro oid2) | refine aT ?_ | (refine aT (v := .int .i64 (nB p _ (dK u (el x.bo j)).name)) ?_ rfl rfl (by rw [if_pos rfl]; rfl)) | refine cH ?_ | refine pb ?_)
    all_goals first
     | (refine cut (p := (eO u p x (j + 1)).2 = (eO u p x j).2) ?_ (fun hA => ?_); (focus (rw [hst']; exact if_neg (fun w => by first | exact w.1 am | exact absurd w.2 am))); exact ⟨(j + 1, _, (ol).set k ((el (el x.bo j).bg (dK u (el x.bo j)).a.toNat).n, nB p (el ol k).2 (dK u (el x.bo j)).name)), by dsimp only; omega, ⟨by dsimp only; omega, by dsimp only; rw [List.length_set]; omega, fun k2 => by dsimp only; first | (rw [hst', iF hk' key' kb']; done) | (rw [hst', iF hk' key' kb']; dsimp only; by_cases w : k2 = (el (el x.bo j).bg (dK u (el x.bo j)).a.toNat).n; (rw [if_pos w, if_pos w]); (rw [if_neg w, if_neg w]; first | exact lkL k2 w | exact (hlk k2).trans (lkL k2 w)))⟩, (.c (.c (.c (.c (.cons rfl (pP (by rw [hA])) (.cons rfl (pP (by show PV.own _ _ _ _ = PV.own _ _ _ _; rw [List.length_set])) (.c .nil))))))), (.c (.c (.c (.cons rfl (.arr _ _ _ _ _ (by rw [List.length_set]; exact Nat.le_refl _) (fun i hi => c5.of_eq (by rw [dp hk']; by_cases w : i = k; (rw [if_pos w, if_pos w]; show [PV.int .i64 (el ol k).1, PV.int .i64 _] = [PV.int .i64 _, PV.int .i64 _]; rw [key']); (rw [if_neg w, if_neg w])))) .nil))))⟩)
     | (refine cut (p := (eO u p x (j + 1)).2 = iZ (eO u p x j).2 (Hy u x j (el (el x.bo j).bg (dK u (el x.bo j)).a.toNat))) ?_ (fun hA => ?_); (focus (rw [hst']; exact if_pos ⟨am, am⟩)); exact ⟨(j + 1, _, (ol).set k ((el (el x.bo j).bg (dK u (el x.bo j)).a.toNat).n, nB p (el ol k).2 (dK u (el x.bo j)).name)), by dsimp only; omega, ⟨by dsimp only; omega, by dsimp only; rw [List.length_set]; omega, fun k2 => by dsimp only; first | (rw [hst', iF hk' key' kb']; done) | (rw [hst', iF hk' key' kb']; dsimp only; by_cases w : k2 = (el (el x.bo j).bg (dK u (el x.bo j)).a.toNat).n; (rw [if_pos w, if_pos w]); (rw [if_neg w, if_neg w]; first | exact lkL k2 w | exact (hlk k2).trans (lkL k2 w)))⟩, (.c (.c (.c (.c (.cons rfl (pP (by rw [hA])) (.cons rfl (pP (by show PV.own _ _ _ _ = PV.own _ _ _ _; rw [List.length_set])) (.c .nil))))))), (.c (.c (.c (.cons rfl (.arr _ _ _ _ _ (by rw [List.length_set]; exact Nat.le_refl _) (fun i hi => c5.of_eq (by rw [dp hk']; by_cases w : i = k; (rw [if_pos w, if_pos w]; show [PV.int .i64 (el ol k).1, PV.int .i64 _] = [PV.int .i64 _, PV.int .i64 _]; rw [key']); (rw [if_neg w, if_neg w])))) .nil))))⟩)
   ·repeat' (first | refine Qb ?_ | (refine ai ?_; intro hl) | (refine aj ?_; intro b) | (refine Ba ?_ ?_ <;> intro hc <;> try exact Zb) | refine aG ?_ | refine pd ?_ | (refine ef (fun id e => ?_); cases e) | refine c9 ?_ | refine aq (ao (oE ?_)) | (refine aq (ao (ja (l := (eO u p x j).2) (a := Hy u x j (el (el x.bo j).bg (dK u (el x.bo j)).a.toNat)) (by have := pN (u := u) (p := p) (x := x) (i := j); omega) ?_))) | (refine bw ?_; intro bs) | (refine fi (f := PL) ((el (el x.bo j).bg (dK u (el x.bo j)).a.toNat).n, p.start) ?_; intro oid2) | refine aT ?_ | (refine aT (v := .int .i64 (nB p _ (dK u (el x.bo j)).name)) ?_ rfl rfl (by rw [if_pos rfl]; rfl)) | refine cH ?_ | refine pb ?_)
    refine ⟨k + 1, by dsimp only; omega, ⟨om, fun i hi => ?_⟩, .su, .su⟩
    by_cases q : i = k
    ·subst q; exact hkey
    ·exact hkb i om
  ·have hll : (ol ++ [((el (el x.bo j).bg (dK u (el x.bo j)).a.toNat).n, p.start)]).length = ol.length + 1 := by simp
   have hk0 : k = ol.length := by omega
   have hel : el (ol ++ [((el (el x.bo j).bg (dK u (el x.bo j)).a.toNat).n, p.start)]) k = ((el (el x.bo j).bg (dK u (el x.bo j)).a.toNat).n, p.start) := by
    rw [iw, if_neg (by omega), hk0, Nat.sub_self]; rfl
   have hk' : k < (ol ++ [((el (el x.bo j).bg (dK u (el x.bo j)).a.toNat).n, p.start)]).length := by omega
   have key' : (el (ol ++ [((el (el x.bo j).bg (dK u (el x.bo j)).a.toNat).n, p.start)]) k).1 = (el (el x.bo j).bg (dK u (el x.bo j)).a.toNat).n := by rw [hel]
   have kb' : ∀ i, i < k → ¬ (el (ol ++ [((el (el x.bo j).bg (dK u (el x.bo j)).a.toNat).n, p.start)]) i).1 = (el (el x.bo j).bg (dK u (el x.bo j)).a.toNat).n := fun i hi => by
    rw [iw, if_pos (by omega)]; exact hkb i hi
   have hs' : (AM ol (el (el x.bo j).bg (dK u (el x.bo j)).a.toNat).n).getD p.start = (el (ol ++ [((el (el x.bo j).bg (dK u (el x.bo j)).a.toNat).n, p.start)]) k).2 := by
    rw [hel, Hz fun i hi => hkb i (by omega)]; rfl
   have lkL : ∀ k2, ¬ k2 = (el (el x.bo j).bg (dK u (el x.bo j)).a.toNat).n → AM ol k2 = AM (ol ++ [((el (el x.bo j).bg (dK u (el x.bo j)).a.toNat).n, p.start)]) k2 := fun k2 hk2 => (Ko hk2).symm
   have hst' := hst (el (ol ++ [((el (el x.bo j).bg (dK u (el x.bo j)).a.toNat).n, p.start)]) k).2 hs'
   repeat' (first | refine Qb ?_ | (refine ai ?_; intro hl) | (refine aj ?_; intro b) | (refine Ba ?_ ?_ <;> intro hc <;> try exact Zb) | refine aG ?_ | refine pd ?_ | (refine ef (fun id e => ?_); cases e) | refine c9 ?_ | refine aq (ao (oE ?_)) | (refine aq (ao (ja (l := (eO u p x j).2) (a := Hy u x j (el (el x.bo j).bg (dK u (el x.bo j)).a.toNat)) (by have := pN (u := u) (p := p) (x := x) (i := j); omega) ?_))) | (refine bw ?_; intro bs) | (refine fi (f := PL) ((el (el x.bo j).bg (dK u (el x.bo j)).a.toNat).n, p.start) ?_; intro oid2) | refine aT ?_ | (refine aT (v := .int .i64 (nB p _ (dK u (el x.bo j)).name)) ?_ rfl rfl (by rw [if_pos rfl]; rfl)) | refine cH ?_ | refine pb ?_)
   all_goals first
    | (refine cut (p := (eO u p x (j + 1)).2 = (eO u p x j).2) ?_ (fun hA => ?_); (focus (rw [hst']; exact if_neg (fun w => by first | exact w.1 am | exact absurd w.2 am))); exact ⟨(j + 1, _, ((ol ++ [((el (el x.bo j).bg (dK u (el x.bo j)).a.toNat).n, p.start)])).set k ((el (el x.bo j).bg (dK u (el x.bo j)).a.toNat).n, nB p (el (ol ++ [((el (el x.bo j).bg (dK u (el x.bo j)).a.toNat).n, p.start)]) k).2 (dK u (el x.bo j)).name)), by dsimp only; omega, ⟨by dsimp only; omega, by dsimp only; rw [List.length_set]; omega, fun k2 => by dsimp only; first | (rw [hst', iF hk' key' kb']; done) | (rw [hst', iF hk' key' kb']; dsimp only; by_cases w : k2 = (el (el x.bo j).bg (dK u (el x.bo j)).a.toNat).n; (rw [if_pos w, if_pos w]); (rw [if_neg w, if_neg w]; first | exact lkL k2 w | exact (hlk k2).trans (lkL k2 w)))⟩, (.c (.c (.c (.c (.cons rfl (pP (by rw [hA])) (.cons rfl (pP (by show PV.own _ _ _ _ = PV.own _ _ _ _; rw [List.length_set])) (.c .nil))))))), (.c (.c (.c (.cons rfl (.arr _ _ _ _ _ (by rw [List.length_set]; exact Nat.le_refl _) (fun i hi => c5.of_eq (by rw [dp hk']; by_cases w : i = k; (rw [if_pos w, if_pos w]; show [PV.int .i64 (el (ol ++ [((el (el x.bo j).bg (dK u (el x.bo j)).a.toNat).n, p.start)]) k).1, PV.int .i64 _] = [PV.int .i64 _, PV.int .i64 _]; rw [key']); (rw [if_neg w, if_neg w])))) .nil))))⟩)
    | (refine cut (p := (eO u p x (j + 1)).2 = iZ (eO u p x j).2 (Hy u x j (el (el x.bo j).bg (dK u (el x.bo j)).a.toNat))) ?_ (fun hA => ?_); (focus (rw [hst']; exact if_pos ⟨am, am⟩)); exact ⟨(j + 1, _, ((ol ++ [((el (el x.bo j).bg (dK u (el x.bo j)).a.toNat).n, p.start)])).set k ((el (el x.bo j).bg (dK u (el x.bo j)).a.toNat).n, nB p (el (ol ++ [((el (el x.bo j).bg (dK u (el x.bo j)).a.toNat).n, p.start)]) k).2 (dK u (el x.bo j)).name)), by dsimp only; omega, ⟨by dsimp only; omega, by dsimp only; rw [List.length_set]; omega, fun k2 => by dsimp only; first | (rw [hst', iF hk' key' kb']; done) | (rw [hst', iF hk' key' kb']; dsimp only; by_cases w : k2 = (el (el x.bo j).bg (dK u (el x.bo j)).a.toNat).n; (rw [if_pos w, if_pos w]); (rw [if_neg w, if_neg w]; first | exact lkL k2 w | exact (hlk k2).trans (lkL k2 w)))⟩, (.c (.c (.c (.c (.cons rfl (pP (by rw [hA])) (.cons rfl (pP (by show PV.own _ _ _ _ = PV.own _ _ _ _; rw [List.length_set])) (.c .nil))))))), (.c (.c (.c (.cons rfl (.arr _ _ _ _ _ (by rw [List.length_set]; exact Nat.le_refl _) (fun i hi => c5.of_eq (by rw [dp hk']; by_cases w : i = k; (rw [if_pos w, if_pos w]; show [PV.int .i64 (el (ol ++ [((el (el x.bo j).bg (dK u (el x.bo j)).a.toNat).n, p.start)]) k).1, PV.int .i64 _] = [PV.int .i64 _, PV.int .i64 _]; rw [key']); (rw [if_neg w, if_neg w])))) .nil))))⟩)
 ·repeat' (first | refine Qb ?_ | (refine ai ?_; intro hl) | (refine aj ?_; intro b) | (refine Ba ?_ ?_ <;> intro hc <;> try exact Zb) | refine pb ?_)
  rw [Kn hj (by omega)] at k
  exact E1 k
end Go.Proofs.YtgaihilgffficaaGreatDoor.Ev
