/- Supergraphs and executions in plain terms. No program in this text. -/
import Derived.Test.YtlocnfaeiacphaaGreatDoorSyD
/- Supergraphs and executions in plain terms: indexes, checks, paths. No program in this text. -/
set_option linter.unusedVariables false
set_option linter.unusedSimpArgs false
namespace Go.Proofs.YtlocnfaeiacphaaGreatDoor.Ev
open Go
structure Nd where
  f : Int
  k : Int
  i : Int
  deriving DecidableEq, Inhabited
structure Ed where
  a : Int
  b : Int
  k : Int
  c : Int
  deriving DecidableEq, Inhabited
structure Ob where
  f : Int
  i : Int
  fr : Int
  c : Int
  v : AV
  deriving Inhabited
/-! the first place -/
def ixFrom {α : Type} (p : α → Bool) : List α → Nat → Int
  | [], _ => -1
  | x :: l, j => if p x then (j : Int) else ixFrom p l (j + 1)
def ix {α : Type} (p : α → Bool) (l : List α) : Int := ixFrom p l 0
theorem ixFrom_drop {α : Type} {p : α → Bool} {l : List α} {j : Nat} (h : j < l.length) : ixFrom p (l.drop j) j = if p l[j] then (j : Int) else ixFrom p (l.drop (j + 1)) (j + 1) := by
  rw [List.drop_eq_getElem_cons h, ixFrom]
theorem ixFrom_end {α : Type} {p : α → Bool} {l : List α} {j : Nat} (h : l.length ≤ j) : ixFrom p (l.drop j) j = -1 := by
  rw [List.drop_eq_nil_of_le h, ixFrom]
theorem ix_zero {α : Type} (p : α → Bool) (l : List α) : ix p l = ixFrom p (l.drop 0) 0 := by simp [ix]
theorem ixFrom_range {α : Type} {p : α → Bool} : ∀ (l : List α) (j : Nat), ixFrom p l j = -1 ∨ ∃ k : Nat, ixFrom p l j = ((j + k : Nat) : Int) ∧ ∃ h : k < l.length, p l[k] = true ∧ ∀ m (hm : m < k), p (l[m]'(by omega)) = false
  | [], j => Or.inl rfl
  | x :: l, j => by
    rw [ixFrom]
    by_cases hx : p x
    · rw [if_pos hx]
      exact Or.inr ⟨0, by simp, by simp, hx, fun m hm => by omega⟩
    · rw [if_neg hx]
      rcases ixFrom_range l (j + 1) with h | ⟨k, h1, h2, h3, h4⟩
      · exact Or.inl h
      · refine Or.inr ⟨k + 1, by rw [h1]; congr 1; omega, by simpa using h2, by simpa using h3, fun m hm => ?_⟩
        cases m with
        | zero => simpa using hx
        | succ m => simpa using h4 m (by omega)
theorem ixFrom_none {α : Type} {p : α → Bool} : ∀ (l : List α) (j : Nat), ixFrom p l j = -1 → ∀ x ∈ l, p x = false
  | [], j, h, x, hx => by cases hx
  | y :: l, j, h, x, hx => by
    rw [ixFrom] at h
    by_cases hy : p y
    · rw [if_pos hy] at h; omega
    · rw [if_neg hy] at h
      rcases List.mem_cons.1 hx with rfl | hx
      · simpa using hy
      · exact ixFrom_none l (j + 1) h x hx
/-- the first place, or none -/
theorem ix_range {α : Type} (p : α → Bool) (l : List α) : ix p l = -1 ∨ ∃ k : Nat, ix p l = (k : Int) ∧ ∃ h : k < l.length, p l[k] = true ∧ ∀ m (hm : m < k), p (l[m]'(by omega)) = false := by
  rcases ixFrom_range (p := p) l 0 with h | ⟨k, h1, h2⟩
  · exact Or.inl h
  · exact Or.inr ⟨k, by rw [ix, h1]; simp, h2⟩
theorem ix_none {α : Type} {p : α → Bool} {l : List α} (h : ix p l = -1) : ∀ x ∈ l, p x = false := ixFrom_none l 0 h
def ndIx (ns : List Nd) (n : Nd) : Int := ix (fun x => decide (x = n)) ns
def edIx (es : List Ed) (e : Ed) : Int := ix (fun x => decide (x = e)) es
def kdIx (ns : List Nd) (f k : Int) : Int := ix (fun x => decide (x.f = f ∧ x.k = k)) ns
/-! orders -/
def lessN (a b : Nd) : Bool := if a.f = b.f then (if a.k = b.k then decide (a.i < b.i) else decide (a.k < b.k)) else decide (a.f < b.f)
def lessE (a b : Ed) : Bool := if a.a = b.a then (if a.b = b.b then (if a.k = b.k then decide (a.c < b.c) else decide (a.k < b.k)) else decide (a.b < b.b)) else decide (a.a < b.a)
theorem lessN_iff {a b : Nd} : lessN a b = true ↔ a.f < b.f ∨ (a.f = b.f ∧ (a.k < b.k ∨ (a.k = b.k ∧ a.i < b.i))) := by
  unfold lessN
  split
  · split <;> simp only [decide_eq_true_eq] <;> omega
  · simp only [decide_eq_true_eq]; omega
theorem lessE_iff {a b : Ed} : lessE a b = true ↔ a.a < b.a ∨ (a.a = b.a ∧ (a.b < b.b ∨ (a.b = b.b ∧ (a.k < b.k ∨ (a.k = b.k ∧ a.c < b.c))))) := by
  unfold lessE
  split
  · split
    · split <;> simp only [decide_eq_true_eq] <;> omega
    · simp only [decide_eq_true_eq]; omega
  · simp only [decide_eq_true_eq]; omega
/-! the check of the nodes -/
def badN (n : Nd) : Int := if n.k < 1 ∨ 4 < n.k then 12 else if n.f < 0 ∨ (n.k = 2 ∧ n.i < 0) ∨ (n.k ≠ 2 ∧ n.i ≠ -1) then 4 else 0
/-- the error of the nodes from the j-th on -/
def errN (ns : List Nd) (j : Nat) : Int :=
  if h : j < ns.length then
    if badN ns[j] ≠ 0 then badN ns[j]
    else if hj : 0 < j then (if lessN (ns[j - 1]'(by omega)) ns[j] then errN ns (j + 1) else 13)
    else errN ns (j + 1)
  else 0
  termination_by ns.length - j
/-- every function has a start, an exit and a throw node -/
def threeR (ns : List Nd) : Bool := ns.all fun n => decide (0 ≤ kdIx ns n.f 1) && decide (0 ≤ kdIx ns n.f 3) && decide (0 ≤ kdIx ns n.f 4)
def cnt (ns : List Nd) (f : Int) : Nat := (ns.filter fun n => decide (n.f = f ∧ n.k ≠ 2)).length
def threeP (ns : List Nd) : Bool := ns.all fun n => decide (cnt ns n.f = 3)
theorem errN_step {ns : List Nd} {j : Nat} (h : errN ns j = 0) (hj : j < ns.length) : badN ns[j] = 0 ∧ (∀ h0 : 0 < j, lessN (ns[j - 1]'(by omega)) ns[j] = true) ∧ errN ns (j + 1) = 0 := by
  rw [errN, dif_pos hj] at h
  by_cases hb : badN ns[j] = 0
  · rw [if_neg (by simpa using hb)] at h
    by_cases h0 : 0 < j
    · rw [dif_pos h0] at h
      by_cases hl : lessN (ns[j - 1]'(by omega)) ns[j] = true
      · rw [if_pos hl] at h
        exact ⟨hb, fun _ => hl, h⟩
      · rw [if_neg hl] at h; omega
    · rw [dif_neg h0] at h
      exact ⟨hb, fun q => absurd q h0, h⟩
  · rw [if_pos hb] at h; exact absurd h hb
theorem errN_all {ns : List Nd} (h : errN ns 0 = 0) : ∀ j, j ≤ ns.length → errN ns j = 0
  | 0, _ => h
  | j + 1, hj => (errN_step (errN_all h j (by omega)) (by omega)).2.2
theorem lessN_trans {a b c : Nd} (h1 : lessN a b = true) (h2 : lessN b c = true) : lessN a c = true := by
  rw [lessN_iff] at *
  omega
theorem sortedN {ns : List Nd} (h : errN ns 0 = 0) : ∀ (d i : Nat) (hi : i + d + 1 < ns.length), lessN (ns[i]'(by omega)) ns[i + d + 1] = true
  | 0, i, hi => by
    have := (errN_step (errN_all h (i + 1) (by omega)) (by omega)).2.1 (by omega)
    simpa using this
  | d + 1, i, hi => by
    have h1 := sortedN h d i (by omega)
    have h2 := (errN_step (errN_all h (i + d + 1 + 1) (by omega)) (by omega)).2.1 (by omega)
    exact lessN_trans h1 h2
theorem pairN {ns : List Nd} (h : errN ns 0 = 0) : ns.Pairwise fun a b => lessN a b = true := by
  rw [List.pairwise_iff_getElem]
  intro i j hi hj hij
  have := sortedN h (j - i - 1) i (by omega)
  have e : i + (j - i - 1) + 1 = j := by omega
  simpa [e] using this
theorem badN_all {ns : List Nd} (h : errN ns 0 = 0) : ∀ n ∈ ns, badN n = 0 := fun n hn => by
  obtain ⟨j, hj, rfl⟩ := List.mem_iff_getElem.1 hn
  exact (errN_step (errN_all h j (by omega)) hj).1
theorem badN_iff {n : Nd} : badN n = 0 ↔ (1 ≤ n.k ∧ n.k ≤ 4) ∧ 0 ≤ n.f ∧ (n.k = 2 → 0 ≤ n.i) ∧ (n.k ≠ 2 → n.i = -1) := by
  unfold badN
  split
  · constructor
    · intro h; omega
    · intro h; omega
  · split
    · constructor
      · intro h; omega
      · intro h; omega
    · constructor
      · intro _; omega
      · intro _; rfl
def has1 (ns : List Nd) (f k : Int) : Nat := (ns.filter fun n => decide (n.f = f ∧ n.k = k)).length
theorem cnt_sum (f : Int) : ∀ (ns : List Nd), (∀ n ∈ ns, 1 ≤ n.k ∧ n.k ≤ 4) → cnt ns f = has1 ns f 1 + has1 ns f 3 + has1 ns f 4
  | [], _ => rfl
  | n :: ns, h => by
    have ih := cnt_sum f ns fun m hm => h m (by simp [hm])
    have hk := h n (by simp)
    unfold cnt has1 at *
    simp only [List.filter_cons]
    generalize (ns.filter fun n => decide (n.f = f ∧ n.k ≠ 2)) = L0 at *
    generalize (ns.filter fun n => decide (n.f = f ∧ n.k = 1)) = L1 at *
    generalize (ns.filter fun n => decide (n.f = f ∧ n.k = 3)) = L3 at *
    generalize (ns.filter fun n => decide (n.f = f ∧ n.k = 4)) = L4 at *
    by_cases hf : n.f = f
    · have : n.k = 1 ∨ n.k = 2 ∨ n.k = 3 ∨ n.k = 4 := by omega
      rcases this with q | q | q | q
      · simp [hf, q]; omega
      · simp [hf, q]; omega
      · simp [hf, q]; omega
      · simp [hf, q]; omega
    · simp [hf]; omega
theorem has1_le {ns : List Nd} (h : errN ns 0 = 0) (f k : Int) (hk : k ≠ 2) : has1 ns f k ≤ 1 := by
  have hp := (pairN h).filter fun n => decide (n.f = f ∧ n.k = k)
  have hb := badN_all h
  unfold has1
  generalize hl : ns.filter (fun n => decide (n.f = f ∧ n.k = k)) = l at *
  have hm : ∀ n ∈ l, n.f = f ∧ n.k = k ∧ n.i = -1 := fun n hn => by
    rw [← hl, List.mem_filter] at hn
    have h1 : n.f = f ∧ n.k = k := by simpa using hn.2
    have h2 := badN_iff.1 (hb n hn.1)
    exact ⟨h1.1, h1.2, h2.2.2.2 (by rw [h1.2]; exact hk)⟩
  match l, hp, hm with
  | [], _, _ => simp
  | [_], _, _ => simp
  | a :: b :: r, hp, hm =>
    have h1 := (List.pairwise_cons.1 hp).1 b (by simp)
    have h2 := hm a (by simp)
    have h3 := hm b (by simp)
    rw [lessN_iff] at h1
    omega
theorem has1_pos {ns : List Nd} {f k : Int} : 0 < has1 ns f k ↔ 0 ≤ kdIx ns f k := by
  unfold has1 kdIx
  constructor
  · intro h
    rcases ix_range (fun x : Nd => decide (x.f = f ∧ x.k = k)) ns with q | ⟨j, q, _⟩
    · exfalso
      have := ix_none q
      have e : ns.filter (fun n => decide (n.f = f ∧ n.k = k)) = [] := List.filter_eq_nil_iff.2 fun a ha => by rw [this a ha]; simp
      rw [e] at h; simp at h
    · rw [q]; omega
  · intro h
    rcases ix_range (fun x : Nd => decide (x.f = f ∧ x.k = k)) ns with q | ⟨j, q, hj, hp, _⟩
    · rw [q] at h; omega
    · exact List.length_pos_of_mem (List.mem_filter.2 ⟨List.getElem_mem hj, hp⟩)
/-- both ways to ask for three nodes of each function -/
theorem three_eq {ns : List Nd} (h : errN ns 0 = 0) : threeP ns = threeR ns := by
  unfold threeP threeR
  have hb := badN_all h
  apply Bool.eq_iff_iff.2
  rw [List.all_eq_true, List.all_eq_true]
  have key : ∀ n : Nd, (decide (cnt ns n.f = 3) = true) ↔ ((decide (0 ≤ kdIx ns n.f 1) && decide (0 ≤ kdIx ns n.f 3) && decide (0 ≤ kdIx ns n.f 4)) = true) := fun n => by
    rw [cnt_sum n.f ns fun m hm => (badN_iff.1 (hb m hm)).1]
    have a1 := has1_le h n.f 1 (by omega)
    have a3 := has1_le h n.f 3 (by omega)
    have a4 := has1_le h n.f 4 (by omega)
    have b1 := has1_pos (ns := ns) (f := n.f) (k := 1)
    have b3 := has1_pos (ns := ns) (f := n.f) (k := 3)
    have b4 := has1_pos (ns := ns) (f := n.f) (k := 4)
    simp only [Bool.and_eq_true, decide_eq_true_eq]
    constructor
    · intro q
      exact ⟨⟨b1.1 (by omega), b3.1 (by omega)⟩, b4.1 (by omega)⟩
    · rintro ⟨⟨q1, q3⟩, q4⟩
      have := b1.2 q1
      have := b3.2 q3
      have := b4.2 q4
      omega
  constructor
  · intro q n hn; exact (key n).1 (q n hn)
  · intro q n hn; exact (key n).2 (q n hn)
end Go.Proofs.YtlocnfaeiacphaaGreatDoor.Ev

/- Supergraphs and executions in plain terms: the check of the edges, steps and paths. No program in this text. -/
set_option linter.unusedVariables false
set_option linter.unusedSimpArgs false
namespace Go.Proofs.YtlocnfaeiacphaaGreatDoor.Ev
open Go
def nd (ns : List Nd) (x : Int) : Nd := ns.getD x.toNat default
def ed (es : List Ed) (x : Int) : Ed := es.getD x.toNat default
def ob (os : List Ob) (x : Int) : Ob := os.getD x.toNat default
theorem nd_nat {ns : List Nd} {j : Nat} (h : j < ns.length) : nd ns (j : Int) = ns[j] := by simp [nd, h]
theorem ed_nat {ns : List Ed} {j : Nat} (h : j < ns.length) : ed ns (j : Int) = ns[j] := by simp [ed, h]
theorem ob_nat {ns : List Ob} {j : Nat} (h : j < ns.length) : ob ns (j : Int) = ns[j] := by simp [ob, h]
theorem nd_mem {ns : List Nd} {x : Int} (h0 : 0 ≤ x) (h1 : x < ns.length) : nd ns x ∈ ns := by
  have hx : x.toNat < ns.length := by omega
  have : nd ns x = ns[x.toNat] := by simp [nd, hx]
  rw [this]; exact List.getElem_mem hx
/-! the check of the edges -/
def badE (m : Int) (e : Ed) : Int :=
  if e.a < 0 ∨ m ≤ e.a ∨ e.b < 0 ∨ m ≤ e.b then 4
  else if e.k < 1 ∨ 5 < e.k then 12
  else if e.k = 1 ∨ e.k = 5 then (if e.c = -1 then 0 else 4)
  else if e.c < 0 ∨ m ≤ e.c then 4 else 0
def hitR (ns : List Nd) (call f : Int) (e : Ed) : Bool := decide (e.k = 2 ∧ e.a = call ∧ 0 ≤ e.b ∧ e.b < ns.length ∧ (nd ns e.b).f = f ∧ (nd ns e.b).k = 1)
def callsR (ns : List Nd) (es : List Ed) (call f : Int) : Bool := es.any (hitR ns call f)
def fitsR (ns : List Nd) (cl : Bool) (e : Ed) : Bool :=
  if e.k = 1 ∨ e.k = 5 then decide ((nd ns e.a).f = (nd ns e.b).f ∧ (nd ns e.a).k ≠ 3 ∧ (nd ns e.a).k ≠ 4 ∧ (nd ns e.b).k ≠ 1 ∧ (e.k = 1 ∨ (nd ns e.a).k = 2))
  else if e.k = 2 then decide ((nd ns e.a).k = 2 ∧ e.c = e.a ∧ (nd ns e.b).k = 1)
  else if (e.k = 3 ∧ (nd ns e.a).k ≠ 3) ∨ (e.k = 4 ∧ (nd ns e.a).k ≠ 4) then false
  else decide ((nd ns e.c).k = 2 ∧ cl = true ∧ (nd ns e.b).f = (nd ns e.c).f ∧ (nd ns e.b).k ≠ 1)
def fitsP (ns : List Nd) (cl : Bool) (e : Ed) : Bool :=
  if e.k = 1 then decide ((nd ns e.a).f = (nd ns e.b).f ∧ ((nd ns e.a).k = 1 ∨ (nd ns e.a).k = 2) ∧ (nd ns e.b).k ≠ 1)
  else if e.k = 5 then decide ((nd ns e.a).f = (nd ns e.b).f ∧ (nd ns e.a).k = 2 ∧ (nd ns e.b).k ≠ 1)
  else if e.k = 2 then decide ((nd ns e.a).k = 2 ∧ e.c = e.a ∧ (nd ns e.b).k = 1)
  else decide ((nd ns e.a).k = (if e.k = 4 then 4 else 3) ∧ (nd ns e.c).k = 2 ∧ cl = true ∧ (nd ns e.b).f = (nd ns e.c).f ∧ (nd ns e.b).k ≠ 1)
def errE (m : Int) (fit : Ed → Bool) (es : List Ed) (j : Nat) : Int :=
  if h : j < es.length then
    if badE m (ed es j) ≠ 0 then badE m (ed es j)
    else if 0 < j ∧ lessE (ed es ((j : Int) - 1)) (ed es j) = false then 13
    else if fit (ed es j) = false then 20
    else errE m fit es (j + 1)
  else 0
  termination_by es.length - j
theorem errE_cong {m : Int} {f g : Ed → Bool} {es : List Ed} (h : ∀ e, badE m e = 0 → f e = g e) : ∀ (d j : Nat), es.length - j = d → errE m f es j = errE m g es j
  | 0, j, hd => by
    rw [errE.eq_1 m f es j, errE.eq_1 m g es j, dif_neg (by omega), dif_neg (by omega)]
  | d + 1, j, hd => by
    rw [errE.eq_1 m f es j, errE.eq_1 m g es j, dif_pos (by omega), dif_pos (by omega)]
    by_cases hb : badE m (ed es j) = 0
    · rw [h _ hb, errE_cong h d (j + 1) (by omega)]
    · rw [if_pos (show badE m (ed es j) ≠ 0 from hb), if_pos (show badE m (ed es j) ≠ 0 from hb)]
def errNs (ns : List Nd) (mn : Int) : Int :=
  if errN ns 0 ≠ 0 then errN ns 0
  else if threeR ns = false then 1
  else if mn < 0 ∨ (ns.length : Int) ≤ mn ∨ (nd ns mn).k ≠ 1 then 14 else 0
def errR (ns : List Nd) (es : List Ed) (mn : Int) : Int :=
  if errNs ns mn ≠ 0 then errNs ns mn else errE ns.length (fun e => fitsR ns (callsR ns es e.c (nd ns e.a).f) e) es 0
/-- the start nodes, as the program's map has them behind j nodes -/
def stF (ns : List Nd) : Nat → Int → Option AV
  | 0, _ => none
  | j + 1, b => if (nd ns j).k = 1 ∧ b = (nd ns j).f then some (.int .i64 j) else stF ns j b
def ctF (ns : List Nd) : Nat → Int → Int
  | 0, _ => 0
  | j + 1, b => if (nd ns j).k ≠ 2 ∧ b = (nd ns j).f then ctF ns j b + 1 else ctF ns j b
def mc (n : Int) : Option AV := if n = 0 then none else some (.int .i64 n)
def stI (ns : List Nd) (f : Int) : Int := match stF ns ns.length f with
  | some (.int _ n) => n
  | _ => 0
def enF (es : List Ed) : Nat → Int × Int → Option AV
  | 0, _ => none
  | j + 1, b => if (ed es j).k = 2 ∧ b = ((ed es j).a, (ed es j).b) then some (.bool true) else enF es j b
def entP (ns : List Nd) (es : List Ed) (call f : Int) : Bool := (enF es es.length (call, stI ns f)).isSome
def errP (ns : List Nd) (es : List Ed) (mn : Int) : Int :=
  if errN ns 0 ≠ 0 then errN ns 0
  else if threeP ns = false then 1
  else if mn < 0 ∨ (ns.length : Int) ≤ mn ∨ (nd ns mn).k ≠ 1 then 14
  else errE ns.length (fun e => fitsP ns (entP ns es e.c (nd ns e.a).f) e) es 0
theorem ctF_nonneg (ns : List Nd) (b : Int) : ∀ j, 0 ≤ ctF ns j b
  | 0 => Int.le_refl _
  | j + 1 => by
    have := ctF_nonneg ns b j
    rw [ctF]; split <;> omega
theorem ctF_cnt (ns : List Nd) (b : Int) : ∀ j, j ≤ ns.length → ctF ns j b = (cnt (ns.take j) b : Int)
  | 0, _ => rfl
  | j + 1, h => by
    have ih := ctF_cnt ns b j (by omega)
    have e : ns.take (j + 1) = ns.take j ++ [nd ns j] := by rw [nd_nat (by omega), List.take_succ_eq_append_getElem (by omega)]
    rw [ctF, e, ih]
    unfold cnt
    rw [List.filter_append, List.length_append]
    by_cases q : (nd ns j).k ≠ 2 ∧ b = (nd ns j).f
    · rw [if_pos q, List.filter_cons_of_pos (by simp [q.1, q.2])]; simp
    · rw [if_neg q, List.filter_cons_of_neg (by simp only [decide_eq_true_eq]; rintro ⟨h1, h2⟩; exact q ⟨h2, h1.symm⟩)]; simp
theorem stF_some (ns : List Nd) (f : Int) : ∀ j, match stF ns j f with
    | some v => ∃ s : Nat, v = .int .i64 s ∧ s < j ∧ (nd ns s).f = f ∧ (nd ns s).k = 1
    | none => ∀ s : Nat, s < j → ¬ ((nd ns s).f = f ∧ (nd ns s).k = 1)
  | 0 => by simp [stF]
  | j + 1 => by
    have ih := stF_some ns f j
    rw [stF]
    by_cases q : (nd ns j).k = 1 ∧ f = (nd ns j).f
    · rw [if_pos q]; exact ⟨j, rfl, by omega, q.2.symm, q.1⟩
    · rw [if_neg q]
      cases hs : stF ns j f with
      | none =>
        rw [hs] at ih
        intro s hs' hq
        by_cases e : s = j
        · subst e; exact q ⟨hq.2, hq.1.symm⟩
        · exact ih s (by omega) hq
      | some v =>
        rw [hs] at ih
        obtain ⟨s, h1, h2, h3⟩ := ih
        exact ⟨s, h1, by omega, h3⟩
theorem enF_some (es : List Ed) (p : Int × Int) : ∀ j, j ≤ es.length → ((enF es j p).isSome = true ↔ ∃ e ∈ es.take j, e.k = 2 ∧ e.a = p.1 ∧ e.b = p.2)
  | 0, _ => by simp [enF]
  | j + 1, h => by
    have ih := enF_some es p j (by omega)
    have e : es.take (j + 1) = es.take j ++ [ed es j] := by rw [ed_nat (by omega), List.take_succ_eq_append_getElem (by omega)]
    rw [enF, e]
    by_cases q : (ed es j).k = 2 ∧ p = ((ed es j).a, (ed es j).b)
    · rw [if_pos q]
      simp only [Option.isSome_some, true_iff]
      exact ⟨ed es j, by simp, q.1, by rw [q.2], by rw [q.2]⟩
    · rw [if_neg q, ih]
      constructor
      · rintro ⟨x, h1, h2⟩; exact ⟨x, by simp [h1], h2⟩
      · rintro ⟨x, h1, h2, h3, h4⟩
        rcases List.mem_append.1 h1 with h1 | h1
        · exact ⟨x, h1, h2, h3, h4⟩
        · rw [List.mem_singleton] at h1
          subst h1
          exact absurd ⟨h2, by rw [h3, h4]⟩ q
/-- start, exit and throw nodes are single -/
theorem nd_single {ns : List Nd} (h : errN ns 0 = 0) {i j : Nat} (hi : i < ns.length) (hj : j < ns.length) {f k : Int} (hk : k ≠ 2) (h1 : (nd ns i).f = f ∧ (nd ns i).k = k) (h2 : (nd ns j).f = f ∧ (nd ns j).k = k) : i = j := by
  rw [nd_nat hi] at h1
  rw [nd_nat hj] at h2
  have b1 := badN_iff.1 (badN_all h _ (List.getElem_mem hi))
  have b2 := badN_iff.1 (badN_all h _ (List.getElem_mem hj))
  have p := List.pairwise_iff_getElem.1 (pairN h)
  have e1 := b1.2.2.2 (by rw [h1.2]; exact hk)
  have e2 := b2.2.2.2 (by rw [h2.2]; exact hk)
  rcases Nat.lt_trichotomy i j with q | q | q
  · have := lessN_iff.1 (p i j hi hj q); omega
  · exact q
  · have := lessN_iff.1 (p j i hj hi q); omega
theorem ent_calls {ns : List Nd} {es : List Ed} (h : errN ns 0 = 0) (h3 : threeR ns = true) {n : Nd} (hn : n ∈ ns) (call : Int) : entP ns es call n.f = callsR ns es call n.f := by
  have h4 := List.all_eq_true.1 h3 n hn
  simp only [Bool.and_eq_true, decide_eq_true_eq] at h4
  have hs := stF_some ns n.f ns.length
  obtain ⟨s, hs1, hs2, hs3, hs4⟩ : ∃ s : Nat, stI ns n.f = s ∧ s < ns.length ∧ (nd ns s).f = n.f ∧ (nd ns s).k = 1 := by
    unfold stI
    cases hst : stF ns ns.length n.f with
    | some v =>
      rw [hst] at hs
      obtain ⟨s, rfl, h2⟩ := hs
      exact ⟨s, rfl, h2⟩
    | none =>
      exfalso
      rw [hst] at hs
      rcases ix_range (fun x : Nd => decide (x.f = n.f ∧ x.k = 1)) ns with q | ⟨k, q, hk, hp, _⟩
      · have : kdIx ns n.f 1 = -1 := q
        omega
      · refine hs k hk ?_
        rw [nd_nat hk]
        simpa using hp
  apply Bool.eq_iff_iff.2
  unfold entP callsR
  rw [enF_some es _ es.length (Nat.le_refl _), List.any_eq_true, List.take_length]
  constructor
  · rintro ⟨e, h5, h6, h7, h8⟩
    refine ⟨e, h5, ?_⟩
    simp only [hs1] at h7 h8
    simp only [hitR, decide_eq_true_eq]
    rw [h8]
    exact ⟨h6, h7, by omega, by omega, hs3, hs4⟩
  · rintro ⟨e, h5, h6⟩
    simp only [hitR, decide_eq_true_eq] at h6
    obtain ⟨a1, a2, a3, a4, a5, a6⟩ := h6
    refine ⟨e, h5, a1, a2, ?_⟩
    simp only [hs1]
    have hb : (nd ns (e.b.toNat : Nat)).f = n.f ∧ (nd ns (e.b.toNat : Nat)).k = 1 := by rw [Int.toNat_of_nonneg a3]; exact ⟨a5, a6⟩
    have := nd_single h (by omega) hs2 (by decide) hb ⟨hs3, hs4⟩
    omega
theorem fits_eq {ns : List Nd} {es : List Ed} (h : errN ns 0 = 0) (h3 : threeR ns = true) (e : Ed) (hb : badE ns.length e = 0) : fitsR ns (callsR ns es e.c (nd ns e.a).f) e = fitsP ns (entP ns es e.c (nd ns e.a).f) e := by
  unfold badE at hb
  have hr : ¬ (e.a < 0 ∨ (ns.length : Int) ≤ e.a ∨ e.b < 0 ∨ (ns.length : Int) ≤ e.b) := fun q => by rw [if_pos q] at hb; omega
  rw [if_neg hr] at hb
  have hk : ¬ (e.k < 1 ∨ 5 < e.k) := fun q => by rw [if_pos q] at hb; omega
  have ma : nd ns e.a ∈ ns := nd_mem (by omega) (by omega)
  rw [ent_calls h h3 ma]
  have ka := (badN_iff.1 (badN_all h _ ma)).1
  generalize callsR ns es e.c (nd ns e.a).f = cl
  unfold fitsR fitsP
  have hk' : e.k = 1 ∨ e.k = 2 ∨ e.k = 3 ∨ e.k = 4 ∨ e.k = 5 := by omega
  generalize nd ns e.a = A at *
  generalize nd ns e.b = B at *
  generalize nd ns e.c = Cc at *
  rcases hk' with q | q | q | q | q
  · simp only [q]; simp
    rw [Bool.eq_iff_iff]; simp only [Bool.and_eq_true, Bool.or_eq_true, Bool.not_eq_true', decide_eq_true_eq, decide_eq_false_iff_not]; omega
  · simp only [q]; simp
  · simp only [q]; simp
  · simp only [q]; simp
  · simp only [q]; simp
    rw [Bool.eq_iff_iff]; simp only [Bool.and_eq_true, Bool.or_eq_true, Bool.not_eq_true', decide_eq_true_eq, decide_eq_false_iff_not]; omega
theorem err_eq (ns : List Nd) (es : List Ed) (mn : Int) : errP ns es mn = errR ns es mn := by
  unfold errP errR errNs
  by_cases h : errN ns 0 = 0
  · rw [if_neg (show ¬ (errN ns 0 ≠ 0) by simpa using h), if_neg (show ¬ (errN ns 0 ≠ 0) by simpa using h), three_eq h]
    by_cases h3 : threeR ns = false
    · simp only [if_pos h3]; simp
    · simp only [if_neg h3]
      by_cases hm : mn < 0 ∨ (ns.length : Int) ≤ mn ∨ (nd ns mn).k ≠ 1
      · simp only [if_pos hm]; simp
      · simp only [if_neg hm]
        simp only [ne_eq, not_true_eq_false, if_false]
        exact (errE_cong (fun e he => fits_eq h (by simpa using h3) e he) _ 0 rfl).symm
  · simp only [ne_eq, h, not_false_eq_true, if_true]
/-! maps of nodes and edges -/
theorem kd_nd {ns : List Nd} (h : errN ns 0 = 0) (f k : Int) (hk : k ≠ 2) : ndIx ns ⟨f, k, -1⟩ = kdIx ns f k := by
  unfold ndIx kdIx ix
  have hb := badN_all h
  have key : ∀ (l : List Nd) (j : Nat), (∀ n ∈ l, n ∈ ns) → ixFrom (fun x => decide (x = (⟨f, k, -1⟩ : Nd))) l j = ixFrom (fun x => decide (x.f = f ∧ x.k = k)) l j := by
    intro l
    induction l with
    | nil => intro j _; rfl
    | cons n l ih =>
      intro j hm
      rw [ixFrom, ixFrom, ih (j + 1) fun x hx => hm x (by simp [hx])]
      have hbn := badN_iff.1 (hb n (hm n (by simp)))
      have e : decide (n = (⟨f, k, -1⟩ : Nd)) = decide (n.f = f ∧ n.k = k) := by
        apply Bool.eq_iff_iff.2
        simp only [decide_eq_true_eq]
        constructor
        · intro q; rw [q]; exact ⟨rfl, rfl⟩
        · rintro ⟨q1, q2⟩
          have := hbn.2.2.2 (by rw [q2]; exact hk)
          cases n; simp_all
      rw [e]
  exact key ns 0 fun _ h => h
def lastF {α : Type} [DecidableEq α] (g : Nat → α) : Nat → α → Option AV
  | 0, _ => none
  | j + 1, b => if b = g j then some (.int .i64 j) else lastF g j b
def ixV (n : Int) : Option AV := if n < 0 then none else some (.int .i64 n)
theorem lastF_spec {α : Type} [DecidableEq α] (g : Nat → α) (b : α) : ∀ j, match lastF g j b with
    | some v => ∃ s : Nat, v = .int .i64 s ∧ s < j ∧ g s = b
    | none => ∀ s : Nat, s < j → ¬ g s = b
  | 0 => by simp [lastF]
  | j + 1 => by
    have ih := lastF_spec g b j
    rw [lastF]
    by_cases q : b = g j
    · rw [if_pos q]; exact ⟨j, rfl, by omega, q.symm⟩
    · rw [if_neg q]
      cases hs : lastF g j b with
      | none =>
        rw [hs] at ih
        intro s hs' hq
        by_cases e : s = j
        · subst e; exact q hq.symm
        · exact ih s (by omega) hq
      | some v =>
        rw [hs] at ih
        obtain ⟨s, h1, h2, h3⟩ := ih
        exact ⟨s, h1, by omega, h3⟩
theorem last_ix {α : Type} [DecidableEq α] [Inhabited α] (l : List α) (g : Nat → α) (hg : ∀ j (h : j < l.length), g j = l[j]) (hnd : ∀ i j, i < l.length → j < l.length → g i = g j → i = j) (b : α) : lastF g l.length b = ixV (ix (fun x => decide (x = b)) l) := by
  have hs := lastF_spec g b l.length
  rcases ix_range (fun x => decide (x = b)) l with q | ⟨k, q, hk, hp, _⟩
  · rw [q]
    have hn := ix_none q
    cases hl : lastF g l.length b with
    | none => rfl
    | some v =>
      rw [hl] at hs
      obtain ⟨s, _, h2, h3⟩ := hs
      have := hn (l[s]) (List.getElem_mem h2)
      rw [hg s h2] at h3
      simp [h3] at this
  · rw [q]
    have hp' : g k = b := by rw [hg k hk]; simpa using hp
    cases hl : lastF g l.length b with
    | none => rw [hl] at hs; exact absurd hp' (hs k hk)
    | some v =>
      rw [hl] at hs
      obtain ⟨s, h1, h2, h3⟩ := hs
      have := hnd s k h2 hk (h3.trans hp'.symm)
      subst this
      rw [h1]
      unfold ixV
      rw [if_neg (by omega)]
theorem errE_step {m : Int} {fit : Ed → Bool} {es : List Ed} {j : Nat} (h : errE m fit es j = 0) (hj : j < es.length) : (0 < j → lessE (ed es ((j : Int) - 1)) (ed es j) = true) ∧ errE m fit es (j + 1) = 0 := by
  rw [errE, dif_pos hj] at h
  by_cases hb : badE m (ed es j) = 0
  · rw [if_neg (by simpa using hb)] at h
    by_cases h0 : 0 < j ∧ lessE (ed es ((j : Int) - 1)) (ed es j) = false
    · rw [if_pos h0] at h; omega
    · rw [if_neg h0] at h
      by_cases hf : fit (ed es j) = false
      · rw [if_pos hf] at h; omega
      · rw [if_neg hf] at h
        exact ⟨fun q => by cases hl : lessE (ed es ((j : Int) - 1)) (ed es j) with
          | true => rfl
          | false => exact absurd ⟨q, hl⟩ h0, h⟩
  · rw [if_pos hb] at h; exact absurd h hb
theorem lessE_trans {a b c : Ed} (h1 : lessE a b = true) (h2 : lessE b c = true) : lessE a c = true := by
  rw [lessE_iff] at *
  omega
theorem sortedE {m : Int} {fit : Ed → Bool} {es : List Ed} (h : errE m fit es 0 = 0) : ∀ (d i : Nat), i + d + 1 < es.length → lessE (ed es (i : Nat)) (ed es ((i + d + 1 : Nat) : Int)) = true := by
  have hall : ∀ j, j ≤ es.length → errE m fit es j = 0 := by
    intro j
    induction j with
    | zero => intro _; exact h
    | succ j ih => intro hj; exact (errE_step (ih (by omega)) (by omega)).2
  have one : ∀ j : Nat, j + 1 < es.length → lessE (ed es (j : Nat)) (ed es ((j + 1 : Nat) : Int)) = true := fun j hj => by
    have := (errE_step (hall (j + 1) (by omega)) hj).1 (by omega)
    have e : ((j + 1 : Nat) : Int) - 1 = (j : Nat) := by omega
    rw [e] at this; exact this
  intro d
  induction d with
  | zero => intro i hi; exact one i hi
  | succ d ih => intro i hi; exact lessE_trans (ih i (by omega)) (one (i + d + 1) (by omega))
theorem lessE_irr (a : Ed) : lessE a a = false := by
  cases h : lessE a a with
  | false => rfl
  | true => rw [lessE_iff] at h; omega
theorem lessN_irr (a : Nd) : lessN a a = false := by
  cases h : lessN a a with
  | false => rfl
  | true => rw [lessN_iff] at h; omega
theorem ed_nodup {m : Int} {fit : Ed → Bool} {es : List Ed} (h : errE m fit es 0 = 0) (i j : Nat) (hi : i < es.length) (hj : j < es.length) (e : ed es (i : Nat) = ed es (j : Nat)) : i = j := by
  rcases Nat.lt_trichotomy i j with q | q | q
  · have := sortedE h (j - i - 1) i (by omega)
    rw [show i + (j - i - 1) + 1 = j by omega, e, lessE_irr] at this; cases this
  · exact q
  · have := sortedE h (i - j - 1) j (by omega)
    rw [show j + (i - j - 1) + 1 = i by omega, e, lessE_irr] at this; cases this
theorem nd_nodup {ns : List Nd} (h : errN ns 0 = 0) (i j : Nat) (hi : i < ns.length) (hj : j < ns.length) (e : nd ns (i : Nat) = nd ns (j : Nat)) : i = j := by
  rw [nd_nat hi, nd_nat hj] at e
  have p := List.pairwise_iff_getElem.1 (pairN h)
  rcases Nat.lt_trichotomy i j with q | q | q
  · have := p i j hi hj q
    rw [e, lessN_irr] at this; cases this
  · exact q
  · have := p j i hj hi q
    rw [e, lessN_irr] at this; cases this
theorem ndM_ix {ns : List Nd} (h : errN ns 0 = 0) (n : Nd) : lastF (fun j => nd ns (j : Nat)) ns.length n = ixV (ndIx ns n) := last_ix ns _ (fun j hj => nd_nat hj) (fun i j => nd_nodup h i j) n
theorem edM_ix {m : Int} {fit : Ed → Bool} {es : List Ed} (h : errE m fit es 0 = 0) (n : Ed) : lastF (fun j => ed es (j : Nat)) es.length n = ixV (edIx es n) := last_ix es _ (fun j hj => ed_nat hj) (fun i j => ed_nodup h i j) n
/-! paths -/
abbrev Fr := Int × Int
def fr (st : List Fr) (j : Nat) : Fr := st.getD j default
/-- the length of the stack up to the topmost such frame -/
def frN (st : List Fr) (x : Fr) : Nat → Nat
  | 0 => 0
  | n + 1 => if fr st n = x then n + 1 else frN st x n
theorem frN_le (st : List Fr) (x : Fr) : ∀ n, frN st x n ≤ n
  | 0 => Nat.le_refl _
  | n + 1 => by
    rw [frN]; split
    · exact Nat.le_refl _
    · exact Nat.le_succ_of_le (frN_le st x n)
def nI (ns : List Nd) (o : Ob) : Int := ndIx ns ⟨o.f, 2, o.i⟩
/-- the edges by which frames end, one after another -/
def raiseE (ns : List Nd) (os : List Ob) (st : List Fr) (to : Int) (n : Nat) : Nat → Int → List Ed
  | 0, _ => []
  | d + 1, at_ => ⟨at_, if 0 < d then kdIx ns (ob os (fr st (n + d)).2).f 4 else to, 4, nI ns (ob os (fr st (n + d)).2)⟩ :: raiseE ns os st to n d (if 0 < d then kdIx ns (ob os (fr st (n + d)).2).f 4 else to)
def retA (ns : List Nd) (os : List Ob) (i : Int) : Ed := ⟨nI ns (ob os (i - 1)), kdIx ns (ob os (i - 1)).f 3, 1, -1⟩
def retB (ns : List Nd) (os : List Ob) (st : List Fr) (i : Int) : Ed := ⟨kdIx ns (ob os (i - 1)).f 3, nI ns (ob os i), 3, nI ns (ob os (fr st (st.length - 1)).2)⟩
def leaveE (ns : List Nd) (es : List Ed) (os : List Ob) (st : List Fr) (n : Nat) (i : Int) : List Ed :=
  if st.length = n + 1 ∧ 0 ≤ edIx es (retA ns os i) ∧ 0 ≤ edIx es (retB ns os st i) then [retA ns os i, retB ns os st i]
  else ⟨nI ns (ob os (i - 1)), kdIx ns (ob os (i - 1)).f 4, 1, -1⟩ :: raiseE ns os st (nI ns (ob os i)) n (st.length - n) (kdIx ns (ob os (i - 1)).f 4)
def stepE (ns : List Nd) (es : List Ed) (os : List Ob) (st : List Fr) (i : Int) : Option (List Fr × List Ed) :=
  if (ob os i).c = i - 1 then some (st ++ [((ob os i).fr, i - 1)], [⟨nI ns (ob os (i - 1)), kdIx ns (ob os i).f 1, 2, nI ns (ob os (i - 1))⟩, ⟨kdIx ns (ob os i).f 1, nI ns (ob os i), 1, -1⟩])
  else if frN st ((ob os i).fr, (ob os i).c) st.length = 0 then none
  else if frN st ((ob os i).fr, (ob os i).c) st.length = st.length then some (st, [⟨nI ns (ob os (i - 1)), nI ns (ob os i), 1, -1⟩])
  else some (st.take (frN st ((ob os i).fr, (ob os i).c) st.length), leaveE ns es os st (frN st ((ob os i).fr, (ob os i).c) st.length) i)
/-- what holds of the pending frames before step i -/
structure OkSt (st : List Fr) (i : Nat) : Prop where
  pos : 1 ≤ st.length
  le : st.length ≤ i
  call : ∀ m, 1 ≤ m → m < st.length → 0 ≤ (fr st m).2 ∧ (fr st m).2 < i
theorem OkSt.push {st : List Fr} {i : Nat} (h : OkSt st i) (x : Int) : OkSt (st ++ [(x, (i : Int) - 1)]) (i + 1) := by
  refine ⟨by simp, by simp; exact h.le, fun m h1 h2 => ?_⟩
  simp only [List.length_append, List.length_singleton] at h2
  have hi := h.le
  have hp := h.pos
  by_cases e : m < st.length
  · have := h.call m h1 e
    have e2 : fr (st ++ [(x, (i : Int) - 1)]) m = fr st m := by simp [fr, e, List.getElem?_append_left]
    rw [e2]; omega
  · have : m = st.length := by omega
    subst this
    have e2 : fr (st ++ [(x, (i : Int) - 1)]) st.length = (x, (i : Int) - 1) := by simp [fr]
    rw [e2]
    constructor
    · show (0 : Int) ≤ (i : Int) - 1; omega
    · show (i : Int) - 1 < ((i + 1 : Nat) : Int); omega
theorem OkSt.take {st : List Fr} {i : Nat} (h : OkSt st i) {n : Nat} (h0 : 0 < n) (hn : n ≤ st.length) : OkSt (st.take n) (i + 1) := by
  have hl : (st.take n).length = n := by rw [List.length_take]; omega
  have hi := h.le
  refine ⟨by omega, by omega, fun m h1 h2 => ?_⟩
  rw [hl] at h2
  have := h.call m h1 (by omega)
  have e2 : fr (st.take n) m = fr st m := by simp [fr, h2, List.getElem?_take]
  rw [e2]; omega
theorem OkSt.next {st : List Fr} {i : Nat} (h : OkSt st i) : OkSt st (i + 1) := by
  have := h.take (n := st.length) (by have := h.pos; omega) (Nat.le_refl _)
  rwa [List.take_length] at this
def goR (ns : List Nd) (es : List Ed) (os : List Ob) : Nat → Nat → List Fr → List Int → Option (List Int)
  | 0, _, _, out => some out
  | k + 1, i, st, out => match stepE ns es os st i with
    | none => none
    | some p => goR ns es os k (i + 1) p.1 (out ++ p.2.map (edIx es))
def okL (l : List Int) : Bool := l.all fun x => decide (0 ≤ x)
def goP (ns : List Nd) (es : List Ed) (os : List Ob) : Nat → Nat → List Fr → List Int → Option (List Int)
  | 0, _, _, out => some out
  | k + 1, i, st, out => match stepE ns es os st i with
    | none => none
    | some p => if okL (p.2.map (edIx es)) = true then goP ns es os k (i + 1) p.1 (out ++ p.2.map (edIx es)) else none
def onlyOk : Option (List Int) → Option (List Int)
  | none => none
  | some l => if okL l = true then some l else none
theorem okL_app (a b : List Int) : okL (a ++ b) = (okL a && okL b) := by simp [okL]
theorem onlyOk_bad (ns : List Nd) (es : List Ed) (os : List Ob) : ∀ (k i : Nat) (st : List Fr) (out : List Int), okL out = false → onlyOk (goR ns es os k i st out) = none
  | 0, i, st, out, h => by simp [goR, onlyOk, h]
  | k + 1, i, st, out, h => by
    rw [goR]
    cases stepE ns es os st i with
    | none => rfl
    | some p => exact onlyOk_bad ns es os k (i + 1) p.1 _ (by rw [okL_app, h]; rfl)
theorem go_eq (ns : List Nd) (es : List Ed) (os : List Ob) : ∀ (k i : Nat) (st : List Fr) (out : List Int), okL out = true → onlyOk (goR ns es os k i st out) = goP ns es os k i st out
  | 0, i, st, out, h => by simp [goR, goP, onlyOk, h]
  | k + 1, i, st, out, h => by
    rw [goR, goP]
    cases stepE ns es os st i with
    | none => rfl
    | some p =>
      simp only
      cases hp : okL (p.2.map (edIx es)) with
      | true => rw [if_pos rfl]; exact go_eq ns es os k (i + 1) p.1 _ (by rw [okL_app, h, hp]; rfl)
      | false => rw [if_neg (by simp)]; exact onlyOk_bad ns es os k (i + 1) p.1 _ (by rw [okL_app, h, hp]; rfl)
def first_ (ns : List Nd) (es : List Ed) (os : List Ob) (mn : Int) : Ed := ⟨mn, nI ns (ob os 0), 1, -1⟩
def badO (ns : List Nd) (os : List Ob) (mn : Int) : Prop := (ob os 0).f ≠ (nd ns mn).f ∨ (ob os 0).i ≠ 0 ∨ (ob os 0).fr ≠ 0 ∨ (ob os 0).c ≠ -1
instance (ns : List Nd) (os : List Ob) (mn : Int) : Decidable (badO ns os mn) := by unfold badO; infer_instance
/-- the answer: a path and an error -/
def ends : Option (List Int) → List Int × Int
  | none => ([], 20)
  | some l => if 4096 < l.length then ([], 3) else (l, 0)
def pathR (ns : List Nd) (es : List Ed) (os : List Ob) (mn : Int) : List Int × Int :=
  if errR ns es mn ≠ 0 then ([], errR ns es mn)
  else if os.length = 0 then ([], 0)
  else if badO ns os mn then ([], 20)
  else ends (onlyOk (goR ns es os (os.length - 1) 1 [(0, -1)] [edIx es (first_ ns es os mn)]))
def pathP (ns : List Nd) (es : List Ed) (os : List Ob) (mn : Int) : List Int × Int :=
  if errP ns es mn ≠ 0 then ([], errP ns es mn)
  else if os.length = 0 then ([], 0)
  else if badO ns os mn then ([], 20)
  else if edIx es (first_ ns es os mn) < 0 then ([], 20)
  else ends (goP ns es os (os.length - 1) 1 [(0, -1)] [edIx es (first_ ns es os mn)])
theorem path_eq (ns : List Nd) (es : List Ed) (os : List Ob) (mn : Int) : pathP ns es os mn = pathR ns es os mn := by
  unfold pathP pathR
  rw [err_eq]
  by_cases h1 : errR ns es mn = 0
  · simp only [h1, ne_eq, not_true_eq_false, if_false]
    by_cases h2 : os.length = 0
    · simp only [if_pos h2]
    · simp only [if_neg h2]
      by_cases h3 : badO ns os mn
      · simp only [if_pos h3]
      · simp only [if_neg h3]
        by_cases h4 : edIx es (first_ ns es os mn) < 0
        · rw [if_pos h4, onlyOk_bad _ _ _ _ _ _ _ (by simp [okL]; omega)]; rfl
        · rw [if_neg h4, go_eq _ _ _ _ _ _ _ (by simp [okL]; omega)]
  · simp only [ne_eq, h1, not_false_eq_true, if_true]
end Go.Proofs.YtlocnfaeiacphaaGreatDoor.Ev
