/- Plain facts on lists: exchanges, rotations, merging. No program in this text. -/
namespace Go.Proofs.YtffmeglcakcpdaaDoor.Srt
section
variable {α : Type} [Inhabited α]

/-- the exchange of two elements -/
def exch (xs : List α) (i j : Nat) : List α := (xs.set i xs[j]!).set j xs[i]!
theorem exch_length (xs : List α) (i j : Nat) : (exch xs i j).length = xs.length := by simp [exch]
theorem get_at {xs : List α} {i : Nat} (h : i < xs.length) : xs[i]! = xs[i] := by simp [h]
theorem exch_seg (A B C : List α) (x y : α) : exch (A ++ x :: (B ++ y :: C)) A.length (A.length + 1 + B.length) = A ++ y :: (B ++ x :: C) := by
  unfold exch
  have h1 : (A ++ x :: (B ++ y :: C))[A.length + 1 + B.length]! = y := by
    rw [get_at (by simp; omega), List.getElem_append_right (by omega)]
    have e : A.length + 1 + B.length - A.length = B.length + 1 := by omega
    simp [e]
  have h2 : (A ++ x :: (B ++ y :: C))[A.length]! = x := by
    rw [get_at (by simp), List.getElem_append_right (by omega)]; simp
  rw [h1, h2, List.set_append_right _ _ (by omega), Nat.sub_self, List.set_cons_zero, List.set_append_right _ _ (by omega)]
  have e : A.length + 1 + B.length - A.length = B.length + 1 := by omega
  rw [e, List.set_cons_succ, List.set_append_right _ _ (by omega), Nat.sub_self, List.set_cons_zero]

/-- swapRange: k exchanges -/
def swapLoop (xs : List α) (a b : Nat) : Nat → List α
  | 0 => xs
  | k + 1 => exch (swapLoop xs a b k) (a + k) (b + k)
theorem swapLoop_length (xs : List α) (a b : Nat) : ∀ k, (swapLoop xs a b k).length = xs.length
  | 0 => rfl
  | k + 1 => by rw [swapLoop, exch_length, swapLoop_length xs a b k]
theorem swapLoop_seg (P u M v S : List α) (h : u.length = v.length) : ∀ k, k ≤ u.length →
    swapLoop (P ++ (u ++ (M ++ (v ++ S)))) P.length (P.length + u.length + M.length) k = (P ++ v.take k) ++ (u.drop k ++ (M ++ (u.take k ++ (v.drop k ++ S))))
  | 0, _ => by simp [swapLoop]
  | k + 1, hk => by
    rw [swapLoop, swapLoop_seg P u M v S h k (by omega)]
    have hu : k < u.length := by omega
    have hv : k < v.length := by omega
    rw [List.drop_eq_getElem_cons hu, List.drop_eq_getElem_cons hv]
    have e1 : (P ++ List.take k v).length = P.length + k := by simp; omega
    have := exch_seg (P ++ List.take k v) (List.drop (k + 1) u ++ (M ++ List.take k u)) (List.drop (k + 1) v ++ S) u[k] v[k]
    rw [e1] at this
    have e2 : P.length + k + 1 + (List.drop (k + 1) u ++ (M ++ List.take k u)).length = P.length + u.length + M.length + k := by simp; omega
    rw [e2] at this
    simp only [List.append_assoc, List.cons_append] at this ⊢
    rw [this, List.take_succ_eq_append_getElem hu, List.take_succ_eq_append_getElem hv]
    simp only [List.append_assoc, List.cons_append, List.nil_append]
theorem swapLoop_all (P u M v S : List α) (h : u.length = v.length) :
    swapLoop (P ++ (u ++ (M ++ (v ++ S)))) P.length (P.length + u.length + M.length) u.length = P ++ (v ++ (M ++ (u ++ S))) := by
  rw [swapLoop_seg P u M v S h u.length (Nat.le_refl _)]
  rw [List.take_of_length_le (by omega : v.length ≤ u.length), List.drop_eq_nil_of_le (Nat.le_refl _), List.drop_eq_nil_of_le (by omega : v.length ≤ u.length), List.take_of_length_le (Nat.le_refl u.length)]
  simp

end
section
variable {α : Type}
/-! sorted lists, by a total preorder given as a comparison -/
structure Cmp (c : α → α → Int) : Prop where
  anti : ∀ x y, c x y < 0 → ¬ c y x < 0
  trans : ∀ x y z, ¬ c y x < 0 → ¬ c z y < 0 → ¬ c z x < 0
  refl : ∀ x, c x x = 0
  symm : ∀ x y, c x y = 0 ↔ (¬ c x y < 0 ∧ ¬ c y x < 0)
def Le (c : α → α → Int) (x y : α) : Prop := ¬ c y x < 0
def Sorted (c : α → α → Int) (l : List α) : Prop := l.Pairwise (Le c)
theorem Cmp.le_of_lt {c : α → α → Int} (h : Cmp c) {x y : α} (hl : c x y < 0) : Le c x y := h.anti x y hl
theorem Sorted.at {c : α → α → Int} (hc : Cmp c) {l : List α} (h : Sorted c l) {i j : Nat} (hij : i ≤ j) (hj : j < l.length) : Le c (l[i]'(by omega)) l[j] := by
  by_cases e : i = j
  · subst e; unfold Le; rw [hc.refl]; omega
  · exact List.pairwise_iff_getElem.1 h i j (by omega) hj (by omega)
theorem sorted_append {c : α → α → Int} {l r : List α} (hl : Sorted c l) (hr : Sorted c r) (h : ∀ x ∈ l, ∀ y ∈ r, Le c x y) : Sorted c (l ++ r) := List.pairwise_append.2 ⟨hl, hr, h⟩
theorem Sorted.left {c : α → α → Int} {l r : List α} (h : Sorted c (l ++ r)) : Sorted c l := (List.pairwise_append.1 h).1
theorem Sorted.right {c : α → α → Int} {l r : List α} (h : Sorted c (l ++ r)) : Sorted c r := (List.pairwise_append.1 h).2.1
theorem Sorted.cross {c : α → α → Int} {l r : List α} (h : Sorted c (l ++ r)) : ∀ x ∈ l, ∀ y ∈ r, Le c x y := (List.pairwise_append.1 h).2.2

/-- the heart of symMerge: what the two halves hold behind the rotation -/
theorem halves {c : α → α → Int} (hc : Cmp c) {u1 u2 v1 v2 : List α} (hu : Sorted c (u1 ++ u2)) (hv : Sorted c (v1 ++ v2))
    (h1 : ∀ (h : 0 < u1.length) (h' : 0 < v2.length), Le c u1[u1.length - 1] v2[0])
    (h2 : ∀ (h : 0 < u2.length) (h' : 0 < v1.length), Le c v1[v1.length - 1] u2[0]) :
    ∀ x, x ∈ u1 ++ v1 → ∀ y, y ∈ u2 ++ v2 → Le c x y := by
  have tr : ∀ x y z, Le c x y → Le c y z → Le c x z := fun x y z => hc.trans x y z
  intro x hx y hy
  rw [List.mem_append] at hx hy
  rcases hx with hx | hx <;> rcases hy with hy | hy
  · exact hu.cross x hx y hy
  · obtain ⟨i, hi, rfl⟩ := List.mem_iff_getElem.1 hx
    obtain ⟨j, hj, rfl⟩ := List.mem_iff_getElem.1 hy
    exact tr _ _ _ (hu.left.at hc (show i ≤ u1.length - 1 by omega) (by omega)) (tr _ _ _ (h1 (by omega) (by omega)) (hv.right.at hc (Nat.zero_le j) hj))
  · obtain ⟨i, hi, rfl⟩ := List.mem_iff_getElem.1 hx
    obtain ⟨j, hj, rfl⟩ := List.mem_iff_getElem.1 hy
    exact tr _ _ _ (hv.left.at hc (show i ≤ v1.length - 1 by omega) (by omega)) (tr _ _ _ (h2 (by omega) (by omega)) (hu.right.at hc (Nat.zero_le j) hj))
  · exact hv.cross x hx y hy
end
end Go.Proofs.YtffmeglcakcpdaaDoor.Srt
