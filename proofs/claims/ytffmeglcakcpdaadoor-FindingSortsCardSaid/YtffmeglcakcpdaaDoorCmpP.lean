/- Plain facts: what is left of a sorted list without duplicates; two such lists are the same. -/
import Derived.Test.YtffmeglcakcpdaaDoorWalkU
set_option linter.unusedVariables false
namespace Go.Proofs.YtffmeglcakcpdaaDoor

/-! the comparison's range -/
theorem range_int (x y : Int) : -1 ≤ Lib.compareInt x y ∧ Lib.compareInt x y ≤ 1 := by unfold Lib.compareInt; repeat (first | omega | split)
theorem range_bytes : ∀ (x y : List UInt8), -1 ≤ Lib.compareBytes x y ∧ Lib.compareBytes x y ≤ 1
  | [], [] => by simp [Lib.compareBytes]
  | [], _ :: _ => by simp [Lib.compareBytes]
  | _ :: _, [] => by simp [Lib.compareBytes]
  | a :: x, b :: y => by
    simp only [Lib.compareBytes]
    have := range_bytes x y
    repeat (first | omega | split)
theorem range_pl (x y : Pl) : -1 ≤ cmpPl x y ∧ cmpPl x y ≤ 1 := by
  have h1 := range_bytes x.cls.data.toList y.cls.data.toList
  have h2 := range_bytes x.meth.data.toList y.meth.data.toList
  have h3 := range_int x.ins y.ins
  unfold cmpPl
  repeat (first | omega | split)
theorem range_path : ∀ (x y : List Pl), -1 ≤ cmpPath x y ∧ cmpPath x y ≤ 1
  | [], [] => by simp [cmpPath]
  | [], _ :: _ => by simp [cmpPath]
  | _ :: _, [] => by simp [cmpPath]
  | a :: x, b :: y => by
    simp only [cmpPath]
    have := range_path x y
    have := range_pl a b
    repeat (first | omega | split)
theorem range_fd (x y : Fd) : -1 ≤ cmpFd x y ∧ cmpFd x y ≤ 1 := by
  have h1 := range_pl x.pl y.pl
  have h2 := range_int x.kind y.kind
  have h3 := range_bytes x.what.data.toList y.what.data.toList
  have h4 := range_path x.path y.path
  unfold cmpFd
  repeat (first | omega | split)

/-- strictly ascending -/
def Strict (l : List El) : Prop := l.Pairwise fun x y => cmpEl x y < 0
theorem strict_same : ∀ (xs ys : List El), Strict xs → Strict ys → (∀ x ∈ xs, ∃ y ∈ ys, cmpEl x y = 0) → (∀ y ∈ ys, ∃ x ∈ xs, cmpEl x y = 0) → SameEls xs ys
  | [], [], _, _, _, _ => ⟨rfl, fun i h => absurd h (by simp)⟩
  | [], y :: ys, _, _, _, h2 => by obtain ⟨x, hx, _⟩ := h2 y (by simp); cases hx
  | x :: xs, [], _, _, h1, _ => by obtain ⟨x, hx, _⟩ := h1 x (by simp); cases hx
  | x :: xs, y :: ys, sx, sy, h1, h2 => by
    have hc := el_cmp
    obtain ⟨sx1, sx2⟩ := List.pairwise_cons.1 sx
    obtain ⟨sy1, sy2⟩ := List.pairwise_cons.1 sy
    have e : cmpEl x y = 0 := by
      obtain ⟨y', hy', e1⟩ := h1 x (by simp)
      obtain ⟨x', hx', e2⟩ := h2 y (by simp)
      rcases List.mem_cons.1 hy' with rfl | hy'
      · exact e1
      rcases List.mem_cons.1 hx' with rfl | hx'
      · exact e2
      have a1 : cmpEl y x < 0 := hc.zero_right (sy1 y' hy') (by have := hc.anti x y'; omega)
      have a2 : cmpEl x y < 0 := hc.zero_right (sx1 x' hx') e2
      have := hc.anti x y
      omega
    have r := strict_same xs ys sx2 sy2 (fun z hz => by
      obtain ⟨y', hy', e1⟩ := h1 z (by simp [hz])
      rcases List.mem_cons.1 hy' with rfl | hy'
      · have a1 := sx1 z hz
        have a2 : cmpEl x y' < 0 := hc.zero_right a1 e1
        omega
      · exact ⟨y', hy', e1⟩) (fun z hz => by
      obtain ⟨x', hx', e1⟩ := h2 z (by simp [hz])
      rcases List.mem_cons.1 hx' with rfl | hx'
      · have a1 := sy1 z hz
        have a2 : cmpEl x' z < 0 := hc.zero_left e a1
        omega
      · exact ⟨x', hx', e1⟩)
    refine ⟨by simp [r.1], fun i h h' => ?_⟩
    cases i with
    | zero => exact e
    | succ i => exact r.2 i (by simpa using h) (by simpa using h')

theorem compactFrom_strict : ∀ (xs : List El) (p : El), Srt.Sorted cmpEl (p :: xs) → Strict (compactFrom p xs) ∧ (∀ y ∈ compactFrom p xs, cmpEl p y < 0) ∧ ∀ z ∈ xs, cmpEl p z = 0 ∨ ∃ y ∈ compactFrom p xs, cmpEl y z = 0
  | [], p, _ => ⟨List.Pairwise.nil, fun y h => (by cases h), fun y h => (by cases h)⟩
  | x :: xs, p, hs => by
    have hc := el_cmp
    obtain ⟨s1, s2⟩ := List.pairwise_cons.1 hs
    obtain ⟨i1, i2, i3⟩ := compactFrom_strict xs x s2
    have hle : ¬ cmpEl x p < 0 := s1 x (by simp)
    have an := hc.anti p x
    rw [compactFrom]
    by_cases e : cmpEl x p = 0
    · rw [if_pos (by simpa using e)]
      have e' : cmpEl p x = 0 := by omega
      refine ⟨i1, fun y hy => hc.zero_left e' (i2 y hy), fun z hz => ?_⟩
      rcases List.mem_cons.1 hz with rfl | hz
      · exact Or.inl e'
      · exact (i3 z hz).imp (fun h => hc.zero_zero e' h) id
    · rw [if_neg (by simpa using e)]
      have e' : cmpEl p x < 0 := by omega
      refine ⟨List.pairwise_cons.2 ⟨i2, i1⟩, fun y hy => ?_, fun z hz => Or.inr ?_⟩
      · rcases List.mem_cons.1 hy with rfl | hy
        · exact e'
        · exact hc.lt_lt e' (i2 y hy)
      · rcases List.mem_cons.1 hz with rfl | hz
        · exact ⟨z, by simp, hc.refl z⟩
        · rcases i3 z hz with h | ⟨y, hy, h⟩
          · exact ⟨x, by simp, h⟩
          · exact ⟨y, by simp [hy], h⟩
theorem compact_strict {t : List El} (hs : Srt.Sorted cmpEl t) : Strict (compact t) ∧ ∀ z ∈ t, ∃ y ∈ compact t, cmpEl y z = 0 := by
  cases t with
  | nil => exact ⟨List.Pairwise.nil, fun z h => (by cases h)⟩
  | cons p xs =>
    obtain ⟨i1, i2, i3⟩ := compactFrom_strict xs p hs
    refine ⟨List.pairwise_cons.2 ⟨i2, i1⟩, fun z hz => ?_⟩
    rcases List.mem_cons.1 hz with rfl | hz
    · exact ⟨z, by simp [compact], el_cmp.refl z⟩
    · rcases i3 z hz with h | ⟨y, hy, h⟩
      · exact ⟨p, by simp [compact], h⟩
      · exact ⟨y, by simp [compact, hy], h⟩
theorem SameEls.of_f {xs ys xs' ys' : List El} (h : SameEls xs ys) (hx : xs'.map El.f = xs.map El.f) (hy : ys'.map El.f = ys.map El.f) : SameEls xs' ys' := by
  have lx : xs'.length = xs.length := by have := congrArg List.length hx; simpa using this
  have ly : ys'.length = ys.length := by have := congrArg List.length hy; simpa using this
  refine ⟨by rw [lx, ly]; exact h.1, fun i h1 h2 => ?_⟩
  have ex : xs'[i].f = (xs[i]'(by omega)).f := by
    have := congrArg (fun l => l[i]?) hx
    simpa [h1, show i < xs.length by omega] using this
  have ey : ys'[i].f = (ys[i]'(by omega)).f := by
    have := congrArg (fun l => l[i]?) hy
    simpa [h2, show i < ys.length by omega] using this
  unfold cmpEl
  rw [ex, ey]
  exact h.2 i (by omega) (by omega)
/-- two sorts of the same findings are the same -/
theorem sorts_same {t1 t2 : List El} (hp : t1.Perm t2) (h1 : Srt.Sorted cmpEl t1) (h2 : Srt.Sorted cmpEl t2) : SameEls (compact t1) (compact t2) := by
  obtain ⟨a1, b1⟩ := compact_strict h1
  obtain ⟨a2, b2⟩ := compact_strict h2
  refine strict_same _ _ a1 a2 (fun x hx => ?_) (fun y hy => ?_)
  · obtain ⟨y, hy, e⟩ := b2 x (hp.subset (compact_sub x hx))
    exact ⟨y, hy, by have := el_cmp.anti y x; omega⟩
  · obtain ⟨x, hx, e⟩ := b1 y (hp.symm.subset (compact_sub y hy))
    exact ⟨x, hx, e⟩
theorem compact_pos {t : List El} (h : t ≠ []) : 1 ≤ (compact t).length := by
  cases t with
  | nil => exact absurd rfl h
  | cons x xs => simp [compact]
end Go.Proofs.YtffmeglcakcpdaaDoor
