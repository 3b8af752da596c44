/- Plain facts: the comparison of findings is a total preorder; its equality. -/
import Derived.Test.YtffmeglcakcpdaaDoorWalkI
import Derived.Test.YtffmeglcakcpdaaDoorSortP
set_option linter.unusedVariables false
namespace Go.Proofs.YtffmeglcakcpdaaDoor

structure IsCmp {α : Type} (c : α → α → Int) : Prop where
  anti : ∀ x y, c y x = - c x y
  trans : ∀ x y z, c x y ≤ 0 → c y z ≤ 0 → c x z ≤ 0

theorem IsCmp.refl {α : Type} {c : α → α → Int} (h : IsCmp c) (x : α) : c x x = 0 := by have := h.anti x x; omega
theorem IsCmp.zero_left {α : Type} {c : α → α → Int} (h : IsCmp c) {x y z : α} (h1 : c x y = 0) (h2 : c y z < 0) : c x z < 0 := by
  have a1 := h.anti x y
  have a2 := h.anti y z
  have a3 := h.anti x z
  have t1 := h.trans x y z (by omega) (by omega)
  have t2 := h.trans z x y
  omega
theorem IsCmp.zero_right {α : Type} {c : α → α → Int} (h : IsCmp c) {x y z : α} (h1 : c x y < 0) (h2 : c y z = 0) : c x z < 0 := by
  have a1 := h.anti x y
  have a2 := h.anti y z
  have a3 := h.anti x z
  have t1 := h.trans x y z (by omega) (by omega)
  have t2 := h.trans y z x
  omega
theorem IsCmp.lt_lt {α : Type} {c : α → α → Int} (h : IsCmp c) {x y z : α} (h1 : c x y < 0) (h2 : c y z < 0) : c x z < 0 := by
  have a1 := h.anti x y
  have a2 := h.anti y z
  have a3 := h.anti x z
  have t1 := h.trans x y z (by omega) (by omega)
  have t2 := h.trans y z x
  omega
theorem IsCmp.zero_zero {α : Type} {c : α → α → Int} (h : IsCmp c) {x y z : α} (h1 : c x y = 0) (h2 : c y z = 0) : c x z = 0 := by
  have a1 := h.anti x y
  have a2 := h.anti y z
  have a3 := h.anti x z
  have t1 := h.trans x y z (by omega) (by omega)
  have t2 := h.trans z y x (by omega) (by omega)
  omega
theorem IsCmp.toCmp {α : Type} {c : α → α → Int} (h : IsCmp c) : Srt.Cmp c :=
  ⟨fun x y h1 => by have := h.anti x y; omega, fun x y z h1 h2 => by
      have a1 := h.anti x y
      have a2 := h.anti y z
      have a3 := h.anti x z
      have := h.trans x y z (by omega) (by omega)
      omega, h.refl, fun x y => by have := h.anti x y; omega⟩
theorem IsCmp.on {α β : Type} {c : α → α → Int} (h : IsCmp c) (f : β → α) : IsCmp (fun x y => c (f x) (f y)) := ⟨fun x y => h.anti _ _, fun x y z => h.trans _ _ _⟩
theorem IsCmp.lex {α : Type} {c d : α → α → Int} (h : IsCmp c) (k : IsCmp d) : IsCmp (fun x y => if c x y = 0 then d x y else c x y) := by
  constructor
  · intro x y
    have a1 := h.anti x y
    have a2 := k.anti x y
    by_cases e : c x y = 0
    · rw [if_pos e, if_pos (by omega)]; exact a2
    · rw [if_neg e, if_neg (by omega)]; exact a1
  · intro x y z h1 h2
    by_cases e : c x y = 0 <;> by_cases e2 : c y z = 0
    · rw [if_pos e] at h1; rw [if_pos e2] at h2; rw [if_pos (h.zero_zero e e2)]; exact k.trans x y z h1 h2
    · rw [if_neg e2] at h2
      have := h.zero_left e (by omega : c y z < 0)
      rw [if_neg (by omega)]; omega
    · rw [if_neg e] at h1
      have := h.zero_right (by omega : c x y < 0) e2
      rw [if_neg (by omega)]; omega
    · rw [if_neg e] at h1; rw [if_neg e2] at h2
      have := h.lt_lt (by omega : c x y < 0) (by omega : c y z < 0)
      rw [if_neg (by omega)]; omega

theorem int_cmp : IsCmp Lib.compareInt := by
  constructor
  · intro x y; unfold Lib.compareInt; repeat (first | omega | split)
  · intro x y z; unfold Lib.compareInt; repeat (first | omega | split)
theorem bytes_anti : ∀ (x y : List UInt8), Lib.compareBytes y x = - Lib.compareBytes x y
  | [], [] => rfl
  | [], _ :: _ => rfl
  | _ :: _, [] => rfl
  | a :: x, b :: y => by
    simp only [Lib.compareBytes]
    have ih := bytes_anti x y
    by_cases h : a < b
    · have h2 : ¬ b < a := by rw [UInt8.lt_iff_toNat_lt] at *; omega
      rw [if_neg h2, if_pos h, if_pos h]; rfl
    · by_cases h2 : b < a
      · rw [if_pos h2, if_neg h, if_pos h2]
      · rw [if_neg h2, if_neg h, if_neg h, if_neg h2]; exact ih
theorem bytes_trans : ∀ (x y z : List UInt8), Lib.compareBytes x y ≤ 0 → Lib.compareBytes y z ≤ 0 → Lib.compareBytes x z ≤ 0
  | [], _, [] => fun _ _ => by simp [Lib.compareBytes]
  | [], _, _ :: _ => fun _ _ => by simp [Lib.compareBytes]
  | _ :: _, [], _ => fun h _ => by simp [Lib.compareBytes] at h
  | _ :: _, _ :: _, [] => fun _ h => by simp [Lib.compareBytes] at h
  | a :: x, b :: y, c :: z => fun h1 h2 => by
    simp only [Lib.compareBytes] at *
    have ih := bytes_trans x y z
    simp only [UInt8.lt_iff_toNat_lt] at *
    by_cases p1 : a.toNat < b.toNat
    · by_cases p2 : c.toNat < b.toNat
      · rw [if_neg (by omega), if_pos p2] at h2; omega
      · rw [if_pos (by omega)]; omega
    · rw [if_neg p1] at h1
      by_cases p3 : b.toNat < a.toNat
      · rw [if_pos p3] at h1; omega
      · rw [if_neg p3] at h1
        by_cases p4 : b.toNat < c.toNat
        · rw [if_pos (by omega)]; omega
        · rw [if_neg p4] at h2
          by_cases p5 : c.toNat < b.toNat
          · rw [if_pos p5] at h2; omega
          · rw [if_neg p5] at h2
            rw [if_neg (by omega), if_neg (by omega)]
            exact ih h1 h2
theorem bytes_cmp : IsCmp Lib.compareBytes := ⟨bytes_anti, bytes_trans⟩
theorem pl_cmp : IsCmp cmpPl :=
  (bytes_cmp.on (fun p : Pl => p.cls.data.toList)).lex ((bytes_cmp.on (fun p : Pl => p.meth.data.toList)).lex (int_cmp.on (fun p : Pl => p.ins)))
theorem path_anti : ∀ (x y : List Pl), cmpPath y x = - cmpPath x y
  | [], [] => rfl
  | [], _ :: _ => rfl
  | _ :: _, [] => rfl
  | a :: x, b :: y => by
    simp only [cmpPath]
    have ih := path_anti x y
    have a1 := pl_cmp.anti a b
    by_cases h : cmpPl a b = 0
    · rw [if_pos h, if_pos (by omega)]; exact ih
    · rw [if_neg h, if_neg (by omega)]; exact a1
theorem path_trans : ∀ (x y z : List Pl), cmpPath x y ≤ 0 → cmpPath y z ≤ 0 → cmpPath x z ≤ 0
  | [], _, [] => fun _ _ => by simp [cmpPath]
  | [], _, _ :: _ => fun _ _ => by simp [cmpPath]
  | _ :: _, [], _ => fun h _ => by simp [cmpPath] at h
  | _ :: _, _ :: _, [] => fun _ h => by simp [cmpPath] at h
  | a :: x, b :: y, c :: z => fun h1 h2 => by
    simp only [cmpPath] at *
    have ih := path_trans x y z
    by_cases e : cmpPl a b = 0 <;> by_cases e2 : cmpPl b c = 0
    · rw [if_pos e] at h1; rw [if_pos e2] at h2; rw [if_pos (pl_cmp.zero_zero e e2)]; exact ih h1 h2
    · rw [if_neg e2] at h2
      have := pl_cmp.zero_left e (by omega : cmpPl b c < 0)
      rw [if_neg (by omega)]; omega
    · rw [if_neg e] at h1
      have := pl_cmp.zero_right (by omega : cmpPl a b < 0) e2
      rw [if_neg (by omega)]; omega
    · rw [if_neg e] at h1; rw [if_neg e2] at h2
      have := pl_cmp.lt_lt (by omega : cmpPl a b < 0) (by omega : cmpPl b c < 0)
      rw [if_neg (by omega)]; omega
theorem path_cmp : IsCmp cmpPath := ⟨path_anti, path_trans⟩
theorem fd_cmp : IsCmp cmpFd :=
  (pl_cmp.on (fun x : Fd => x.pl)).lex ((int_cmp.on (fun x : Fd => x.kind)).lex ((bytes_cmp.on (fun x : Fd => x.what.data.toList)).lex (path_cmp.on (fun x : Fd => x.path))))
end Go.Proofs.YtffmeglcakcpdaaDoor
