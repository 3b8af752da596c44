/- Contracts of the small comparing functions (reference and program). -/
import Derived.Test.YtffmeglcakcpdaaDoorShelf
import Derived.WalkKit
import Derived.WalkSpells
import Derived.WalkLawsBesides
import Derived.Handy
namespace Go.Proofs.YtffmeglcakcpdaaDoor
open Go.RowKit

theorem ret_int {k : IntKind} {a b : Int} (h : a = b) : Ending.returned (.int k a) = .returned (.int k b) := by rw [h]

/-- what a callee leaves, behind what was done before -/
theorem over {B : Nat} {w W w1 : World} (h1 : Below W.heap.size W w1) (h : Below B w W) (hB : B ≤ W.heap.size) : Below B w w1 := h.trans (h1.mono hB)

/-! plain facts on the comparison of strings -/
theorem less_of_cmp : ∀ (x y : List UInt8), Op.bytesLess x y = decide (Lib.compareBytes x y = -1)
  | [], [] => rfl
  | [], _ :: _ => rfl
  | _ :: _, [] => rfl
  | a :: x, b :: y => by
    simp only [Op.bytesLess, Lib.compareBytes]
    rw [less_of_cmp x y]
    by_cases h : a < b
    · simp [h]
    · by_cases h2 : b < a
      · have : a ≠ b := by rintro rfl; exact h h2
        simp [h, h2, this]
      · have : a = b := by
          rw [UInt8.lt_iff_toNat_lt] at h h2
          exact UInt8.toNat_inj.1 (by omega)
        subst this
        simp
theorem cmp_range : ∀ (x y : List UInt8), Lib.compareBytes x y = -1 ∨ Lib.compareBytes x y = 0 ∨ Lib.compareBytes x y = 1
  | [], [] => by simp [Lib.compareBytes]
  | [], _ :: _ => by simp [Lib.compareBytes]
  | _ :: _, [] => by simp [Lib.compareBytes]
  | a :: x, b :: y => by
    simp only [Lib.compareBytes]
    have := cmp_range x y
    split
    · simp
    · split
      · simp
      · exact this
theorem cmp_zero : ∀ (x y : List UInt8), Lib.compareBytes x y = 0 ↔ x = y
  | [], [] => by simp [Lib.compareBytes]
  | [], _ :: _ => by simp [Lib.compareBytes]
  | _ :: _, [] => by simp [Lib.compareBytes]
  | a :: x, b :: y => by
    simp only [Lib.compareBytes]
    have := cmp_zero x y
    by_cases h : a < b
    · have : a ≠ b := by rintro rfl; simp at h
      simp [h, this]
    · by_cases h2 : b < a
      · have : a ≠ b := by rintro rfl; simp at h2
        simp [h, h2, this]
      · have e : a = b := by
          rw [UInt8.lt_iff_toNat_lt] at h h2
          exact UInt8.toNat_inj.1 (by omega)
        subst e
        simp [this]
theorem cmp_case1 {x y : List UInt8} (h : Op.bytesLess x y = true) : (-1 : Int) = Lib.compareBytes x y := by
  rw [less_of_cmp] at h; exact (of_decide_eq_true h).symm
theorem cmp_case2 {x y : List UInt8} (h : Op.bytesLess x y = false) (h2 : (!x == y) = true) : (1 : Int) = Lib.compareBytes x y := by
  rw [less_of_cmp] at h
  have h := of_decide_eq_false h
  have h3 : x ≠ y := by simpa using h2
  rcases cmp_range x y with r | r | r
  · exact absurd r h
  · exact absurd ((cmp_zero x y).1 r) h3
  · exact r.symm
theorem cmp_case3 {x y : List UInt8} (h2 : (!x == y) = false) : (0 : Int) = Lib.compareBytes x y := by
  have h3 : x = y := by simpa using h2
  exact ((cmp_zero x y).2 h3).symm

set_option maxHeartbeats 400000 in
theorem numbers_any (x y : Int) (w : World) :
    Calls Tryd.prog 24 #[.int .i64 x, .int .i64 y] w fun e w' => e = .returned (.int .i64 (Lib.compareInt x y)) ∧ w = w' := by
  go_enter Tryd.func24, Tryd.ntmps24
  go_wp2
  all_goals
    go_ret
    exact ⟨ret_int (by unfold Lib.compareInt; repeat (first | omega | split)), rfl⟩

set_option maxHeartbeats 400000 in
theorem words_any (x y : ByteArray) (w : World) :
    Calls Tryd.prog 25 #[.string x, .string y] w fun e w' => e = .returned (.int .i64 (Lib.compareBytes x.data.toList y.data.toList)) ∧ w = w' := by
  rw [← Lib.toList_data, ← Lib.toList_data]
  go_enter Tryd.func25, Tryd.ntmps25
  go_wp2
  · go_ret
    exact ⟨ret_int (cmp_case1 ‹_›), rfl⟩
  · go_ret
    exact ⟨ret_int (cmp_case2 ‹_› ‹_›), rfl⟩
  · go_ret
    exact ⟨ret_int (cmp_case3 ‹_›), rfl⟩


/-- a place: class, method, instruction -/
structure Pl where
  cls : ByteArray
  meth : ByteArray
  ins : Int
abbrev Pl.val (p : Pl) : Value := .agg #[.string p.cls, .string p.meth, .int .i64 p.ins]
def cmpPl (a b : Pl) : Int :=
  if Lib.compareBytes a.cls.data.toList b.cls.data.toList = 0 then
    if Lib.compareBytes a.meth.data.toList b.meth.data.toList = 0 then Lib.compareInt a.ins b.ins else Lib.compareBytes a.meth.data.toList b.meth.data.toList
  else Lib.compareBytes a.cls.data.toList b.cls.data.toList

theorem cmpPl_1 {a b : Pl} {x : Int} (hx : x = Lib.compareBytes a.cls.data.toList b.cls.data.toList) (h : x ≠ 0) : x = cmpPl a b := by
  subst hx; unfold cmpPl; rw [if_neg h]
theorem cmpPl_2 {a b : Pl} {x y : Int} (hx : x = Lib.compareBytes a.cls.data.toList b.cls.data.toList) (h : x = 0) (hy : y = Lib.compareBytes a.meth.data.toList b.meth.data.toList) (h2 : y ≠ 0) : y = cmpPl a b := by
  subst hx hy; unfold cmpPl; rw [if_pos h, if_neg h2]
theorem cmpPl_3 {a b : Pl} {x y : Int} (hx : x = Lib.compareBytes a.cls.data.toList b.cls.data.toList) (h : x = 0) (hy : y = Lib.compareBytes a.meth.data.toList b.meth.data.toList) (h2 : y = 0) : Lib.compareInt a.ins b.ins = cmpPl a b := by
  subst hx hy; unfold cmpPl; rw [if_pos h, if_pos h2]

set_option maxHeartbeats 400000 in
theorem comparePlacesR_any (a b : Pl) (w : World) :
    Calls Tryd.prog 23 #[a.val, b.val] w fun e w' => e = .returned (.int .i64 (cmpPl a b)) ∧ Below w.heap.size w w' := by
  unfold Pl.val
  generalize hx : Lib.compareBytes a.cls.data.toList b.cls.data.toList = x
  generalize hy : Lib.compareBytes a.meth.data.toList b.meth.data.toList = y
  have HX := Lib.hid hx.symm
  have HY := Lib.hid hy.symm
  clear hx hy
  go_enter Tryd.func23, Tryd.ntmps23
  go_wp2_with fail
  refine (words_any _ _ _).mono ?_
  rintro e w' ⟨rfl, rfl⟩
  rw [← HX.out]
  by_cases h : x = 0
  · have h1 : (x != 0) = false := by simp [h]
    have H := Lib.hid h
    clear h
    go_wp2_with fail
    refine (words_any _ _ _).mono ?_
    rintro e w' ⟨rfl, rfl⟩
    rw [← HY.out]
    by_cases h2 : y = 0
    · have h3 : (y != 0) = false := by simp [h2]
      have H2 := Lib.hid h2
      clear h2
      go_wp2_with fail
      refine (numbers_any _ _ _).mono ?_
      rintro e w' ⟨rfl, rfl⟩
      go_wp2_with fail
      go_ret
      exact ⟨ret_int (cmpPl_3 HX.out H.out HY.out H2.out), by go_grown⟩
    · have h3 : (y != 0) = true := by simp [h2]
      have H2 := Lib.hid h2
      clear h2
      go_wp2_with fail
      go_ret
      exact ⟨ret_int (cmpPl_2 HX.out H.out HY.out H2.out), by go_grown⟩
  · have h1 : (x != 0) = true := by simp [h]
    have H := Lib.hid h
    clear h
    go_wp2_with fail
    go_ret
    exact ⟨ret_int (cmpPl_1 HX.out H.out), by go_grown⟩
end Go.Proofs.YtffmeglcakcpdaaDoor
