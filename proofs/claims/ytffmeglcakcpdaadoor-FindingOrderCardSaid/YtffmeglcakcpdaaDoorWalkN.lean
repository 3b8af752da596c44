/- stableCmpFunc at fewer than 20 elements, SortStableFunc, the closure of sortBy, CompactFunc. -/
import Derived.Test.YtffmeglcakcpdaaDoorWalkL
set_option linter.unusedVariables false
namespace Go.Proofs.YtffmeglcakcpdaaDoor
open Go.RowKit

set_option maxHeartbeats 4000000 in
theorem stable_small (blk cap : Nat) (xs : List El) (w0 w : World) (R : Row w0 blk xs w) (hn : xs.length < 20) (hG : ∀ x ∈ xs, Good w0 blk x) :
    Calls Tryd.prog 53 #[.slice (some ⟨blk, 0, none⟩) xs.length cap, .int .i64 xs.length, cmpV] w fun e w' => e = .returned (.tuple #[]) ∧ ∃ t, t.Perm xs ∧ Srt.Sorted cmpEl t ∧ Row w0 blk t w' := by
  have HR := Lib.hid R
  have HG := Lib.hid hG
  clear R hG
  go_enter Tryd.func53, Tryd.ntmps53
  go_wp2_with fail
  refine wp_loop_rounds 1 ?_
  rw [rounds_succ]
  go_wp2_with fail
  refine (insertion_any blk cap 0 xs.length xs [] xs [] w0 _ HR.out (by simp) rfl (by simp) (by omega) HG.out).mono ?_
  rintro e w2 ⟨rfl, t, h1, h2, h3⟩
  have H : Hid (∃ t, t.Perm xs ∧ Srt.Sorted cmpEl t ∧ Row w0 blk t w2) := ⟨t, h1, h2, by simpa using h3⟩
  clear h1 h2 h3
  go_wp2_with fail
  refine wp_loop_rounds 1 ?_
  rw [rounds_succ]
  go_wp2_with fail
  go_end0
  exact ⟨rfl, H.out⟩

theorem stable_any (blk cap : Nat) (xs : List El) (w0 w : World) (R : Row w0 blk xs w) (hn : xs.length < 20) (hG : ∀ x ∈ xs, Good w0 blk x) :
    Calls Tryd.prog 53 #[.slice (some ⟨blk, 0, none⟩) xs.length cap, .int .i64 xs.length, cmpV] w fun e w' => e = .returned (.tuple #[]) ∧ ∃ t, t.Perm xs ∧ Srt.Sorted cmpEl t ∧ Row w0 blk t w' :=
  stable_small blk cap xs w0 w R hn hG

set_option maxHeartbeats 4000000 in
theorem sortStable_any (blk cap : Nat) (xs : List El) (w0 w : World) (R : Row w0 blk xs w) (hn : xs.length < 20) (hG : ∀ x ∈ xs, Good w0 blk x) :
    Calls Tryd.prog 41 #[.slice (some ⟨blk, 0, none⟩) xs.length cap, cmpV] w fun e w' => e = .returned (.tuple #[]) ∧ ∃ t, t.Perm xs ∧ Srt.Sorted cmpEl t ∧ Row w0 blk t w' := by
  have HR := Lib.hid R
  have HG := Lib.hid hG
  clear R hG
  go_enter Tryd.func41, Tryd.ntmps41
  go_wp2_with fail
  refine (stable_any blk cap xs w0 _ HR.out hn HG.out).mono ?_
  rintro e w2 ⟨rfl, h⟩
  have H := Lib.hid h
  clear h
  go_wp2_with fail
  go_end0
  exact ⟨rfl, H.out⟩

set_option maxHeartbeats 4000000 in
theorem closure_any (W : World) (x y : El) (bx : Nat) (hbx : W.cell? ⟨bx, 0, none⟩ = some cmpV)
    (hc : ∀ W', Below W.heap.size W W' → Calls Tryd.prog 8 #[x.val, y.val] W' fun e w' => e = .returned (.int .i64 (cmpEl x y)) ∧ Below W'.heap.size W' w') :
    Calls Tryd.prog 43 #[x.val, y.val, .pointer (some ⟨bx, 0, none⟩)] W fun e w' => e = .returned (.bool (cmpEl x y == 0)) ∧ Below W.heap.size W w' := by
  have HC := Lib.hid hc
  have hlt : bx < W.heap.size := block_lt_of_cell hbx
  clear hc
  unfold El.val Fd.val
  go_enter Tryd.func43, Tryd.ntmps43
  go_wp2_with fail
  refine (HC.out _ (by go_grown)).mono ?_
  rintro e w2 ⟨rfl, hb2⟩
  have B2 : Hid (Below W.heap.size W w2) := over hb2 (by go_grown) (by go_size)
  clear hb2
  go_wp2_with fail
  go_ret
  exact ⟨rfl, B2.out⟩

/-- the list without what equals its forerunner, behind an element -/
def compactFrom (p : El) : List El → List El
  | [] => []
  | x :: xs => if cmpEl x p == 0 then compactFrom x xs else x :: compactFrom x xs
def compact : List El → List El
  | [] => []
  | x :: xs => x :: compactFrom x xs

theorem Row.short {w0 W : World} {blk : Nat} {xs ys : List El} (h : Row w0 blk (xs ++ ys) W) : Row w0 blk xs W :=
  ⟨h.os, h.tape, h.output, h.size, h.blt, h.others, fun i hi => by
    have := h.six i (by simp; omega)
    rwa [List.getElem_append_left hi] at this, fun o ho => h.free o (by simp; omega)⟩
end Go.Proofs.YtffmeglcakcpdaaDoor
