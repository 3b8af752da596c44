/- size and Same: the size of a list of findings, the equality of two. -/
import Derived.Test.YtffmeglcakcpdaaDoorWalkR
set_option linter.unusedVariables false
namespace Go.Proofs.YtffmeglcakcpdaaDoor
open Go.RowKit

/-- the findings of a slice -/
def ElsOf (w : World) (a : Option Addr) (xs : List El) : Prop := xs = [] ∨ ∃ b off, a = some ⟨b, off, none⟩ ∧ b < w.heap.size ∧ ElsAt w b off xs
theorem ElsOf.below {w w' : World} {a : Option Addr} {xs : List El} (h : ElsOf w a xs) (hb : Below w.heap.size w w') : ElsOf w' a xs :=
  h.imp id fun ⟨b, off, e, hlt, he⟩ => ⟨b, off, e, Nat.lt_of_lt_of_le hlt hb.size, fun i hi => (he i hi).below hlt hb⟩
theorem ElsOf.at {w : World} {a : Option Addr} {xs : List El} (h : ElsOf w a xs) {k : Nat} (hk : k < xs.length) : ∃ b off, a = some ⟨b, off, none⟩ ∧ b < w.heap.size ∧ ElsAt w b off xs := by
  rcases h with rfl | h
  · simp at hk
  · exact h

/-- what size returns -/
def SizeFd (xs : List El) (e : Ending) : Prop := ∃ r : Bool, e = .returned (.bool r) ∧ (r = true → xs.length ≤ 60)
set_option maxHeartbeats 4000000 in
theorem size_any (a : Option Addr) (cp : Nat) (xs : List El) (w : World) (hn : xs.length ≤ 4398046511104) (hp : ∀ x ∈ xs, x.f.path.length * 40 ≤ 140737488355328) (h : ElsOf w a xs) :
    Calls Tryd.prog 14 #[.slice a xs.length cp] w fun e w' => SizeFd xs e ∧ Below w.heap.size w w' := by
  have HE := Lib.hid h
  have HP := Lib.hid hp
  clear h hp
  go_enter Tryd.func14, Tryd.ntmps14
  go_wp2_with fail
  go_loopg [3, 4] xs.length (fun g vn vi wr => ∃ (n k : Nat), vn = .int .i64 n ∧ vi = .int .i64 k ∧ k ≤ xs.length ∧ xs.length - k ≤ g ∧ n ≤ 9007199254740992 ∧ wr = w)
  case atStart => exact ⟨xs.length, 0, rfl, rfl, by omega, by omega, by omega, rfl⟩
  case round =>
    obtain ⟨n, k, rfl, rfl, hk, hg, hnn, rfl⟩ := hrel
    by_cases hlt : k < xs.length
    · by_cases h2 : n ≤ 2000
      · obtain ⟨b, off, rfl, hbl, hA⟩ := HE.out.at hlt
        have c5 := (hA k hlt).c5
        have hpl := HP.out _ (List.getElem_mem hlt)
        clear hA
        generalize (xs[k]).f.path.length = pl at *
        generalize (xs[k]).a = pa at *
        generalize (xs[k]).cp = pc at *
        have hw : IntKind.i64.wrap ((n : Int) + (pl : Int)) = ((n + pl : Nat) : Int) := by rw [IntWalk.i64_in _ (by omega)]; omega
        go_wp2_with fail
        go_roundg (xs.length - (k + 1))
        case measure => omega
        case rel => exact ⟨n + pl, k + 1, by go_num, by go_num, by omega, by omega, by omega, rfl⟩
      · have h2' : ¬ (n : Int) ≤ 2000 := by omega
        go_wp2_with fail
        all_goals go_ret
        all_goals exact ⟨⟨_, rfl, fun h => by first | omega | cases h⟩, Below.refl _ _⟩
    · go_wp2_with fail
      all_goals go_ret
      all_goals exact ⟨⟨_, rfl, fun h => by first | omega | cases h⟩, Below.refl _ _⟩

/-- two lists of findings are the same, one by one -/
def SameEls (xs ys : List El) : Prop := xs.length = ys.length ∧ ∀ i (h : i < xs.length) (h' : i < ys.length), cmpEl xs[i] ys[i] = 0

set_option maxHeartbeats 4000000 in
theorem same_any (a b : Option Addr) (cp cq : Nat) (xs ys : List El) (w : World) (hn : xs.length ≤ 4398046511104) (hs : SameEls xs ys) (hx : ElsOf w a xs) (hy : ElsOf w b ys) (gx : ∀ x ∈ xs, GoodIn w x) (gy : ∀ x ∈ ys, GoodIn w x) :
    Calls Tryd.prog 15 #[.slice a xs.length cp, .slice b ys.length cq] w fun e w' => e = .returned (.bool true) ∧ Below w.heap.size w w' := by
  have hl : ys.length = xs.length := hs.1.symm
  have HS := Lib.hid hs.2
  have HX := Lib.hid hx
  have HY := Lib.hid hy
  have GX := Lib.hid gx
  have GY := Lib.hid gy
  clear hs hx hy gx gy
  rw [hl]
  have HL := Lib.hid hl
  clear hl
  go_enter Tryd.func15, Tryd.ntmps15
  go_wp2_with fail
  go_loopg [5] xs.length (fun g vi wr => ∃ (k : Nat), vi = .int .i64 k ∧ k ≤ xs.length ∧ xs.length - k ≤ g ∧ Hid (Below w.heap.size w wr))
  case atStart => exact ⟨0, rfl, by omega, by omega, Below.refl _ _⟩
  case round =>
    obtain ⟨k, rfl, hk, hg, HB⟩ := hrel
    by_cases hlt : k < xs.length
    · obtain ⟨b1, off1, rfl, hbl1, hA1⟩ := (HX.out.below HB.out).at hlt
      obtain ⟨b2, off2, rfl, hbl2, hA2⟩ := (HY.out.below HB.out).at (show k < ys.length by rw [HL.out]; exact hlt)
      obtain ⟨p0, p1, p2, p3, p4, p5⟩ := hA1 k hlt
      obtain ⟨q0, q1, q2, q3, q4, q5⟩ := hA2 k (by rw [HL.out]; exact hlt)
      have e0 := HS.out k hlt (by rw [HL.out]; exact hlt)
      have g1 := (GX.out _ (List.getElem_mem hlt)).below HB.out
      have g2 := (GY.out _ (List.getElem_mem (show k < ys.length by rw [HL.out]; exact hlt))).below HB.out
      generalize xs[k] = x at *
      generalize ys[k]'(by rw [HL.out]; exact hlt) = y at *
      have HQ : Hid (∀ d os, Calls Tryd.prog 9 #[x.val, y.val] (Sort.grow (redrawn wr d) os) fun e w'' => e = .returned (.int .i64 0) ∧ ∃ p : Regrown, w'' = Sort.grow (redrawn wr p.d) p.os) := fun d os => by
        have := compareR_any x.f y.f x.a y.a x.cp y.cp (Sort.grow (redrawn wr d) os) g1.ok.n1 g2.ok.n1 (g1.path.below (below_regrown _ _ _)) (g2.path.below (below_regrown _ _ _))
        rw [show cmpFd x.f y.f = 0 from e0] at this
        exact Calls.regrown_of this
      have r0 := cell_regrown p0
      have r1 := cell_regrown p1
      have r2 := cell_regrown p2
      have r3 := cell_regrown p3
      have r4 := cell_regrown p4
      have r5 := cell_regrown p5
      have v0 := cell_regrown q0
      have v1 := cell_regrown q1
      have v2 := cell_regrown q2
      have v3 := cell_regrown q3
      have v4 := cell_regrown q4
      have v5 := cell_regrown q5
      clear p0 p1 p2 p3 p4 p5 q0 q1 q2 q3 q4 q5 hA1 hA2 g1 g2
      go_wp2_with fail
      refine wp_region_below (by kernel_rfl) (by kernel_rfl) ?_
      repeat (quiet_step (exact HQ.out _ _))
      refine wpQuiet_nil ?_
      clear r0 r1 r2 r3 r4 r5 v0 v1 v2 v3 v4 v5
      intro wq hq
      have HB2 : Hid (Below w.heap.size w wq) := over hq.out HB.out HB.out.size
      go_wp2_with fail
      go_roundg (xs.length - (k + 1))
      case measure => omega
      case rel => exact ⟨k + 1, by go_num, by omega, by omega, HB2⟩
    · go_wp2_with fail
      go_ret
      exact ⟨rfl, HB.out⟩
end Go.Proofs.YtffmeglcakcpdaaDoor
