/- The walk of the law FindingKeys. -/
import Derived.Test.YtffmeglcakcpdaaDoorWalkR
import Derived.Test.YtffmeglcakcpdaaDoorKeyP
set_option linter.unusedVariables false
namespace Go.Proofs.YtffmeglcakcpdaaDoor
open Go.RowKit

theorem eqlPl (p q : Pl) (w : World) : (binOp .eql 23 (.agg #[.string p.cls, .string p.meth, .int .i64 p.ins]) (.agg #[.string q.cls, .string q.meth, .int .i64 q.ins])).run Tryd.prog w = .ok (.bool (plEq p q)) w := by
  unfold plEq
  rw [run_eql_struct]
  cases h1 : (p.cls.toList == q.cls.toList) <;> cases h2 : (p.meth.toList == q.meth.toList) <;> cases h3 : (p.ins == q.ins)
  all_goals simp [go_sem, h1, h2, h3]

set_option maxRecDepth 100000 in
set_option maxHeartbeats 8000000 in
/-- the way on: both findings are valid -/
theorem keys_valid (x y : Fd) (a b : Option Addr) (cp cq : Nat) (w : World) (hE : Env w) (hx : x.Ok) (hy : y.Ok) (hp : PathAt w a x.path) (hq : PathAt w b y.path) (h1 : x.path.length ≤ 4200) (h2 : y.path.length ≤ 4200) (cx : checkFd x = 0) (cy : checkFd y = 0) :
    Calls Tryd.prog 6 #[x.val a cp, y.val b cq] w fun e w' => e = .returned (.bool true) ∧ Below w.heap.size w w' := by
  unfold Fd.val
  have HE := Lib.hid hE
  have HX := Lib.hid hx
  have HY := Lib.hid hy
  have HP := Lib.hid hp
  have HQ := Lib.hid hq
  have CX := Lib.hid cx
  have CY := Lib.hid cy
  have HK := Lib.hid (key_same cx cy)
  have hqe := eqlPl x.pl y.pl
  have HSB : Hid (sameB x y = (x.kind == y.kind && (plEq x.pl y.pl && x.what.toList == y.what.toList))) := rfl
  clear hE hx hy hp hq cx cy
  go_enter Tryd.func6, Tryd.ntmps6
  go_wp2_with fail
  have hb : Below w.heap.size w ((w.alloc (.cells #[.int .i64 x.kind, .string x.pl.cls, .string x.pl.meth, .int .i64 x.pl.ins, .string x.what, .slice a x.path.length cp] 26)).alloc (.cells #[.int .i64 y.kind, .string y.pl.cls, .string y.pl.meth, .int .i64 y.pl.ins, .string y.what, .slice b y.path.length cq] 26)) := by go_grown
  refine (checkR_any x a cp _ (by have := HX.out.s3; omega) HX.out.n1 (HP.out.below hb)).mono ?_
  rintro e w1 ⟨rfl, hb1⟩
  rw [CX.out]
  have B1 : Hid (Below w.heap.size w w1) := over hb1 hb (by go_size)
  have k0 : w1.cell? ⟨w.heap.size, 0, none⟩ = some (.int .i64 x.kind) := by rw [hb1.cell (p := ⟨w.heap.size, _, none⟩) (by go_size)]; go_simp
  have l0 : w1.cell? ⟨w.heap.size + 1, 0, none⟩ = some (.int .i64 y.kind) := by rw [hb1.cell (p := ⟨w.heap.size + 1, _, none⟩) (by go_size)]; go_simp
  have k1 : w1.cell? ⟨w.heap.size, 1, none⟩ = some (.string x.pl.cls) := by rw [hb1.cell (p := ⟨w.heap.size, _, none⟩) (by go_size)]; go_simp
  have l1 : w1.cell? ⟨w.heap.size + 1, 1, none⟩ = some (.string y.pl.cls) := by rw [hb1.cell (p := ⟨w.heap.size + 1, _, none⟩) (by go_size)]; go_simp
  have k2 : w1.cell? ⟨w.heap.size, 2, none⟩ = some (.string x.pl.meth) := by rw [hb1.cell (p := ⟨w.heap.size, _, none⟩) (by go_size)]; go_simp
  have l2 : w1.cell? ⟨w.heap.size + 1, 2, none⟩ = some (.string y.pl.meth) := by rw [hb1.cell (p := ⟨w.heap.size + 1, _, none⟩) (by go_size)]; go_simp
  have k3 : w1.cell? ⟨w.heap.size, 3, none⟩ = some (.int .i64 x.pl.ins) := by rw [hb1.cell (p := ⟨w.heap.size, _, none⟩) (by go_size)]; go_simp
  have l3 : w1.cell? ⟨w.heap.size + 1, 3, none⟩ = some (.int .i64 y.pl.ins) := by rw [hb1.cell (p := ⟨w.heap.size + 1, _, none⟩) (by go_size)]; go_simp
  have k4 : w1.cell? ⟨w.heap.size, 4, none⟩ = some (.string x.what) := by rw [hb1.cell (p := ⟨w.heap.size, _, none⟩) (by go_size)]; go_simp
  have l4 : w1.cell? ⟨w.heap.size + 1, 4, none⟩ = some (.string y.what) := by rw [hb1.cell (p := ⟨w.heap.size + 1, _, none⟩) (by go_size)]; go_simp
  have k5 : w1.cell? ⟨w.heap.size, 5, none⟩ = some (.slice a x.path.length cp) := by rw [hb1.cell (p := ⟨w.heap.size, _, none⟩) (by go_size)]; go_simp
  have l5 : w1.cell? ⟨w.heap.size + 1, 5, none⟩ = some (.slice b y.path.length cq) := by rw [hb1.cell (p := ⟨w.heap.size + 1, _, none⟩) (by go_size)]; go_simp
  clear hb hb1
  go_wp2_with fail
  refine (checkR_any y b cq _ (by have := HY.out.s3; omega) HY.out.n1 (HQ.out.below B1.out)).mono ?_
  rintro e w2 ⟨rfl, hb2⟩
  rw [CY.out]
  have B2 : Hid (Below w.heap.size w w2) := over hb2 B1.out B1.out.size
  have m0 := keepC k0 hb2
  have n0 := keepC l0 hb2
  have m1 := keepC k1 hb2
  have n1 := keepC l1 hb2
  have m2 := keepC k2 hb2
  have n2 := keepC l2 hb2
  have m3 := keepC k3 hb2
  have n3 := keepC l3 hb2
  have m4 := keepC k4 hb2
  have n4 := keepC l4 hb2
  have m5 := keepC k5 hb2
  have n5 := keepC l5 hb2
  clear hb2
  clear k0 l0 k1 l1 k2 l2 k3 l3 k4 l4 k5 l5
  have HEW := Lib.hid (HE.out.below B2.out)
  have HPW := Lib.hid (HP.out.below B2.out)
  generalize hs0 : w.heap.size = n0 at *
  have HS0 := Lib.hid hs0
  clear hs0
  have r0 := cell_regrown m0
  have v0 := cell_regrown n0
  have r1 := cell_regrown m1
  have v1 := cell_regrown n1
  have r2 := cell_regrown m2
  have v2 := cell_regrown n2
  have r3 := cell_regrown m3
  have v3 := cell_regrown n3
  have r4 := cell_regrown m4
  have v4 := cell_regrown n4
  have r5 := cell_regrown m5
  have v5 := cell_regrown n5
  have C3 := Lib.hid (fun W' (hb : Below w2.heap.size w2 W') => key_any x a cp W' (HEW.out.below hb) HX.out)
  have C4 := Lib.hid (fun W' (hb : Below w2.heap.size w2 W') => key_any y b cq W' (HEW.out.below hb) HY.out)
  have C5 := Lib.hid (fun W' (hb : Below w2.heap.size w2 W') => check_any x a cp W' (HEW.out.below hb) HX.out.n1 (HPW.out.below hb))
  rw [CX.out] at C5
  have C7 := Lib.hid (fun W' (hb : Below w2.heap.size w2 W') => awake_any W' (HEW.out.below hb))
  have hkk := HK.out
  rw [HSB.out] at hkk
  generalize keyFd x = kx at *
  generalize keyFd y = ky at *
  cases t1 : (x.kind == y.kind) <;> cases t2 : plEq x.pl y.pl <;> cases t3 : (x.what.toList == y.what.toList)
  all_goals
    rw [t1, t2, t3] at hkk
    simp only [Bool.and_true, Bool.and_false, Bool.and_self] at hkk
    go_wp2_with fail
    refine wp_region_below (by kernel_rfl) (by kernel_rfl) ?_
    repeat (quiet_step (first
      | (go_at_call 10; first | with_reducible exact Calls.regrown_of (C3.out _ (below_regrown _ _ _)) | with_reducible exact Calls.regrown_of (C4.out _ (below_regrown _ _ _)))
      | (go_at_call 12; exact Calls.regrown_of (C5.out _ (below_regrown _ _ _)))
      | (go_at_call 7; exact Calls.regrown_of (C7.out _ (below_regrown _ _ _)))))
    refine wpQuiet_nil ?_
    intro wq hq
    go_wp2_with fail
    go_ret
    refine ⟨ret_bool (by simp), ?_⟩
    have h := over hq.out B2.out (by rw [← HS0.out]; exact B2.out.size)
    rw [HS0.out]; exact h

set_option maxRecDepth 100000 in
set_option maxHeartbeats 8000000 in
theorem keys_bad1 (x y : Fd) (a b : Option Addr) (cp cq : Nat) (w : World) (hE : Env w) (hx : x.Ok) (hp : PathAt w a x.path) (h1 : x.path.length ≤ 4200) (h2 : y.path.length ≤ 4200) (cx : checkFd x ≠ 0) :
    Calls Tryd.prog 6 #[x.val a cp, y.val b cq] w fun e w' => e = .returned (.bool true) ∧ Below w.heap.size w w' := by
  unfold Fd.val
  have HE := Lib.hid hE
  have HX := Lib.hid hx
  have HP := Lib.hid hp
  have ce : (checkFd x != 0) = true := by simp [cx]
  clear hE hx hp cx
  go_enter Tryd.func6, Tryd.ntmps6
  go_wp2_with fail
  have hb : Below w.heap.size w ((w.alloc (.cells #[.int .i64 x.kind, .string x.pl.cls, .string x.pl.meth, .int .i64 x.pl.ins, .string x.what, .slice a x.path.length cp] 26)).alloc (.cells #[.int .i64 y.kind, .string y.pl.cls, .string y.pl.meth, .int .i64 y.pl.ins, .string y.what, .slice b y.path.length cq] 26)) := by go_grown
  refine (checkR_any x a cp _ (by have := HX.out.s3; omega) HX.out.n1 (HP.out.below hb)).mono ?_
  rintro e w1 ⟨rfl, hb1⟩
  have B1 : Hid (Below w.heap.size w w1) := over hb1 hb (by go_size)
  clear hb hb1
  go_wp2_with fail
  refine (awake_any _ (HE.out.below B1.out)).mono ?_
  rintro e w2 ⟨rfl, hb2⟩
  have B2 : Hid (Below w.heap.size w w2) := over hb2 B1.out B1.out.size
  clear hb2
  go_wp2_with fail
  go_ret
  exact ⟨rfl, B2.out⟩
set_option maxRecDepth 100000 in
set_option maxHeartbeats 8000000 in
theorem keys_bad2 (x y : Fd) (a b : Option Addr) (cp cq : Nat) (w : World) (hE : Env w) (hx : x.Ok) (hy : y.Ok) (hp : PathAt w a x.path) (hq : PathAt w b y.path) (h1 : x.path.length ≤ 4200) (h2 : y.path.length ≤ 4200) (cx : checkFd x = 0) (cy : checkFd y ≠ 0) :
    Calls Tryd.prog 6 #[x.val a cp, y.val b cq] w fun e w' => e = .returned (.bool true) ∧ Below w.heap.size w w' := by
  unfold Fd.val
  have HE := Lib.hid hE
  have HX := Lib.hid hx
  have HY := Lib.hid hy
  have HP := Lib.hid hp
  have HQ := Lib.hid hq
  have CX := Lib.hid cx
  have ce : (checkFd y != 0) = true := by simp [cy]
  clear hE hx hy hp hq cx cy
  go_enter Tryd.func6, Tryd.ntmps6
  go_wp2_with fail
  have hb : Below w.heap.size w ((w.alloc (.cells #[.int .i64 x.kind, .string x.pl.cls, .string x.pl.meth, .int .i64 x.pl.ins, .string x.what, .slice a x.path.length cp] 26)).alloc (.cells #[.int .i64 y.kind, .string y.pl.cls, .string y.pl.meth, .int .i64 y.pl.ins, .string y.what, .slice b y.path.length cq] 26)) := by go_grown
  refine (checkR_any x a cp _ (by have := HX.out.s3; omega) HX.out.n1 (HP.out.below hb)).mono ?_
  rintro e w1 ⟨rfl, hb1⟩
  rw [CX.out]
  have B1 : Hid (Below w.heap.size w w1) := over hb1 hb (by go_size)
  have k0 : w1.cell? ⟨w.heap.size, 0, none⟩ = some (.int .i64 x.kind) := by rw [hb1.cell (p := ⟨w.heap.size, _, none⟩) (by go_size)]; go_simp
  have l0 : w1.cell? ⟨w.heap.size + 1, 0, none⟩ = some (.int .i64 y.kind) := by rw [hb1.cell (p := ⟨w.heap.size + 1, _, none⟩) (by go_size)]; go_simp
  have k1 : w1.cell? ⟨w.heap.size, 1, none⟩ = some (.string x.pl.cls) := by rw [hb1.cell (p := ⟨w.heap.size, _, none⟩) (by go_size)]; go_simp
  have l1 : w1.cell? ⟨w.heap.size + 1, 1, none⟩ = some (.string y.pl.cls) := by rw [hb1.cell (p := ⟨w.heap.size + 1, _, none⟩) (by go_size)]; go_simp
  have k2 : w1.cell? ⟨w.heap.size, 2, none⟩ = some (.string x.pl.meth) := by rw [hb1.cell (p := ⟨w.heap.size, _, none⟩) (by go_size)]; go_simp
  have l2 : w1.cell? ⟨w.heap.size + 1, 2, none⟩ = some (.string y.pl.meth) := by rw [hb1.cell (p := ⟨w.heap.size + 1, _, none⟩) (by go_size)]; go_simp
  have k3 : w1.cell? ⟨w.heap.size, 3, none⟩ = some (.int .i64 x.pl.ins) := by rw [hb1.cell (p := ⟨w.heap.size, _, none⟩) (by go_size)]; go_simp
  have l3 : w1.cell? ⟨w.heap.size + 1, 3, none⟩ = some (.int .i64 y.pl.ins) := by rw [hb1.cell (p := ⟨w.heap.size + 1, _, none⟩) (by go_size)]; go_simp
  have k4 : w1.cell? ⟨w.heap.size, 4, none⟩ = some (.string x.what) := by rw [hb1.cell (p := ⟨w.heap.size, _, none⟩) (by go_size)]; go_simp
  have l4 : w1.cell? ⟨w.heap.size + 1, 4, none⟩ = some (.string y.what) := by rw [hb1.cell (p := ⟨w.heap.size + 1, _, none⟩) (by go_size)]; go_simp
  have k5 : w1.cell? ⟨w.heap.size, 5, none⟩ = some (.slice a x.path.length cp) := by rw [hb1.cell (p := ⟨w.heap.size, _, none⟩) (by go_size)]; go_simp
  have l5 : w1.cell? ⟨w.heap.size + 1, 5, none⟩ = some (.slice b y.path.length cq) := by rw [hb1.cell (p := ⟨w.heap.size + 1, _, none⟩) (by go_size)]; go_simp
  clear hb hb1
  go_wp2_with fail
  refine (checkR_any y b cq _ (by have := HY.out.s3; omega) HY.out.n1 (HQ.out.below B1.out)).mono ?_
  rintro e w2 ⟨rfl, hb2⟩
  have B2 : Hid (Below w.heap.size w w2) := over hb2 B1.out B1.out.size
  clear hb2
  go_wp2_with fail
  refine (awake_any _ (HE.out.below B2.out)).mono ?_
  rintro e w3 ⟨rfl, hb3⟩
  have B3 : Hid (Below w.heap.size w w3) := over hb3 B2.out B2.out.size
  clear hb3
  go_wp2_with fail
  go_ret
  exact ⟨rfl, B3.out⟩
set_option maxHeartbeats 8000000 in
theorem keys_any (x y : Fd) (a b : Option Addr) (cp cq : Nat) (w : World) (hE : Env w) (hx : x.Ok) (hy : y.Ok) (hp : PathAt w a x.path) (hq : PathAt w b y.path) :
    Calls Tryd.prog 6 #[x.val a cp, y.val b cq] w fun e w' => e = .returned (.bool true) ∧ Below w.heap.size w w' := by
  by_cases h1 : x.path.length ≤ 4200
  · by_cases h2 : y.path.length ≤ 4200
    · by_cases cx : checkFd x = 0
      · by_cases cy : checkFd y = 0
        · exact keys_valid x y a b cp cq w hE hx hy hp hq h1 h2 cx cy
        · exact keys_bad2 x y a b cp cq w hE hx hy hp hq h1 h2 cx cy
      · exact keys_bad1 x y a b cp cq w hE hx hp h1 h2 cx
    · have h2' : 4200 < y.path.length := by omega
      have HE := Lib.hid hE
      clear hE hx hy hp hq h2
      go_enter Tryd.func6, Tryd.ntmps6
      go_wp2_with fail
      refine (awake_any _ (HE.out.below (by go_grown))).mono ?_
      rintro e w1 ⟨rfl, hb1⟩
      have B1 : Hid (Below w.heap.size w w1) := over hb1 (by go_grown) (by go_size)
      clear hb1
      go_wp2_with fail
      go_ret
      exact ⟨rfl, B1.out⟩
  · have h1' : 4200 < x.path.length := by omega
    have HE := Lib.hid hE
    clear hE hx hy hp hq h1
    go_enter Tryd.func6, Tryd.ntmps6
    go_wp2_with fail
    refine (awake_any _ (HE.out.below (by go_grown))).mono ?_
    rintro e w1 ⟨rfl, hb1⟩
    have B1 : Hid (Below w.heap.size w w1) := over hb1 (by go_grown) (by go_size)
    clear hb1
    go_wp2_with fail
    go_ret
    exact ⟨rfl, B1.out⟩
end Go.Proofs.YtffmeglcakcpdaaDoor
