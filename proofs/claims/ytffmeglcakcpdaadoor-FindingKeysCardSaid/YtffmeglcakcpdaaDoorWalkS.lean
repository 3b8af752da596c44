/- The walks of the laws FindingTells and FindingKeys. -/
import Derived.Test.YtffmeglcakcpdaaDoorWalkR
set_option linter.unusedVariables false
namespace Go.Proofs.YtffmeglcakcpdaaDoor
open Go.RowKit

set_option maxRecDepth 100000 in
set_option maxHeartbeats 8000000 in
theorem tells_small (x y : Fd) (a b : Option Addr) (cp cq : Nat) (w : World) (hE : Env w) (hx : x.Ok) (hy : y.Ok) (hp : PathAt w a x.path) (hq : PathAt w b y.path) (h1 : x.path.length ≤ 4200) (h2 : y.path.length ≤ 4200) :
    Calls Tryd.prog 3 #[x.val a cp, y.val b cq] w fun e w' => e = .returned (.bool true) ∧ Below w.heap.size w w' := by
  unfold Fd.val
  have HE := Lib.hid hE
  have HX := Lib.hid hx
  have HY := Lib.hid hy
  have HP := Lib.hid hp
  have HQ := Lib.hid hq
  clear hE hx hy hp hq
  go_enter Tryd.func3, Tryd.ntmps3
  go_wp2_with fail
  have k0 : ((w.alloc (.cells #[.int .i64 x.kind, .string x.pl.cls, .string x.pl.meth, .int .i64 x.pl.ins, .string x.what, .slice a x.path.length cp] 26)).alloc (.cells #[.int .i64 y.kind, .string y.pl.cls, .string y.pl.meth, .int .i64 y.pl.ins, .string y.what, .slice b y.path.length cq] 26)).cell? ⟨w.heap.size, 0, none⟩ = some (.int .i64 x.kind) := by go_simp
  have k1 : ((w.alloc (.cells #[.int .i64 x.kind, .string x.pl.cls, .string x.pl.meth, .int .i64 x.pl.ins, .string x.what, .slice a x.path.length cp] 26)).alloc (.cells #[.int .i64 y.kind, .string y.pl.cls, .string y.pl.meth, .int .i64 y.pl.ins, .string y.what, .slice b y.path.length cq] 26)).cell? ⟨w.heap.size, 1, none⟩ = some (.string x.pl.cls) := by go_simp
  have k2 : ((w.alloc (.cells #[.int .i64 x.kind, .string x.pl.cls, .string x.pl.meth, .int .i64 x.pl.ins, .string x.what, .slice a x.path.length cp] 26)).alloc (.cells #[.int .i64 y.kind, .string y.pl.cls, .string y.pl.meth, .int .i64 y.pl.ins, .string y.what, .slice b y.path.length cq] 26)).cell? ⟨w.heap.size, 2, none⟩ = some (.string x.pl.meth) := by go_simp
  have k3 : ((w.alloc (.cells #[.int .i64 x.kind, .string x.pl.cls, .string x.pl.meth, .int .i64 x.pl.ins, .string x.what, .slice a x.path.length cp] 26)).alloc (.cells #[.int .i64 y.kind, .string y.pl.cls, .string y.pl.meth, .int .i64 y.pl.ins, .string y.what, .slice b y.path.length cq] 26)).cell? ⟨w.heap.size, 3, none⟩ = some (.int .i64 x.pl.ins) := by go_simp
  have k4 : ((w.alloc (.cells #[.int .i64 x.kind, .string x.pl.cls, .string x.pl.meth, .int .i64 x.pl.ins, .string x.what, .slice a x.path.length cp] 26)).alloc (.cells #[.int .i64 y.kind, .string y.pl.cls, .string y.pl.meth, .int .i64 y.pl.ins, .string y.what, .slice b y.path.length cq] 26)).cell? ⟨w.heap.size, 4, none⟩ = some (.string x.what) := by go_simp
  have k5 : ((w.alloc (.cells #[.int .i64 x.kind, .string x.pl.cls, .string x.pl.meth, .int .i64 x.pl.ins, .string x.what, .slice a x.path.length cp] 26)).alloc (.cells #[.int .i64 y.kind, .string y.pl.cls, .string y.pl.meth, .int .i64 y.pl.ins, .string y.what, .slice b y.path.length cq] 26)).cell? ⟨w.heap.size, 5, none⟩ = some (.slice a x.path.length cp) := by go_simp
  have l0 : ((w.alloc (.cells #[.int .i64 x.kind, .string x.pl.cls, .string x.pl.meth, .int .i64 x.pl.ins, .string x.what, .slice a x.path.length cp] 26)).alloc (.cells #[.int .i64 y.kind, .string y.pl.cls, .string y.pl.meth, .int .i64 y.pl.ins, .string y.what, .slice b y.path.length cq] 26)).cell? ⟨w.heap.size + 1, 0, none⟩ = some (.int .i64 y.kind) := by go_simp
  have l1 : ((w.alloc (.cells #[.int .i64 x.kind, .string x.pl.cls, .string x.pl.meth, .int .i64 x.pl.ins, .string x.what, .slice a x.path.length cp] 26)).alloc (.cells #[.int .i64 y.kind, .string y.pl.cls, .string y.pl.meth, .int .i64 y.pl.ins, .string y.what, .slice b y.path.length cq] 26)).cell? ⟨w.heap.size + 1, 1, none⟩ = some (.string y.pl.cls) := by go_simp
  have l2 : ((w.alloc (.cells #[.int .i64 x.kind, .string x.pl.cls, .string x.pl.meth, .int .i64 x.pl.ins, .string x.what, .slice a x.path.length cp] 26)).alloc (.cells #[.int .i64 y.kind, .string y.pl.cls, .string y.pl.meth, .int .i64 y.pl.ins, .string y.what, .slice b y.path.length cq] 26)).cell? ⟨w.heap.size + 1, 2, none⟩ = some (.string y.pl.meth) := by go_simp
  have l3 : ((w.alloc (.cells #[.int .i64 x.kind, .string x.pl.cls, .string x.pl.meth, .int .i64 x.pl.ins, .string x.what, .slice a x.path.length cp] 26)).alloc (.cells #[.int .i64 y.kind, .string y.pl.cls, .string y.pl.meth, .int .i64 y.pl.ins, .string y.what, .slice b y.path.length cq] 26)).cell? ⟨w.heap.size + 1, 3, none⟩ = some (.int .i64 y.pl.ins) := by go_simp
  have l4 : ((w.alloc (.cells #[.int .i64 x.kind, .string x.pl.cls, .string x.pl.meth, .int .i64 x.pl.ins, .string x.what, .slice a x.path.length cp] 26)).alloc (.cells #[.int .i64 y.kind, .string y.pl.cls, .string y.pl.meth, .int .i64 y.pl.ins, .string y.what, .slice b y.path.length cq] 26)).cell? ⟨w.heap.size + 1, 4, none⟩ = some (.string y.what) := by go_simp
  have l5 : ((w.alloc (.cells #[.int .i64 x.kind, .string x.pl.cls, .string x.pl.meth, .int .i64 x.pl.ins, .string x.what, .slice a x.path.length cp] 26)).alloc (.cells #[.int .i64 y.kind, .string y.pl.cls, .string y.pl.meth, .int .i64 y.pl.ins, .string y.what, .slice b y.path.length cq] 26)).cell? ⟨w.heap.size + 1, 5, none⟩ = some (.slice b y.path.length cq) := by go_simp
  have hb : Below w.heap.size w ((w.alloc (.cells #[.int .i64 x.kind, .string x.pl.cls, .string x.pl.meth, .int .i64 x.pl.ins, .string x.what, .slice a x.path.length cp] 26)).alloc (.cells #[.int .i64 y.kind, .string y.pl.cls, .string y.pl.meth, .int .i64 y.pl.ins, .string y.what, .slice b y.path.length cq] 26)) := by go_grown
  have HB := Lib.hid hb
  have HEW := Lib.hid (HE.out.below hb)
  have HPW := Lib.hid (HP.out.below hb)
  have HQW := Lib.hid (HQ.out.below hb)
  clear hb HE HP HQ
  generalize ((w.alloc (.cells #[.int .i64 x.kind, .string x.pl.cls, .string x.pl.meth, .int .i64 x.pl.ins, .string x.what, .slice a x.path.length cp] 26)).alloc (.cells #[.int .i64 y.kind, .string y.pl.cls, .string y.pl.meth, .int .i64 y.pl.ins, .string y.what, .slice b y.path.length cq] 26)) = W at *
  generalize hs0 : w.heap.size = n0 at *
  have HS0 := Lib.hid hs0
  clear hs0
  have r0 := cell_regrown k0
  have v0 := cell_regrown l0
  have r1 := cell_regrown k1
  have v1 := cell_regrown l1
  have r2 := cell_regrown k2
  have v2 := cell_regrown l2
  have r3 := cell_regrown k3
  have v3 := cell_regrown l3
  have r4 := cell_regrown k4
  have v4 := cell_regrown l4
  have r5 := cell_regrown k5
  have v5 := cell_regrown l5
  clear k0 k1 k2 k3 k4 k5 l0 l1 l2 l3 l4 l5
  have C1 := Lib.hid (fun W' (hb : Below W.heap.size W W') => compare_any x y a b cp cq W' HX.out.n1 (HPW.out.below hb) (HQW.out.below hb))
  have C2 := Lib.hid (fun W' (hb : Below W.heap.size W W') => compareR_any x y a b cp cq W' HX.out.n1 HY.out.n1 (HPW.out.below hb) (HQW.out.below hb))
  have C3 := Lib.hid (fun W' (hb : Below W.heap.size W W') => key_any x a cp W' (HEW.out.below hb) HX.out)
  have C4 := Lib.hid (fun W' (hb : Below W.heap.size W W') => keyR_any x a cp W' HX.out)
  have C5 := Lib.hid (fun W' (hb : Below W.heap.size W W') => check_any x a cp W' (HEW.out.below hb) HX.out.n1 (HPW.out.below hb))
  have C6 := Lib.hid (fun W' (hb : Below W.heap.size W W') => checkR_any x a cp W' (by have := HX.out.s3; omega) HX.out.n1 (HPW.out.below hb))
  have C7 := Lib.hid (fun W' (hb : Below W.heap.size W W') => awake_any W' (HEW.out.below hb))
  generalize cmpFd x y = vc at *
  generalize keyFd x = vk at *
  generalize checkFd x = ve at *
  refine wp_region_below (by kernel_rfl) (by kernel_rfl) ?_
  repeat (quiet_step (first
    | (go_at_call 8; exact Calls.regrown_of (C1.out _ (below_regrown _ _ _)))
    | (go_at_call 9; exact Calls.regrown_of (C2.out _ (below_regrown _ _ _)))
    | (go_at_call 10; exact Calls.regrown_of (C3.out _ (below_regrown _ _ _)))
    | (go_at_call 11; exact Calls.regrown_of (C4.out _ (below_regrown _ _ _)))
    | (go_at_call 12; exact Calls.regrown_of (C5.out _ (below_regrown _ _ _)))
    | (go_at_call 13; exact Calls.regrown_of (C6.out _ (below_regrown _ _ _)))
    | (go_at_call 7; exact Calls.regrown_of (C7.out _ (below_regrown _ _ _)))))
  refine wpQuiet_nil ?_
  clear r0 r1 r2 r3 r4 r5 v0 v1 v2 v3 v4 v5
  intro wq hq
  go_wp2_with fail
  go_ret
  refine ⟨ret_bool (by simp), ?_⟩
  have h := over hq.out HB.out (by rw [← HS0.out]; exact HB.out.size)
  rw [HS0.out]; exact h

set_option maxHeartbeats 8000000 in
theorem tells_any (x y : Fd) (a b : Option Addr) (cp cq : Nat) (w : World) (hE : Env w) (hx : x.Ok) (hy : y.Ok) (hp : PathAt w a x.path) (hq : PathAt w b y.path) :
    Calls Tryd.prog 3 #[x.val a cp, y.val b cq] w fun e w' => e = .returned (.bool true) ∧ Below w.heap.size w w' := by
  by_cases h1 : x.path.length ≤ 4200
  · by_cases h2 : y.path.length ≤ 4200
    · exact tells_small x y a b cp cq w hE hx hy hp hq h1 h2
    · have h2' : 4200 < y.path.length := by omega
      have HE := Lib.hid hE
      clear hE hx hy hp hq h2
      go_enter Tryd.func3, Tryd.ntmps3
      go_wp2_with fail
      refine (awake_any _ (HE.out.below (by go_grown))).mono ?_
      rintro e w1 ⟨rfl, hb1⟩
      have B1 : Hid (Below w.heap.size w w1) := over hb1 (by go_grown) (by go_size)
      clear hb1
      go_wp2_with fail
      go_ret
      exact ⟨rfl, B1.out⟩
  · have h1' : 4200 < x.path.length := by omega
    have HE := Lib.hid hE
    clear hE hx hy hp hq h1
    go_enter Tryd.func3, Tryd.ntmps3
    go_wp2_with fail
    refine (awake_any _ (HE.out.below (by go_grown))).mono ?_
    rintro e w1 ⟨rfl, hb1⟩
    have B1 : Hid (Below w.heap.size w w1) := over hb1 (by go_grown) (by go_size)
    clear hb1
    go_wp2_with fail
    go_ret
    exact ⟨rfl, B1.out⟩
end Go.Proofs.YtffmeglcakcpdaaDoor
