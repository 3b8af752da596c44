/- one and awake of the law's package. -/
import Derived.Test.YtffmeglcakcpdaaDoorWalkQ
import Derived.Deep.RegionHeld3
set_option linter.unusedVariables false
namespace Go.Proofs.YtffmeglcakcpdaaDoor
open Go.RowKit

abbrev sMain : ByteArray := ⟨#[77, 97, 105, 110]⟩
abbrev smain : ByteArray := ⟨#[109, 97, 105, 110]⟩
abbrev sx : ByteArray := ⟨#[120]⟩
abbrev onePl : Pl := ⟨sMain, smain, 0⟩
abbrev oneFd : Fd := ⟨1, onePl, sx, [onePl]⟩
abbrev brFd : Fd := ⟨4, onePl, sx, [onePl]⟩
abbrev oneV (k : Int) (g : Nat) : Value := .agg #[.int .i64 k, .string sMain, .string smain, .int .i64 0, .string sx, .slice (some ⟨g, 0, none⟩) 1 1]
/-- what one leaves -/
def OneAt (w : World) (e : Ending) (w' : World) : Prop := ∃ g, e = .returned (oneV 1 g) ∧ PathAt w' (some ⟨g, 0, none⟩) [onePl] ∧ w.heap.size ≤ g ∧ g < w'.heap.size ∧ Below w.heap.size w w'

set_option maxHeartbeats 2000000 in
theorem one_any (w : World) : Calls Tryd.prog 18 #[] w (OneAt w) := by
  go_enter Tryd.func18, Tryd.ntmps18
  go_wp2_with fail
  refine bodyPost_ret (v := oneV 1 (w.heap.size + 2)) (by simp [results, Tryd.results18, go_sem]) rfl ⟨w.heap.size + 2, rfl, ?_, by omega, by simp, by go_grown⟩
  refine Or.inr ⟨w.heap.size + 2, 0, rfl, by simp, fun i hi => ?_⟩
  obtain rfl : i = 0 := by simp at hi; omega
  refine ⟨?_, ?_, ?_⟩ <;> go_simp
theorem oneOk : oneFd.Ok := ⟨by decide, by decide, by decide, by decide, by decide, by decide, by decide, by decide⟩
theorem brOk : brFd.Ok := ⟨by decide, by decide, by decide, by decide, by decide, by decide, by decide, by decide⟩
theorem check_one (g : Nat) (w : World) (hE : Env w) (hp : PathAt w (some ⟨g, 0, none⟩) [onePl]) :
    Calls Tryd.prog 12 #[oneV 1 g] w fun e w' => e = .returned (.int .i64 0) ∧ Below w.heap.size w w' := by
  have h := check_any oneFd (some ⟨g, 0, none⟩) 1 w hE (by decide) hp
  rw [show checkFd oneFd = 0 by decide +kernel] at h
  exact h
theorem check_br (g : Nat) (w : World) (hE : Env w) (hp : PathAt w (some ⟨g, 0, none⟩) [onePl]) :
    Calls Tryd.prog 12 #[oneV 4 g] w fun e w' => e = .returned (.int .i64 5) ∧ Below w.heap.size w w' := by
  have h := check_any brFd (some ⟨g, 0, none⟩) 1 w hE (by decide) hp
  rw [show checkFd brFd = 5 by decide +kernel] at h
  exact h
abbrev oneKey : ByteArray := ⟨#[49, 32, 77, 97, 105, 110, 46, 109, 97, 105, 110, 35, 48, 32, 120]⟩
theorem key_one (g : Nat) (w : World) (hE : Env w) :
    Calls Tryd.prog 10 #[oneV 1 g] w fun e w' => e = .returned (.string oneKey) ∧ Below w.heap.size w w' := by
  have h := key_any oneFd (some ⟨g, 0, none⟩) 1 w hE oneOk
  rw [show keyFd oneFd = oneKey by decide +kernel] at h
  exact h
theorem compare_one (g g' : Nat) (w : World) (hp : PathAt w (some ⟨g, 0, none⟩) [onePl]) (hp' : PathAt w (some ⟨g', 0, none⟩) [onePl]) :
    Calls Tryd.prog 8 #[oneV 1 g, oneV 4 g'] w fun e w' => e = .returned (.int .i64 (-1)) ∧ Below w.heap.size w w' := by
  have h := compare_any oneFd brFd (some ⟨g, 0, none⟩) (some ⟨g', 0, none⟩) 1 1 w (by decide) hp hp'
  rw [show cmpFd oneFd brFd = -1 by decide +kernel] at h
  exact h
theorem sort_one (g g' b : Nat) (w : World) (hp : PathAt w (some ⟨g, 0, none⟩) [onePl]) (hp' : PathAt w (some ⟨g', 0, none⟩) [onePl]) (hg : g < w.heap.size) (hg' : g' < w.heap.size) (hb : b < w.heap.size)
    (h : ElsAt w b 0 [⟨oneFd, some ⟨g, 0, none⟩, 1⟩, ⟨oneFd, some ⟨g', 0, none⟩, 1⟩]) :
    Calls Tryd.prog 16 #[.slice (some ⟨b, 0, none⟩) 2 2] w fun e w' => ∃ a cap, e = .returned (.slice a 1 cap) ∧ Below w.heap.size w w' := by
  refine (sort_some ⟨b, 0, none⟩ 2 [⟨oneFd, some ⟨g, 0, none⟩, 1⟩, ⟨oneFd, some ⟨g', 0, none⟩, 1⟩] w (by simp) (fun x hx => ?_) (Or.inr ⟨b, 0, rfl, hb, h⟩) (fun x hx => ?_)).mono ?_
  · simp at hx; rcases hx with rfl | rfl <;> simp
  · simp at hx
    rcases hx with rfl | rfl
    · exact ⟨oneOk, hp⟩
    · exact ⟨oneOk, hp'⟩
  · rintro e w' ⟨g2, cap, t, zs, rfl, _, hperm, _, hz, _, _, _, hb2⟩
    refine ⟨some ⟨g2, 0, none⟩, cap, ?_, hb2⟩
    have hl : zs.length = (compact t).length := by have := congrArg List.length hz; simpa using this
    have ht : (compact t).length = 1 := by
      have h2 := hperm.length_eq
      match t, h2, hperm with
      | [x, y], _, hperm =>
        have hx : x.f = oneFd := by
          have := hperm.subset (show x ∈ [x, y] by simp)
          simp at this; rcases this with rfl | rfl <;> rfl
        have hy : y.f = oneFd := by
          have := hperm.subset (show y ∈ [x, y] by simp)
          simp at this; rcases this with rfl | rfl <;> rfl
        have hc : (cmpEl y x == 0) = true := by unfold cmpEl; rw [hx, hy]; decide +kernel
        simp [compact, compactFrom, hc]
    rw [hl, ht]

abbrev oneC (g : Nat) : List Value := [.int .i64 1, .string sMain, .string smain, .int .i64 0, .string sx, .slice (some ⟨g, 0, none⟩) 1 1]
theorem sort_two (g g' : Nat) (wa wb : World) (hb : Below wa.heap.size wa wb) (hp : PathAt wa (some ⟨g, 0, none⟩) [onePl]) (hg : g < wa.heap.size) (hp' : PathAt wb (some ⟨g', 0, none⟩) [onePl]) (hg' : g' < wb.heap.size) :
    Calls Tryd.prog 16 #[.slice (some ⟨wb.heap.size, 0, none⟩) 2 2] (wb.alloc (.cells #[.int .i64 1, .string sMain, .string smain, .int .i64 0, .string sx, .slice (some ⟨g, 0, none⟩) 1 1, .int .i64 1, .string sMain, .string smain, .int .i64 0, .string sx, .slice (some ⟨g', 0, none⟩) 1 1] 26))
      fun e w' => ∃ a cap, e = .returned (.slice a 1 cap) ∧ Below (wb.alloc (.cells #[.int .i64 1, .string sMain, .string smain, .int .i64 0, .string sx, .slice (some ⟨g, 0, none⟩) 1 1, .int .i64 1, .string sMain, .string smain, .int .i64 0, .string sx, .slice (some ⟨g', 0, none⟩) 1 1] 26)).heap.size (wb.alloc (.cells #[.int .i64 1, .string sMain, .string smain, .int .i64 0, .string sx, .slice (some ⟨g, 0, none⟩) 1 1, .int .i64 1, .string sMain, .string smain, .int .i64 0, .string sx, .slice (some ⟨g', 0, none⟩) 1 1] 26)) w' := by
  have ba : Below wb.heap.size wb (wb.alloc (.cells #[.int .i64 1, .string sMain, .string smain, .int .i64 0, .string sx, .slice (some ⟨g, 0, none⟩) 1 1, .int .i64 1, .string sMain, .string smain, .int .i64 0, .string sx, .slice (some ⟨g', 0, none⟩) 1 1] 26)) := by go_grown
  have hs := hb.size
  refine sort_one g g' wb.heap.size _ ((hp.below hb).below ba) (hp'.below ba) (by simp; omega) (by simp; omega) (by simp) (fun i hi => ?_)
  have hc : ∀ j, (wb.alloc (.cells #[.int .i64 1, .string sMain, .string smain, .int .i64 0, .string sx, .slice (some ⟨g, 0, none⟩) 1 1, .int .i64 1, .string sMain, .string smain, .int .i64 0, .string sx, .slice (some ⟨g', 0, none⟩) 1 1] 26)).cell? ⟨wb.heap.size, j, none⟩ = #[Value.int .i64 1, .string sMain, .string smain, .int .i64 0, .string sx, .slice (some ⟨g, 0, none⟩) 1 1, .int .i64 1, .string sMain, .string smain, .int .i64 0, .string sx, .slice (some ⟨g', 0, none⟩) 1 1][j]? := fun j => World.cell?_alloc_mark wb _ _ _ j
  have hi2 : i = 0 ∨ i = 1 := by simp at hi; omega
  rcases hi2 with rfl | rfl
  · exact ⟨hc 0, hc 1, hc 2, hc 3, hc 4, hc 5⟩
  · exact ⟨hc 6, hc 7, hc 8, hc 9, hc 10, hc 11⟩
theorem keepB {W w' w'' : World} (h : Hid (Below W.heap.size W w')) (hb : Below w'.heap.size w' w'') : Hid (Below W.heap.size W w'') := over hb h.out h.out.size
theorem keepC {w' w'' : World} {b o : Nat} {v : Value} (h : w'.cell? ⟨b, o, none⟩ = some v) (hb : Below w'.heap.size w' w'') : w''.cell? ⟨b, o, none⟩ = some v := by
  rw [hb.cell (p := ⟨b, o, none⟩) (block_lt_of_cell h)]; exact h

set_option maxRecDepth 100000 in
set_option maxHeartbeats 8000000 in
theorem awake_any (w : World) (hE : Env w) : Calls Tryd.prog 7 #[] w fun e w' => e = .returned (.bool true) ∧ Below w.heap.size w w' := by
  have HE := Lib.hid hE
  clear hE
  go_enter Tryd.func7, Tryd.ntmps7
  go_wp2_with fail
  refine (one_any w).mono ?_
  rintro e w1 ⟨gf, rfl, hp1, hg1, hg1', hb1⟩
  have HP1 := Lib.hid hp1
  have B1 := Lib.hid hb1
  clear hp1 hb1
  go_wp2_with fail
  have c0 : (w1.alloc (.cells #[.int .i64 4, .string sMain, .string smain, .int .i64 0, .string sx, .slice (some ⟨gf, 0, none⟩) 1 1] 26)).cell? ⟨w1.heap.size, 0, none⟩ = some (.int .i64 4) := by go_simp
  have c1 : (w1.alloc (.cells #[.int .i64 4, .string sMain, .string smain, .int .i64 0, .string sx, .slice (some ⟨gf, 0, none⟩) 1 1] 26)).cell? ⟨w1.heap.size, 1, none⟩ = some (.string sMain) := by go_simp
  have c2 : (w1.alloc (.cells #[.int .i64 4, .string sMain, .string smain, .int .i64 0, .string sx, .slice (some ⟨gf, 0, none⟩) 1 1] 26)).cell? ⟨w1.heap.size, 2, none⟩ = some (.string smain) := by go_simp
  have c3 : (w1.alloc (.cells #[.int .i64 4, .string sMain, .string smain, .int .i64 0, .string sx, .slice (some ⟨gf, 0, none⟩) 1 1] 26)).cell? ⟨w1.heap.size, 3, none⟩ = some (.int .i64 0) := by go_simp
  have c4 : (w1.alloc (.cells #[.int .i64 4, .string sMain, .string smain, .int .i64 0, .string sx, .slice (some ⟨gf, 0, none⟩) 1 1] 26)).cell? ⟨w1.heap.size, 4, none⟩ = some (.string sx) := by go_simp
  have c5 : (w1.alloc (.cells #[.int .i64 4, .string sMain, .string smain, .int .i64 0, .string sx, .slice (some ⟨gf, 0, none⟩) 1 1] 26)).cell? ⟨w1.heap.size, 5, none⟩ = some (.slice (some ⟨gf, 0, none⟩) 1 1) := by go_simp
  have hb2 : Below w1.heap.size w1 (w1.alloc (.cells #[.int .i64 4, .string sMain, .string smain, .int .i64 0, .string sx, .slice (some ⟨gf, 0, none⟩) 1 1] 26)) := by go_grown
  have HPW := Lib.hid (HP1.out.below hb2)
  have HEW := Lib.hid ((HE.out.below B1.out).below hb2)
  have HBW := Lib.hid (over hb2 B1.out B1.out.size)
  clear hb2 HP1 HE B1 hg1 hg1'
  generalize hW : w1.alloc (.cells #[.int .i64 4, .string sMain, .string smain, .int .i64 0, .string sx, .slice (some ⟨gf, 0, none⟩) 1 1] 26) = W at *
  clear hW
  generalize w1.heap.size = bf at *
  have HB0 : Hid (Below W.heap.size W W) := Below.refl _ _
  go_region_held3 (fun w' => w'.cell? ⟨bf, 0, none⟩ = some (.int .i64 4) ∧ w'.cell? ⟨bf, 1, none⟩ = some (.string sMain) ∧ w'.cell? ⟨bf, 2, none⟩ = some (.string smain) ∧ w'.cell? ⟨bf, 3, none⟩ = some (.int .i64 0) ∧ w'.cell? ⟨bf, 4, none⟩ = some (.string sx) ∧ w'.cell? ⟨bf, 5, none⟩ = some (.slice (some ⟨gf, 0, none⟩) 1 1) ∧ Hid (Below W.heap.size W w'))
    (first
      | exact ⟨c0, c1, c2, c3, c4, c5, (Below.refl _ _).drew⟩
      | (go_split_ands; exact ⟨keepC (by assumption) hbk, keepC (by assumption) hbk, keepC (by assumption) hbk, keepC (by assumption) hbk, keepC (by assumption) hbk, keepC (by assumption) hbk, keepB (by assumption) hbk⟩)
      | (go_split_ands; exact ⟨keepC (by assumption) ((Below.refl _ _).alloc (Nat.le_refl _) _), keepC (by assumption) ((Below.refl _ _).alloc (Nat.le_refl _) _), keepC (by assumption) ((Below.refl _ _).alloc (Nat.le_refl _) _), keepC (by assumption) ((Below.refl _ _).alloc (Nat.le_refl _) _), keepC (by assumption) ((Below.refl _ _).alloc (Nat.le_refl _) _), keepC (by assumption) ((Below.refl _ _).alloc (Nat.le_refl _) _), keepB (by assumption) ((Below.refl _ _).alloc (Nat.le_refl _) _)⟩))
    (first
      | (go_at_call 18; refine (one_any _).mono ?_; rintro e wk ⟨gk, rfl, hpk, hgk, hgk', hbk⟩)
      | (go_at_call 10; go_split_ands; refine (key_one _ _ (HEW.out.below (Hid.out (by assumption)))).mono ?_; rintro e wk ⟨rfl, hbk⟩)
      | (go_at_call 12; go_split_ands; (first | with_reducible refine (check_one _ _ (HEW.out.below (Hid.out (by assumption))) (by assumption)).mono ?_ | with_reducible refine (check_br _ _ (HEW.out.below (Hid.out (by assumption))) (HPW.out.below (Hid.out (by assumption)))).mono ?_); rintro e wk ⟨rfl, hbk⟩)
      | (go_at_call 8; go_split_ands; refine (compare_one _ _ _ (by assumption) (HPW.out.below (Hid.out (by assumption)))).mono ?_; rintro e wk ⟨rfl, hbk⟩)
      | (go_at_call 16; go_split_ands; refine (sort_two _ _ _ _ (by assumption) (by assumption) (by assumption) (by assumption) (by assumption)).mono ?_; rintro e wk ⟨aa, cc, rfl, hbk⟩))
  have HFIN : Hid (Below w.heap.size w wk) := over (Hid.out (keepB (by assumption) hbk)) HBW.out HBW.out.size
  go_wp2_with fail
  go_ret
  exact ⟨rfl, HFIN.out⟩
end Go.Proofs.YtffmeglcakcpdaaDoor
