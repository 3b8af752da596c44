/- Contracts of Check of the program and of the reference. -/
import Derived.Test.YtffmeglcakcpdaaDoorWalkH
set_option linter.unusedVariables false
namespace Go.Proofs.YtffmeglcakcpdaaDoor
open Go.RowKit

def firstErr : List Pl → Int
  | [] => 0
  | p :: ps => if errPl p = 0 then firstErr ps else errPl p
theorem firstErr_yes {ps : List Pl} {k : Nat} (h : k < ps.length) (he : errPl ps[k] = 0) : firstErr (ps.drop k) = firstErr (ps.drop (k + 1)) := by
  rw [List.drop_eq_getElem_cons h, firstErr, if_pos he]
theorem firstErr_no {ps : List Pl} {k : Nat} (h : k < ps.length) (he : errPl ps[k] ≠ 0) : firstErr (ps.drop k) = errPl ps[k] := by
  rw [List.drop_eq_getElem_cons h, firstErr, if_neg he]
theorem firstErr_end {ps : List Pl} {k : Nat} (h : ¬ k < ps.length) : firstErr (ps.drop k) = 0 := by
  rw [List.drop_eq_nil_of_le (by omega)]; rfl
def plEq (p q : Pl) : Bool := p.cls.toList == q.cls.toList && (p.meth.toList == q.meth.toList && p.ins == q.ins)
theorem neqPl (p q : Pl) (w : World) : (binOp .neq 23 (.agg #[.string p.cls, .string p.meth, .int .i64 p.ins]) (.agg #[.string q.cls, .string q.meth, .int .i64 q.ins])).run Tryd.prog w = .ok (.bool (!plEq p q)) w := by
  unfold plEq
  rw [run_neq_struct]
  cases h1 : (p.cls.toList == q.cls.toList) <;> cases h2 : (p.meth.toList == q.meth.toList) <;> cases h3 : (p.ins == q.ins)
  all_goals simp [go_sem, h1, h2, h3]
def lastIs (ps : List Pl) (q : Pl) : Bool := match ps.getLast? with | some p => plEq p q | none => false
def checkFd (x : Fd) : Int :=
  if 1 ≤ x.kind ∧ x.kind ≤ 4 then
    if errPl x.pl = 0 then
      if firstErr x.path = 0 then
        if isNamed x.kind x.what then
          if x.path.length ≤ 4097 then
            if lastIs x.path x.pl then 0 else 16
          else 3
        else 5
      else firstErr x.path
    else errPl x.pl
  else 12
theorem check_1 {x : Fd} (h : ¬ (1 ≤ x.kind ∧ x.kind ≤ 4)) : 12 = checkFd x := by unfold checkFd; rw [if_neg h]
theorem check_2 {x : Fd} {c : Int} (h : 1 ≤ x.kind ∧ x.kind ≤ 4) (hc : c = errPl x.pl) (h1 : c ≠ 0) : c = checkFd x := by subst hc; unfold checkFd; rw [if_pos h, if_neg h1]
theorem check_3 {x : Fd} {c : Int} (h : 1 ≤ x.kind ∧ x.kind ≤ 4) (h1 : errPl x.pl = 0) (hc : firstErr x.path = c) (h2 : c ≠ 0) : c = checkFd x := by subst hc; unfold checkFd; rw [if_pos h, if_pos h1, if_neg h2]
theorem check_4 {x : Fd} (h : 1 ≤ x.kind ∧ x.kind ≤ 4) (h1 : errPl x.pl = 0) (h2 : firstErr x.path = 0) (h3 : isNamed x.kind x.what = false) : 5 = checkFd x := by unfold checkFd; rw [if_pos h, if_pos h1, if_pos h2, h3]; rfl
theorem check_5 {x : Fd} (h : 1 ≤ x.kind ∧ x.kind ≤ 4) (h1 : errPl x.pl = 0) (h2 : firstErr x.path = 0) (h3 : isNamed x.kind x.what = true) (h4 : ¬ x.path.length ≤ 4097) : 3 = checkFd x := by unfold checkFd; rw [if_pos h, if_pos h1, if_pos h2, h3, if_pos rfl, if_neg h4]
theorem check_6 {x : Fd} (h : 1 ≤ x.kind ∧ x.kind ≤ 4) (h1 : errPl x.pl = 0) (h2 : firstErr x.path = 0) (h3 : isNamed x.kind x.what = true) (h4 : x.path.length ≤ 4097) (h5 : lastIs x.path x.pl = false) : 16 = checkFd x := by unfold checkFd; rw [if_pos h, if_pos h1, if_pos h2, h3, if_pos rfl, if_pos h4, h5]; rfl
theorem check_7 {x : Fd} (h : 1 ≤ x.kind ∧ x.kind ≤ 4) (h1 : errPl x.pl = 0) (h2 : firstErr x.path = 0) (h3 : isNamed x.kind x.what = true) (h4 : x.path.length ≤ 4097) (h5 : lastIs x.path x.pl = true) : 0 = checkFd x := by unfold checkFd; rw [if_pos h, if_pos h1, if_pos h2, h3, if_pos rfl, if_pos h4, h5]; rfl
theorem lastIs_nil {ps : List Pl} {q : Pl} (h : ps.length = 0) : lastIs ps q = false := by
  rw [List.length_eq_zero_iff] at h; subst h; rfl
theorem lastIs_at {ps : List Pl} {q : Pl} (h : ps.length - 1 < ps.length) : lastIs ps q = plEq ps[ps.length - 1] q := by
  unfold lastIs; rw [List.getLast?_eq_getElem?, List.getElem?_eq_getElem h]

set_option maxHeartbeats 2000000 in
theorem check_any (x : Fd) (a : Option Addr) (cp : Nat) (w : World) (hE : Env w) (hm : x.path.length ≤ 281474976710656) (hp : PathAt w a x.path) :
    Calls Tryd.prog 12 #[x.val a cp] w fun e w' => e = .returned (.int .i64 (checkFd x)) ∧ Below w.heap.size w w' := by
  unfold Fd.val
  have HE := Lib.hid hE
  have HP := Lib.hid hp
  generalize he0 : errPl x.pl = c1
  have E0 := Lib.hid he0.symm
  clear he0 hE hp
  by_cases hk : 1 ≤ x.kind ∧ x.kind ≤ 4
  · have HK := Lib.hid hk
    obtain ⟨hk1, hk2⟩ := hk
    go_enter Tryd.func12, Tryd.ntmps12
    go_wp2_with fail
    refine (checkPlace_any x.pl _ (HE.out.below (by go_grown))).mono ?_
    rintro e w1 ⟨rfl, hb1⟩
    rw [← E0.out]
    have hz1 : w.heap.size < w1.heap.size := by have := hb1.size; simp at this; omega
    have B1 : Hid (Below w.heap.size w w1) := over hb1 (by go_grown) (by go_size)
    obtain ⟨q1, q2⟩ := bcell hb1
    have k0 : w1.cell? ⟨w.heap.size, 0, none⟩ = some (.int .i64 x.kind) := by rw [q1 _ _ (by go_size)]; go_simp
    have k1 : w1.cell? ⟨w.heap.size, 1, none⟩ = some (.string x.pl.cls) := by rw [q1 _ _ (by go_size)]; go_simp
    have k2 : w1.cell? ⟨w.heap.size, 1 + 1, none⟩ = some (.string x.pl.meth) := by rw [q1 _ _ (by go_size)]; go_simp
    have k3 : w1.cell? ⟨w.heap.size, 1 + 2, none⟩ = some (.int .i64 x.pl.ins) := by rw [q1 _ _ (by go_size)]; go_simp
    have k4 : w1.cell? ⟨w.heap.size, 4, none⟩ = some (.string x.what) := by rw [q1 _ _ (by go_size)]; go_simp
    have k5 : w1.cell? ⟨w.heap.size, 5, none⟩ = some (.slice a x.path.length cp) := by rw [q1 _ _ (by go_size)]; go_simp
    clear q1 q2 hb1
    by_cases h : c1 = 0
    · have h1 : (c1 != 0) = false := by simp [h]
      have Z1 := Lib.hid (E0.out.symm.trans h)
      clear h
      go_wp2_with fail
      go_loopw [25] (fun i wr => ∃ k : Nat, k ≤ x.path.length ∧ i = .int .i64 k ∧ Hid (Below w1.heap.size w1 wr) ∧ Hid (firstErr x.path = firstErr (x.path.drop k))) (fun i _ => x.path.length - (intOf i).toNat)
      case atStart => exact ⟨0, Nat.zero_le _, rfl, Below.refl _ _, by simp [Hid]⟩
      case round =>
        obtain ⟨k, hk, rfl, HB, HF⟩ := hrel
        have hsz := HB.out.size
        have BW := Lib.hid (over HB.out B1.out (by omega))
        by_cases hlt : k < x.path.length
        · obtain ⟨ba, oa, ha, hbs, c0, c1', c2'⟩ := ((HP.out.below B1.out).below HB.out).get hlt
          subst ha
          go_wp2_with fail
          refine (checkPlace_any x.path[k] _ ((HE.out.below BW.out).below (by go_grown))).mono ?_
          rintro e w2 ⟨rfl, hb2⟩
          have BB : Hid (Below w1.heap.size w1 w2) := over hb2 (HB.out.trans ((Below.refl _ _).alloc (by go_size) _)) (by go_size)
          have BW2 : Hid (Below w.heap.size w w2) := B1.out.trans (BB.out.mono (by omega))
          clear hb2
          by_cases h : errPl x.path[k] = 0
          · have h1 : (errPl x.path[k] != 0) = false := by simp [h]
            have H := Lib.hid h
            clear h
            go_wp2_with fail
            go_roundw
            case rel => exact ⟨k + 1, by omega, by go_num, BB, HF.out.trans (firstErr_yes hlt H.out)⟩
            case measure => simp [intOf]; omega
          · have h1 : (errPl x.path[k] != 0) = true := by simp [h]
            have H := Lib.hid h
            clear h
            go_wp2_with fail
            go_ret
            exact ⟨ret_int (check_3 HK.out Z1.out (HF.out.trans (firstErr_no hlt H.out)) H.out), BW2.out⟩
        · have HZ := Lib.hid (HF.out.trans (firstErr_end hlt))
          have r0 := HB.out.cell (p := ⟨w.heap.size, 0, none⟩) (by go_size)
          have r1 := HB.out.cell (p := ⟨w.heap.size, 1, none⟩) (by go_size)
          have r2 := HB.out.cell (p := ⟨w.heap.size, 1 + 1, none⟩) (by go_size)
          have r3 := HB.out.cell (p := ⟨w.heap.size, 1 + 2, none⟩) (by go_size)
          have r4 := HB.out.cell (p := ⟨w.heap.size, 4, none⟩) (by go_size)
          have r5 := HB.out.cell (p := ⟨w.heap.size, 5, none⟩) (by go_size)
          rw [k0] at r0
          rw [k1] at r1
          rw [k2] at r2
          rw [k3] at r3
          rw [k4] at r4
          rw [k5] at r5
          clear k0 k1 k2 k3 k4 k5
          go_wp2_with fail
          refine (validWhat_any _ _ _ (HE.out.below BW.out)).mono ?_
          rintro e w' ⟨rfl, rfl⟩
          cases hn : isNamed x.kind x.what
          · go_wp2_with fail
            go_ret
            exact ⟨ret_int (check_4 HK.out Z1.out HZ.out hn), BW.out⟩
          · by_cases h4 : x.path.length ≤ 4097
            · by_cases h0 : x.path.length = 0
              · have HL := Lib.hid (@lastIs_nil x.path x.pl h0)
                have hb0 : ((x.path.length : Int) == 0) = true := by simp [h0]
                have H0 := Lib.hid h0
                clear h0
                go_wp2_with fail
                go_quiet (fail)
                go_wp2_with fail
                go_ret
                exact ⟨ret_int (check_6 HK.out Z1.out HZ.out hn h4 HL.out), below_drewN BW.out _⟩
              · have hb0 : ((x.path.length : Int) == 0) = false := by simp [h0]
                have hl1 : x.path.length - 1 < x.path.length := by omega
                have HL := Lib.hid (@lastIs_at x.path x.pl hl1)
                obtain ⟨ba, oa, ha, hbs, c0, c1', c2'⟩ := ((HP.out.below B1.out).below HB.out).get hl1
                subst ha
                have i1 : (0 : Int) ≤ (x.path.length : Int) - 1 := by omega
                have i2 : (x.path.length : Int) - 1 < (x.path.length : Int) := by omega
                have i3 : ((x.path.length : Int) - 1).toNat = x.path.length - 1 := by omega
                have i0 : IntKind.i64.wrap ((x.path.length : Int) - 1) = (x.path.length : Int) - 1 := IntWalk.i64_in _ (by omega)
                have i4 : (1 : Int) ≤ (x.path.length : Int) := by omega
                have i5 : 1 ≤ x.path.length := by omega
                generalize x.path[x.path.length - 1] = pz at *
                have hne := neqPl pz x.pl
                go_wp2_with fail
                go_quiet (fail)
                clear i0 i1 i2 i3 i4
                cases hq : plEq pz x.pl
                · go_wp2_with fail
                  go_ret
                  exact ⟨ret_int (check_6 HK.out Z1.out HZ.out hn h4 (HL.out.trans hq)), below_drewN BW.out _⟩
                · go_wp2_with fail
                  go_ret
                  exact ⟨ret_int (check_7 HK.out Z1.out HZ.out hn h4 (HL.out.trans hq)), below_drewN BW.out _⟩
            · go_wp2_with fail
              go_ret
              exact ⟨ret_int (check_5 HK.out Z1.out HZ.out hn h4), BW.out⟩
    · have h1 : (c1 != 0) = true := by simp [h]
      have Z1 := Lib.hid h
      clear h
      go_wp2_with fail
      go_ret
      exact ⟨ret_int (check_2 HK.out E0.out Z1.out), B1.out⟩
  · have HK := Lib.hid hk
    have hk2 : x.kind < 1 ∨ 4 < x.kind := by omega
    clear hk
    rcases hk2 with hk2 | hk2
    all_goals
      go_enter Tryd.func12, Tryd.ntmps12
      go_wp2_with fail
      go_ret
      exact ⟨ret_int (check_1 HK.out), by go_grown⟩
set_option maxHeartbeats 2000000 in
theorem checkR_any (x : Fd) (a : Option Addr) (cp : Nat) (w : World) (hs : x.what.size ≤ 9223372036854775807) (hm : x.path.length ≤ 281474976710656) (hp : PathAt w a x.path) :
    Calls Tryd.prog 13 #[x.val a cp] w fun e w' => e = .returned (.int .i64 (checkFd x)) ∧ Below w.heap.size w w' := by
  unfold Fd.val
  have HP := Lib.hid hp
  generalize he0 : errPl x.pl = c1
  have E0 := Lib.hid he0.symm
  clear he0 hp
  by_cases hk : 1 ≤ x.kind ∧ x.kind ≤ 4
  · have HK := Lib.hid hk
    obtain ⟨hk1, hk2⟩ := hk
    go_enter Tryd.func13, Tryd.ntmps13
    go_wp2_with fail
    refine (checkPlaceR_any x.pl _).mono ?_
    rintro e w1 ⟨rfl, hb1⟩
    rw [← E0.out]
    have hz1 : w.heap.size < w1.heap.size := by have := hb1.size; simp at this; omega
    have B1 : Hid (Below w.heap.size w w1) := over hb1 (by go_grown) (by go_size)
    obtain ⟨q1, q2⟩ := bcell hb1
    have k0 : w1.cell? ⟨w.heap.size, 0, none⟩ = some (.int .i64 x.kind) := by rw [q1 _ _ (by go_size)]; go_simp
    have k1 : w1.cell? ⟨w.heap.size, 1, none⟩ = some (.string x.pl.cls) := by rw [q1 _ _ (by go_size)]; go_simp
    have k2 : w1.cell? ⟨w.heap.size, 1 + 1, none⟩ = some (.string x.pl.meth) := by rw [q1 _ _ (by go_size)]; go_simp
    have k3 : w1.cell? ⟨w.heap.size, 1 + 2, none⟩ = some (.int .i64 x.pl.ins) := by rw [q1 _ _ (by go_size)]; go_simp
    have k4 : w1.cell? ⟨w.heap.size, 4, none⟩ = some (.string x.what) := by rw [q1 _ _ (by go_size)]; go_simp
    have k5 : w1.cell? ⟨w.heap.size, 5, none⟩ = some (.slice a x.path.length cp) := by rw [q1 _ _ (by go_size)]; go_simp
    clear q1 q2 hb1
    by_cases h : c1 = 0
    · have h1 : (c1 != 0) = false := by simp [h]
      have Z1 := Lib.hid (E0.out.symm.trans h)
      clear h
      go_wp2_with fail
      go_loopw [4] (fun i wr => ∃ k : Nat, k ≤ x.path.length ∧ i = .int .i64 k ∧ Hid (Below w1.heap.size w1 wr) ∧ Hid (firstErr x.path = firstErr (x.path.drop k))) (fun i _ => x.path.length - (intOf i).toNat)
      case atStart => exact ⟨0, Nat.zero_le _, rfl, Below.refl _ _, by simp [Hid]⟩
      case round =>
        obtain ⟨k, hk, rfl, HB, HF⟩ := hrel
        have hsz := HB.out.size
        have BW := Lib.hid (over HB.out B1.out (by omega))
        have r0 := HB.out.cell (p := ⟨w.heap.size, 0, none⟩) (by go_size)
        have r1 := HB.out.cell (p := ⟨w.heap.size, 1, none⟩) (by go_size)
        have r2 := HB.out.cell (p := ⟨w.heap.size, 1 + 1, none⟩) (by go_size)
        have r3 := HB.out.cell (p := ⟨w.heap.size, 1 + 2, none⟩) (by go_size)
        have r4 := HB.out.cell (p := ⟨w.heap.size, 4, none⟩) (by go_size)
        have r5 := HB.out.cell (p := ⟨w.heap.size, 5, none⟩) (by go_size)
        rw [k0] at r0
        rw [k1] at r1
        rw [k2] at r2
        rw [k3] at r3
        rw [k4] at r4
        rw [k5] at r5
        clear k0 k1 k2 k3 k4 k5
        by_cases hlt : k < x.path.length
        · obtain ⟨ba, oa, ha, hbs, c0, c1', c2'⟩ := ((HP.out.below B1.out).below HB.out).get hlt
          subst ha
          go_wp2_with fail
          refine (checkPlaceR_any x.path[k] _).mono ?_
          rintro e w2 ⟨rfl, hb2⟩
          have BB : Hid (Below w1.heap.size w1 w2) := over hb2 HB.out hsz
          have BW2 : Hid (Below w.heap.size w w2) := B1.out.trans (BB.out.mono (by omega))
          clear hb2
          by_cases h : errPl x.path[k] = 0
          · have h1 : (errPl x.path[k] != 0) = false := by simp [h]
            have H := Lib.hid h
            clear h
            go_wp2_with fail
            go_roundw
            case rel => exact ⟨k + 1, by omega, by go_num, BB, HF.out.trans (firstErr_yes hlt H.out)⟩
            case measure => simp [intOf]; omega
          · have h1 : (errPl x.path[k] != 0) = true := by simp [h]
            have H := Lib.hid h
            clear h
            go_wp2_with fail
            go_ret
            exact ⟨ret_int (check_3 HK.out Z1.out (HF.out.trans (firstErr_no hlt H.out)) H.out), BW2.out⟩
        · have HZ := Lib.hid (HF.out.trans (firstErr_end hlt))
          go_wp2_with fail
          refine (namedR_any _ _ _ hs).mono ?_
          rintro e w2 ⟨rfl, hb2⟩
          have HB2 : Hid (Below w1.heap.size w1 w2) := over hb2 HB.out hsz
          have BW2 : Hid (Below w.heap.size w w2) := over hb2 BW.out (by omega)
          have s1 := hb2.cell (p := ⟨w.heap.size, 1, none⟩) (by go_size)
          have s2 := hb2.cell (p := ⟨w.heap.size, 1 + 1, none⟩) (by go_size)
          have s3 := hb2.cell (p := ⟨w.heap.size, 1 + 2, none⟩) (by go_size)
          have s5 := hb2.cell (p := ⟨w.heap.size, 5, none⟩) (by go_size)
          rw [r1] at s1
          rw [r2] at s2
          rw [r3] at s3
          rw [r5] at s5
          clear r0 r1 r2 r3 r4 r5 hb2
          cases hn : isNamed x.kind x.what
          · go_wp2_with fail
            go_ret
            exact ⟨ret_int (check_4 HK.out Z1.out HZ.out hn), BW2.out⟩
          · by_cases h4 : x.path.length ≤ 4097
            · by_cases h0 : x.path.length = 0
              · have HL := Lib.hid (@lastIs_nil x.path x.pl h0)
                have hb0 : ((x.path.length : Int) == 0) = true := by simp [h0]
                have H0 := Lib.hid h0
                clear h0
                go_wp2_with fail
                go_quiet (fail)
                go_wp2_with fail
                go_ret
                exact ⟨ret_int (check_6 HK.out Z1.out HZ.out hn h4 HL.out), below_drewN BW2.out _⟩
              · have hb0 : ((x.path.length : Int) == 0) = false := by simp [h0]
                have hl1 : x.path.length - 1 < x.path.length := by omega
                have HL := Lib.hid (@lastIs_at x.path x.pl hl1)
                obtain ⟨ba, oa, ha, hbs, c0, c1', c2'⟩ := ((HP.out.below B1.out).below HB2.out).get hl1
                subst ha
                have i1 : (0 : Int) ≤ (x.path.length : Int) - 1 := by omega
                have i2 : (x.path.length : Int) - 1 < (x.path.length : Int) := by omega
                have i3 : ((x.path.length : Int) - 1).toNat = x.path.length - 1 := by omega
                have i0 : IntKind.i64.wrap ((x.path.length : Int) - 1) = (x.path.length : Int) - 1 := IntWalk.i64_in _ (by omega)
                have i4 : (1 : Int) ≤ (x.path.length : Int) := by omega
                have i5 : 1 ≤ x.path.length := by omega
                generalize x.path[x.path.length - 1] = pz at *
                have hne := neqPl pz x.pl
                go_wp2_with fail
                go_quiet (fail)
                clear i0 i1 i2 i3 i4
                cases hq : plEq pz x.pl
                · go_wp2_with fail
                  go_ret
                  exact ⟨ret_int (check_6 HK.out Z1.out HZ.out hn h4 (HL.out.trans hq)), below_drewN BW2.out _⟩
                · go_wp2_with fail
                  go_ret
                  exact ⟨ret_int (check_7 HK.out Z1.out HZ.out hn h4 (HL.out.trans hq)), below_drewN BW2.out _⟩
            · go_wp2_with fail
              go_ret
              exact ⟨ret_int (check_5 HK.out Z1.out HZ.out hn h4), BW2.out⟩
    · have h1 : (c1 != 0) = true := by simp [h]
      have Z1 := Lib.hid h
      clear h
      go_wp2_with fail
      go_ret
      exact ⟨ret_int (check_2 HK.out E0.out Z1.out), B1.out⟩
  · have HK := Lib.hid hk
    have hk2 : x.kind < 1 ∨ 4 < x.kind := by omega
    clear hk
    rcases hk2 with hk2 | hk2
    all_goals
      go_enter Tryd.func13, Tryd.ntmps13
      go_wp2_with fail
      go_ret
      exact ⟨ret_int (check_1 HK.out), by go_grown⟩
end Go.Proofs.YtffmeglcakcpdaaDoor
