/- Contracts of checkPlace, validWhat and of the reference's CheckPlace, Word, named. -/
import Derived.Test.YtffmeglcakcpdaaDoorWalkF
set_option linter.unusedVariables false
namespace Go.Proofs.YtffmeglcakcpdaaDoor
open Go.RowKit

def errPl (p : Pl) : Int := if isIdent p.cls && isIdent p.meth then (if 0 ≤ p.ins ∧ p.ins < 1024 then 0 else 4) else 5
theorem errPl_1 {p : Pl} (h : isIdent p.cls = false) : 5 = errPl p := by simp [errPl, h]
theorem errPl_2 {p : Pl} (h : isIdent p.meth = false) : 5 = errPl p := by simp [errPl, h]
theorem errPl_3 {p : Pl} (h : isIdent p.cls = true) (h1 : isIdent p.meth = true) (h2 : ¬ (0 ≤ p.ins ∧ p.ins < 1024)) : 4 = errPl p := by simp only [errPl, h, h1, Bool.and_self, if_true, if_neg h2]
theorem errPl_4 {p : Pl} (h : isIdent p.cls = true) (h1 : isIdent p.meth = true) (h2 : 0 ≤ p.ins ∧ p.ins < 1024) : 0 = errPl p := by simp only [errPl, h, h1, Bool.and_self, if_true, if_pos h2]

set_option maxHeartbeats 1000000 in
theorem checkPlace_any (p : Pl) (w : World) (hE : Env w) :
    Calls Tryd.prog 28 #[p.val] w fun e w' => e = .returned (.int .i64 (errPl p)) ∧ Below w.heap.size w w' := by
  unfold Pl.val
  have HE := Lib.hid hE
  clear hE
  cases h1 : isIdent p.cls
  · go_enter Tryd.func28, Tryd.ntmps28
    go_wp2_with fail
    refine (ident_any _ _ (HE.out.below (by go_grown))).mono ?_
    rintro e w' ⟨rfl, rfl⟩
    go_wp2_with fail
    go_ret
    exact ⟨ret_int (errPl_1 h1), by go_grown⟩
  · cases h2 : isIdent p.meth
    · go_enter Tryd.func28, Tryd.ntmps28
      go_wp2_with fail
      refine (ident_any _ _ (HE.out.below (by go_grown))).mono ?_
      rintro e w' ⟨rfl, rfl⟩
      go_wp2_with fail
      refine (ident_any _ _ (HE.out.below (by go_grown))).mono ?_
      rintro e w' ⟨rfl, rfl⟩
      go_wp2_with fail
      go_ret
      exact ⟨ret_int (errPl_2 h2), by go_grown⟩
    · by_cases h3 : 0 ≤ p.ins
      · by_cases h4 : p.ins < 1024
        · go_enter Tryd.func28, Tryd.ntmps28
          go_wp2_with fail
          refine (ident_any _ _ (HE.out.below (by go_grown))).mono ?_
          rintro e w' ⟨rfl, rfl⟩
          go_wp2_with fail
          refine (ident_any _ _ (HE.out.below (by go_grown))).mono ?_
          rintro e w' ⟨rfl, rfl⟩
          go_wp2_with fail
          go_ret
          exact ⟨ret_int (errPl_4 h1 h2 (by omega)), by go_grown⟩
        · go_enter Tryd.func28, Tryd.ntmps28
          go_wp2_with fail
          refine (ident_any _ _ (HE.out.below (by go_grown))).mono ?_
          rintro e w' ⟨rfl, rfl⟩
          go_wp2_with fail
          refine (ident_any _ _ (HE.out.below (by go_grown))).mono ?_
          rintro e w' ⟨rfl, rfl⟩
          go_wp2_with fail
          go_ret
          exact ⟨ret_int (errPl_3 h1 h2 (by omega)), by go_grown⟩
      · have h3' : p.ins < 0 := by omega
        go_enter Tryd.func28, Tryd.ntmps28
        go_wp2_with fail
        refine (ident_any _ _ (HE.out.below (by go_grown))).mono ?_
        rintro e w' ⟨rfl, rfl⟩
        go_wp2_with fail
        refine (ident_any _ _ (HE.out.below (by go_grown))).mono ?_
        rintro e w' ⟨rfl, rfl⟩
        go_wp2_with fail
        go_ret
        exact ⟨ret_int (errPl_3 h1 h2 (by omega)), by go_grown⟩

set_option maxHeartbeats 1000000 in
theorem checkPlaceR_any (p : Pl) (w : World) :
    Calls Tryd.prog 30 #[p.val] w fun e w' => e = .returned (.int .i64 (errPl p)) ∧ Below w.heap.size w w' := by
  unfold Pl.val
  cases h1 : isIdent p.cls
  · go_enter Tryd.func30, Tryd.ntmps30
    go_wp2_with fail
    refine (identR_any _ _).mono ?_
    rintro e w1 ⟨rfl, hb1⟩
    have B1 : Hid (Below w.heap.size w w1) := over hb1 (by go_grown) (by go_size)
    clear hb1
    go_wp2_with fail
    go_ret
    exact ⟨ret_int (errPl_1 h1), B1.out⟩
  · cases h2 : isIdent p.meth
    · go_enter Tryd.func30, Tryd.ntmps30
      go_wp2_with fail
      refine (identR_any _ _).mono ?_
      rintro e w1 ⟨rfl, hb1⟩
      have B1 : Hid (Below w.heap.size w w1) := over hb1 (by go_grown) (by go_size)
      obtain ⟨q1, q2⟩ := bcell hb1
      clear hb1
      go_wp2_with fail
      refine (identR_any _ _).mono ?_
      rintro e w2 ⟨rfl, hb2⟩
      have B2 : Hid (Below w.heap.size w w2) := over hb2 B1.out B1.out.size
      clear hb2
      go_wp2_with fail
      go_ret
      exact ⟨ret_int (errPl_2 h2), B2.out⟩
    · by_cases h3 : 0 ≤ p.ins
      · by_cases h4 : p.ins < 1024
        · go_enter Tryd.func30, Tryd.ntmps30
          go_wp2_with fail
          refine (identR_any _ _).mono ?_
          rintro e w1 ⟨rfl, hb1⟩
          have B1 : Hid (Below w.heap.size w w1) := over hb1 (by go_grown) (by go_size)
          have hz1 : w.heap.size < w1.heap.size := by have := hb1.size; simp at this; omega
          obtain ⟨q1, q2⟩ := bcell hb1
          clear hb1
          go_wp2_with fail
          refine (identR_any _ _).mono ?_
          rintro e w2 ⟨rfl, hb2⟩
          have B2 : Hid (Below w.heap.size w w2) := over hb2 B1.out B1.out.size
          obtain ⟨q3, q4⟩ := bcell hb2
          clear hb2
          go_wp2_with fail
          go_ret
          exact ⟨ret_int (errPl_4 h1 h2 (by omega)), B2.out⟩
        · go_enter Tryd.func30, Tryd.ntmps30
          go_wp2_with fail
          refine (identR_any _ _).mono ?_
          rintro e w1 ⟨rfl, hb1⟩
          have B1 : Hid (Below w.heap.size w w1) := over hb1 (by go_grown) (by go_size)
          have hz1 : w.heap.size < w1.heap.size := by have := hb1.size; simp at this; omega
          obtain ⟨q1, q2⟩ := bcell hb1
          clear hb1
          go_wp2_with fail
          refine (identR_any _ _).mono ?_
          rintro e w2 ⟨rfl, hb2⟩
          have B2 : Hid (Below w.heap.size w w2) := over hb2 B1.out B1.out.size
          obtain ⟨q3, q4⟩ := bcell hb2
          clear hb2
          go_wp2_with fail
          go_ret
          exact ⟨ret_int (errPl_3 h1 h2 (by omega)), B2.out⟩
      · have h3' : p.ins < 0 := by omega
        go_enter Tryd.func30, Tryd.ntmps30
        go_wp2_with fail
        refine (identR_any _ _).mono ?_
        rintro e w1 ⟨rfl, hb1⟩
        have B1 : Hid (Below w.heap.size w w1) := over hb1 (by go_grown) (by go_size)
        have hz1 : w.heap.size < w1.heap.size := by have := hb1.size; simp at this; omega
        obtain ⟨q1, q2⟩ := bcell hb1
        clear hb1
        go_wp2_with fail
        refine (identR_any _ _).mono ?_
        rintro e w2 ⟨rfl, hb2⟩
        have B2 : Hid (Below w.heap.size w w2) := over hb2 B1.out B1.out.size
        obtain ⟨q3, q4⟩ := bcell hb2
        clear hb2
        go_wp2_with fail
        go_ret
        exact ⟨ret_int (errPl_3 h1 h2 (by omega)), B2.out⟩

/-! words -/
def isCh (c : UInt8) : Bool := decide (33 ≤ c.toNat ∧ c.toNat ≤ 126)
def isWord (s : ByteArray) : Bool := (s.data.toList.all isCh) && decide (1 ≤ s.size ∧ s.size ≤ 32)
def allCh (s : ByteArray) (k : Nat) : Bool := (s.data.toList.drop k).all isCh
theorem allCh_no {s : ByteArray} {k : Nat} (h : k < s.size) (hp : isCh s[k] = false) : allCh s k = false := by
  unfold allCh; rw [drop_at s k h, List.all_cons, hp]; rfl
theorem allCh_yes {s : ByteArray} {k : Nat} (h : k < s.size) (hp : isCh s[k] = true) : allCh s k = allCh s (k + 1) := by
  unfold allCh; rw [drop_at s k h, List.all_cons, hp]; rfl
theorem allCh_end {s : ByteArray} {k : Nat} (h : ¬ k < s.size) : allCh s k = true := by
  unfold allCh; rw [List.drop_eq_nil_of_le (by rw [size_list]; omega)]; rfl
theorem allCh_zero (s : ByteArray) : s.data.toList.all isCh = allCh s 0 := by unfold allCh; rw [List.drop_zero]

set_option maxHeartbeats 1000000 in
theorem wordR_any (s : ByteArray) (w : World) (hs : s.size ≤ 9223372036854775807) :
    Calls Tryd.prog 39 #[.string s] w fun e w' => e = .returned (.bool (isWord s)) ∧ w = w' := by
  have HW : Hid (isWord s = (allCh s 0 && decide (1 ≤ s.size ∧ s.size ≤ 32))) := by unfold Hid isWord; rw [allCh_zero]
  go_enter Tryd.func39, Tryd.ntmps39
  go_wp2_with fail
  go_loop [3] (fun i => ∃ k : Nat, k ≤ s.size ∧ i = .int .i64 k ∧ Hid (allCh s 0 = allCh s k)) (fun i => s.size - (intOf i).toNat)
  case atStart => exact ⟨0, Nat.zero_le _, rfl, rfl⟩
  case round =>
    obtain ⟨k, hk, rfl, HK⟩ := hrel
    by_cases hlt : k < s.size
    · by_cases h1 : 33 ≤ s[k].toNat
      · by_cases h2 : s[k].toNat ≤ 126
        · have hp : Hid (isCh s[k] = true) := by unfold Hid isCh; simp [h1, h2]
          have g1 : ¬ (s[k].toNat : Int) < 33 := by omega
          have g2 : ¬ 126 < (s[k].toNat : Int) := by omega
          go_wp2_with fail
          go_round
          case rel => exact ⟨k + 1, by omega, by go_num, HK.out.trans (allCh_yes hlt hp.out)⟩
          case measure => simp [intOf]; omega
        · have hp : Hid (isCh s[k] = false) := by unfold Hid isCh; simp [h2]
          have g1 : ¬ (s[k].toNat : Int) < 33 := by omega
          have g2 : 126 < (s[k].toNat : Int) := by omega
          go_wp2_with fail
          go_ret
          exact ⟨ret_bool (by rw [HW.out, HK.out, allCh_no hlt hp.out]; rfl), rfl⟩
      · have hp : Hid (isCh s[k] = false) := by unfold Hid isCh; simp [h1]
        have g1 : (s[k].toNat : Int) < 33 := by omega
        go_wp2_with fail
        go_ret
        exact ⟨ret_bool (by rw [HW.out, HK.out, allCh_no hlt hp.out]; rfl), rfl⟩
    · have HA := Lib.hid (allCh_end hlt)
      by_cases h1 : 1 ≤ s.size
      · by_cases h2 : s.size ≤ 32
        · have HD : Hid (decide (1 ≤ s.size ∧ s.size ≤ 32) = true) := decide_eq_true ⟨h1, h2⟩
          go_wp2_with fail
          go_ret
          exact ⟨ret_bool (by rw [HW.out, HK.out, HA.out, HD.out]; first | rfl | (simp; omega)), rfl⟩
        · have HD : Hid (decide (1 ≤ s.size ∧ s.size ≤ 32) = false) := decide_eq_false (by omega)
          go_wp2_with fail
          go_ret
          exact ⟨ret_bool (by rw [HW.out, HK.out, HA.out, HD.out]; first | rfl | (simp; omega)), rfl⟩
      · have HD : Hid (decide (1 ≤ s.size ∧ s.size ≤ 32) = false) := decide_eq_false (by omega)
        go_wp2_with fail
        go_ret
        exact ⟨ret_bool (by rw [HW.out, HK.out, HA.out, HD.out]; first | rfl | (simp; omega)), rfl⟩
end Go.Proofs.YtffmeglcakcpdaaDoor
