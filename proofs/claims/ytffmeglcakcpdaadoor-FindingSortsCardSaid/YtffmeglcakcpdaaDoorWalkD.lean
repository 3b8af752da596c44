/- Contracts of lex.Ident and of the reference's Ident, and of what they call. -/
import Derived.Test.YtffmeglcakcpdaaDoorWalkC
set_option linter.unusedVariables false
namespace Go.Proofs.YtffmeglcakcpdaaDoor
open Go.RowKit

theorem ret_bool {a b : Bool} (h : a = b) : Ending.returned (.bool a) = .returned (.bool b) := by rw [h]
def isLet (c : Int) : Bool := decide (97 ≤ c ∧ c ≤ 122 ∨ 65 ≤ c ∧ c ≤ 90)
def isDig (c : Int) : Bool := decide (48 ≤ c ∧ c ≤ 57)
def isPart (c : Int) : Bool := isLet c || isDig c || decide (c = 95)

set_option maxHeartbeats 400000 in
theorem letterR_any (c : Int) (w : World) :
    Calls Tryd.prog 50 #[.int .u8 c] w fun e w' => e = .returned (.bool (isLet c)) ∧ w = w' := by
  have Hn := Lib.hid (show isLet c = decide (97 ≤ c ∧ c ≤ 122 ∨ 65 ≤ c ∧ c ≤ 90) from rfl)
  rw [Hn.out]
  by_cases h1 : 97 ≤ c <;> by_cases h2 : c ≤ 122 <;> by_cases h3 : 65 ≤ c <;> by_cases h4 : c ≤ 90
  all_goals first | (exfalso; omega) | skip
  all_goals
    go_enter Tryd.func50, Tryd.ntmps50
    go_wp2
    go_ret
    exact ⟨ret_bool (by simp; try omega), rfl⟩

set_option maxHeartbeats 400000 in
theorem letter_any (c : Int) (w : World) :
    Calls Tryd.prog 46 #[.int .u8 c] w fun e w' => e = .returned (.bool (isLet c)) ∧ w = w' := by
  have Hn := Lib.hid (show isLet c = decide (97 ≤ c ∧ c ≤ 122 ∨ 65 ≤ c ∧ c ≤ 90) from rfl)
  rw [Hn.out]
  by_cases h1 : 97 ≤ c <;> by_cases h2 : c ≤ 122 <;> by_cases h3 : 65 ≤ c <;> by_cases h4 : c ≤ 90
  all_goals first | (exfalso; omega) | skip
  all_goals
    go_enter Tryd.func46, Tryd.ntmps46
    go_wp2
    go_ret
    exact ⟨ret_bool (by simp; try omega), rfl⟩

set_option maxHeartbeats 400000 in
theorem digitR_any (c : Int) (w : World) :
    Calls Tryd.prog 59 #[.int .u8 c] w fun e w' => e = .returned (.bool (isDig c)) ∧ w = w' := by
  have Hn := Lib.hid (show isDig c = decide (48 ≤ c ∧ c ≤ 57) from rfl)
  rw [Hn.out]
  by_cases h1 : 48 ≤ c <;> by_cases h2 : c ≤ 57
  all_goals first | (exfalso; omega) | skip
  all_goals
    go_enter Tryd.func59, Tryd.ntmps59
    go_wp2
    go_ret
    exact ⟨ret_bool (by simp; try omega), rfl⟩

set_option maxHeartbeats 400000 in
theorem digit_any (c : Int) (w : World) :
    Calls Tryd.prog 58 #[.int .u8 c] w fun e w' => e = .returned (.bool (isDig c)) ∧ w = w' := by
  have Hn := Lib.hid (show isDig c = decide (48 ≤ c ∧ c ≤ 57) from rfl)
  rw [Hn.out]
  by_cases h1 : 48 ≤ c <;> by_cases h2 : c ≤ 57
  all_goals first | (exfalso; omega) | skip
  all_goals
    go_enter Tryd.func58, Tryd.ntmps58
    go_wp2
    go_ret
    exact ⟨ret_bool (by simp; try omega), rfl⟩

set_option maxHeartbeats 400000 in
theorem partR_any (c : Int) (w : World) :
    Calls Tryd.prog 52 #[.int .u8 c] w fun e w' => e = .returned (.bool (isPart c)) ∧ w = w' := by
  have Hn := Lib.hid (show isPart c = (isLet c || isDig c || decide (c = 95)) from rfl)
  rw [Hn.out]
  cases h1 : isLet c
  · cases h2 : isDig c
    · by_cases h : c = 95
      · have h3 : (c == 95) = true := by simp [h]
        have H := Lib.hid h
        clear h
        go_enter Tryd.func52, Tryd.ntmps52
        go_wp2_with fail
        refine (letterR_any _ _).mono ?_
        rintro e w' ⟨rfl, rfl⟩
        go_wp2_with fail
        refine (digitR_any _ _).mono ?_
        rintro e w' ⟨rfl, rfl⟩
        go_wp2_with fail
        go_ret
        exact ⟨ret_bool (by simp [H.out]), rfl⟩
      · have h3 : (c == 95) = false := by simp [h]
        have H := Lib.hid h
        clear h
        go_enter Tryd.func52, Tryd.ntmps52
        go_wp2_with fail
        refine (letterR_any _ _).mono ?_
        rintro e w' ⟨rfl, rfl⟩
        go_wp2_with fail
        refine (digitR_any _ _).mono ?_
        rintro e w' ⟨rfl, rfl⟩
        go_wp2_with fail
        go_ret
        exact ⟨ret_bool (by simp [H.out]), rfl⟩
    · go_enter Tryd.func52, Tryd.ntmps52
      go_wp2_with fail
      refine (letterR_any _ _).mono ?_
      rintro e w' ⟨rfl, rfl⟩
      go_wp2_with fail
      refine (digitR_any _ _).mono ?_
      rintro e w' ⟨rfl, rfl⟩
      go_wp2_with fail
      go_ret
      exact ⟨rfl, rfl⟩
  · go_enter Tryd.func52, Tryd.ntmps52
    go_wp2_with fail
    refine (letterR_any _ _).mono ?_
    rintro e w' ⟨rfl, rfl⟩
    go_wp2_with fail
    go_ret
    exact ⟨rfl, rfl⟩

set_option maxHeartbeats 400000 in
theorem part_any (c : Int) (w : World) :
    Calls Tryd.prog 48 #[.int .u8 c] w fun e w' => e = .returned (.bool (isPart c)) ∧ w = w' := by
  have Hn := Lib.hid (show isPart c = (isLet c || isDig c || decide (c = 95)) from rfl)
  rw [Hn.out]
  cases h1 : isLet c
  · cases h2 : isDig c
    · by_cases h : c = 95
      · have h3 : (c == 95) = true := by simp [h]
        have H := Lib.hid h
        clear h
        go_enter Tryd.func48, Tryd.ntmps48
        go_wp2_with fail
        refine (letter_any _ _).mono ?_
        rintro e w' ⟨rfl, rfl⟩
        go_wp2_with fail
        refine (digit_any _ _).mono ?_
        rintro e w' ⟨rfl, rfl⟩
        go_wp2_with fail
        go_ret
        exact ⟨ret_bool (by simp [H.out]), rfl⟩
      · have h3 : (c == 95) = false := by simp [h]
        have H := Lib.hid h
        clear h
        go_enter Tryd.func48, Tryd.ntmps48
        go_wp2_with fail
        refine (letter_any _ _).mono ?_
        rintro e w' ⟨rfl, rfl⟩
        go_wp2_with fail
        refine (digit_any _ _).mono ?_
        rintro e w' ⟨rfl, rfl⟩
        go_wp2_with fail
        go_ret
        exact ⟨ret_bool (by simp [H.out]), rfl⟩
    · go_enter Tryd.func48, Tryd.ntmps48
      go_wp2_with fail
      refine (letter_any _ _).mono ?_
      rintro e w' ⟨rfl, rfl⟩
      go_wp2_with fail
      refine (digit_any _ _).mono ?_
      rintro e w' ⟨rfl, rfl⟩
      go_wp2_with fail
      go_ret
      exact ⟨rfl, rfl⟩
  · go_enter Tryd.func48, Tryd.ntmps48
    go_wp2_with fail
    refine (letter_any _ _).mono ?_
    rintro e w' ⟨rfl, rfl⟩
    go_wp2_with fail
    go_ret
    exact ⟨rfl, rfl⟩

/-! the span of a predicate -/
def spanLen (l : List UInt8) : Nat := (l.takeWhile fun c => isPart c.toNat).length
theorem drop_at (s : ByteArray) (k : Nat) (h : k < s.size) : s.data.toList.drop k = s[k] :: s.data.toList.drop (k + 1) := by
  rw [List.drop_eq_getElem_cons (by simpa using h)]; rfl
theorem spanLen_yes {s : ByteArray} {k : Nat} (h : k < s.size) (hp : isPart s[k].toNat = true) : spanLen (s.data.toList.drop k) = 1 + spanLen (s.data.toList.drop (k + 1)) := by
  rw [drop_at s k h]; unfold spanLen; simp only [List.takeWhile_cons, hp, if_true, List.length_cons]; omega
theorem spanLen_no {s : ByteArray} {k : Nat} (h : k < s.size) (hp : isPart s[k].toNat = false) : spanLen (s.data.toList.drop k) = 0 := by
  rw [drop_at s k h]; unfold spanLen; simp [hp]
theorem spanLen_end {s : ByteArray} {k : Nat} (h : ¬ k < s.size) : spanLen (s.data.toList.drop k) = 0 := by
  rw [List.drop_eq_nil_of_le (by simp; omega)]; rfl

set_option maxHeartbeats 400000 in
theorem span_any (s : ByteArray) (w : World) (hs : s.size ≤ 9223372036854775807) :
    Calls Tryd.prog 47 #[.string s, .func (.func 48) #[] #[]] w fun e w' => e = .returned (.int .i64 (spanLen s.data.toList)) ∧ w = w' := by
  go_enter Tryd.func47, Tryd.ntmps47
  go_wp2_with fail
  go_loop [5] (fun i => ∃ k : Nat, k ≤ s.size ∧ i = .int .i64 k ∧ Hid (spanLen s.data.toList = k + spanLen (s.data.toList.drop k))) (fun i => s.size - (intOf i).toNat)
  case atStart => exact ⟨0, Nat.zero_le _, rfl, by simp [Hid]⟩
  case round =>
    obtain ⟨k, hk, rfl, HK⟩ := hrel
    by_cases hlt : k < s.size
    · cases hp : isPart s[k].toNat
      · go_wp2_with fail
        refine (part_any _ _).mono ?_
        rintro e w' ⟨rfl, rfl⟩
        go_wp2_with fail
        go_ret
        exact ⟨ret_int (by rw [HK.out, spanLen_no hlt hp]; simp), rfl⟩
      · go_wp2_with fail
        refine (part_any _ _).mono ?_
        rintro e w' ⟨rfl, rfl⟩
        go_wp2_with fail
        go_round
        case rel => exact ⟨k + 1, by omega, by go_num, HK.out.trans (by rw [spanLen_yes hlt hp]; omega)⟩
        case measure => simp [intOf]; omega
    · go_wp2_with fail
      go_ret
      exact ⟨ret_int (by rw [HK.out, spanLen_end hlt]; simp), rfl⟩
end Go.Proofs.YtffmeglcakcpdaaDoor
