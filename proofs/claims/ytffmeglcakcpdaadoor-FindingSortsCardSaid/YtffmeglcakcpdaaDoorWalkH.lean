/- Contracts of validWhat and of the reference's named. -/
import Derived.Test.YtffmeglcakcpdaaDoorWalkG
set_option linter.unusedVariables false
namespace Go.Proofs.YtffmeglcakcpdaaDoor
open Go.RowKit

def sTrue : ByteArray := ⟨#[116, 114, 117, 101]⟩
def sFalse : ByteArray := ⟨#[102, 97, 108, 115, 101]⟩
def isTF (s : ByteArray) : Bool := s.toList == [116, 114, 117, 101] || s.toList == [102, 97, 108, 115, 101]
/-- may a kind have this What? -/
def isNamed (k : Int) (s : ByteArray) : Bool := if k = 2 ∨ k = 3 then isIdent s else if k = 4 then isTF s else isWord s
theorem tf_of {s : ByteArray} (h : isTF s = true) : s = sTrue ∨ s = sFalse := by
  unfold isTF at h
  rw [Bool.or_eq_true, beq_iff_eq, beq_iff_eq] at h
  rw [Lib.toList_data] at h
  rcases h with h | h
  · left; exact ByteArray.ext (Array.toList_inj.1 h)
  · right; exact ByteArray.ext (Array.toList_inj.1 h)
theorem word_of_tf {s : ByteArray} (h : isTF s = true) : isWord s = true := by
  rcases tf_of h with rfl | rfl <;> decide +kernel
theorem ch_of_part {c : UInt8} (h : isPart c.toNat = true) : isCh c = true := by
  unfold isPart isLet isDig at h
  unfold isCh
  simp only [Bool.or_eq_true, decide_eq_true_eq] at h ⊢
  omega
theorem word_of_ident {s : ByteArray} (h : isIdent s = true) : isWord s = true := by
  unfold isIdent at h
  simp only [Bool.and_eq_true, decide_eq_true_eq, List.all_eq_true] at h
  unfold isWord
  simp only [Bool.and_eq_true, decide_eq_true_eq, List.all_eq_true]
  exact ⟨fun c hc => ch_of_part (h.1.2 c hc), by omega⟩

set_option maxHeartbeats 1000000 in
theorem namedR_any (k : Int) (s : ByteArray) (w : World) (hs : s.size ≤ 9223372036854775807) :
    Calls Tryd.prog 31 #[.int .i64 k, .string s] w fun e w' => e = .returned (.bool (isNamed k s)) ∧ Below w.heap.size w w' := by
  by_cases h2 : k = 2
  · have b2 : (k == 2) = true := by simp [h2]
    have HN : Hid (isNamed k s = isIdent s) := by unfold Hid isNamed; rw [if_pos (Or.inl h2)]
    clear h2
    go_enter Tryd.func31, Tryd.ntmps31
    go_wp2_with fail
    refine (identR_any _ _).mono ?_
    rintro e w1 ⟨rfl, hb1⟩
    have B1 := Lib.hid hb1
    clear hb1
    go_wp2_with fail
    go_ret
    exact ⟨ret_bool HN.out.symm, B1.out⟩
  · have b2 : (k == 2) = false := by simp [h2]
    by_cases h3 : k = 3
    · have b3 : (k == 3) = true := by simp [h3]
      have HN : Hid (isNamed k s = isIdent s) := by unfold Hid isNamed; rw [if_pos (Or.inr h3)]
      clear h2 h3
      go_enter Tryd.func31, Tryd.ntmps31
      go_wp2_with fail
      refine (identR_any _ _).mono ?_
      rintro e w1 ⟨rfl, hb1⟩
      have B1 := Lib.hid hb1
      clear hb1
      go_wp2_with fail
      go_ret
      exact ⟨ret_bool HN.out.symm, B1.out⟩
    · have b3 : (k == 3) = false := by simp [h3]
      by_cases h4 : k = 4
      · have b4 : (k == 4) = true := by simp [h4]
        have HN : Hid (isNamed k s = isTF s) := by unfold Hid isNamed; rw [if_neg (by omega), if_pos h4]
        clear h2 h3 h4
        go_enter Tryd.func31, Tryd.ntmps31
        go_wp2_with fail
        all_goals
          go_ret
          exact ⟨ret_bool (by rw [HN.out]; unfold isTF; simp [*]), Below.refl _ _⟩
      · have b4 : (k == 4) = false := by simp [h4]
        have HN : Hid (isNamed k s = isWord s) := by unfold Hid isNamed; rw [if_neg (by omega), if_neg h4]
        clear h2 h3 h4
        go_enter Tryd.func31, Tryd.ntmps31
        go_wp2_with fail
        refine (wordR_any _ _ hs).mono ?_
        rintro e w' ⟨rfl, rfl⟩
        go_wp2_with fail
        go_ret
        exact ⟨ret_bool HN.out.symm, Below.refl _ _⟩

theorem named_of_word {k : Int} {s : ByteArray} (h : isWord s = false) : isNamed k s = false := by
  unfold isNamed
  have h1 : isIdent s = false := by cases hi : isIdent s; rfl; rw [word_of_ident hi] at h; cases h
  have h2 : isTF s = false := by cases hi : isTF s; rfl; rw [word_of_tf hi] at h; cases h
  rw [h, h1, h2]; split <;> (try split) <;> rfl
theorem word_of_all {s : ByteArray} (h1 : 1 ≤ s.size) (h2 : s.size ≤ 32) : isWord s = allCh s 0 := by
  unfold isWord; rw [allCh_zero, decide_eq_true (⟨h1, h2⟩ : 1 ≤ s.size ∧ s.size ≤ 32), Bool.and_true]

set_option maxHeartbeats 2000000 in
theorem validWhat_any (k : Int) (s : ByteArray) (w : World) (hE : Env w) :
    Calls Tryd.prog 29 #[.int .i64 k, .string s] w fun e w' => e = .returned (.bool (isNamed k s)) ∧ w = w' := by
  have HE := Lib.hid hE
  clear hE
  by_cases h1 : 1 ≤ s.size
  · by_cases h2 : s.size ≤ 32
    · have HW := Lib.hid (word_of_all h1 h2)
      go_enter Tryd.func29, Tryd.ntmps29
      go_wp2_with fail
      go_loop [16] (fun i => ∃ j : Nat, j ≤ s.size ∧ i = .int .i64 j ∧ Hid (allCh s 0 = allCh s j)) (fun i => s.size - (intOf i).toNat)
      case atStart => exact ⟨0, Nat.zero_le _, rfl, rfl⟩
      case round =>
        obtain ⟨j, hj, rfl, HK⟩ := hrel
        by_cases hlt : j < s.size
        · by_cases h1 : 33 ≤ s[j].toNat
          · by_cases h2 : s[j].toNat ≤ 126
            · have hp : Hid (isCh s[j] = true) := by unfold Hid isCh; simp [h1, h2]
              have g1 : ¬ (s[j].toNat : Int) < 33 := by omega
              have g2 : ¬ 126 < (s[j].toNat : Int) := by omega
              go_wp2_with fail
              go_round
              case rel => exact ⟨j + 1, by omega, by go_num, HK.out.trans (allCh_yes hlt hp.out)⟩
              case measure => simp [intOf]; omega
            · have hp : Hid (isCh s[j] = false) := by unfold Hid isCh; simp [h2]
              have g1 : ¬ (s[j].toNat : Int) < 33 := by omega
              have g2 : 126 < (s[j].toNat : Int) := by omega
              go_wp2_with fail
              go_ret
              exact ⟨ret_bool (named_of_word (by rw [HW.out, HK.out, allCh_no hlt hp.out])).symm, rfl⟩
          · have hp : Hid (isCh s[j] = false) := by unfold Hid isCh; simp [h1]
            have g1 : (s[j].toNat : Int) < 33 := by omega
            go_wp2_with fail
            go_ret
            exact ⟨ret_bool (named_of_word (by rw [HW.out, HK.out, allCh_no hlt hp.out])).symm, rfl⟩
        · have HA : Hid (isWord s = true) := HW.out.trans (HK.out.trans (allCh_end hlt))
          by_cases h2 : k = 2
          · have b2 : (k == 2) = true := by simp [h2]
            have HN : Hid (isNamed k s = isIdent s) := by unfold Hid isNamed; rw [if_pos (Or.inl h2)]
            clear h2
            go_wp2_with fail
            refine (ident_any _ _ HE.out).mono ?_
            rintro e w' ⟨rfl, rfl⟩
            go_wp2_with fail
            go_ret
            exact ⟨ret_bool HN.out.symm, rfl⟩
          · have b2 : (k == 2) = false := by simp [h2]
            by_cases h3 : k = 3
            · have b3 : (k == 3) = true := by simp [h3]
              have HN : Hid (isNamed k s = isIdent s) := by unfold Hid isNamed; rw [if_pos (Or.inr h3)]
              clear h2 h3
              go_wp2_with fail
              refine (ident_any _ _ HE.out).mono ?_
              rintro e w' ⟨rfl, rfl⟩
              go_wp2_with fail
              go_ret
              exact ⟨ret_bool HN.out.symm, rfl⟩
            · have b3 : (k == 3) = false := by simp [h3]
              by_cases h4 : k = 4
              · have b4 : (k == 4) = true := by simp [h4]
                have HN : Hid (isNamed k s = isTF s) := by unfold Hid isNamed; rw [if_neg (by omega), if_pos h4]
                clear h2 h3 h4
                go_wp2_with fail
                all_goals
                  go_ret
                  exact ⟨ret_bool (by rw [HN.out]; unfold isTF; simp [*]), rfl⟩
              · have b4 : (k == 4) = false := by simp [h4]
                have HN : Hid (isNamed k s = isWord s) := by unfold Hid isNamed; rw [if_neg (by omega), if_neg h4]
                clear h2 h3 h4
                go_wp2_with fail
                go_ret
                exact ⟨ret_bool (by rw [HN.out, HA.out]), rfl⟩
    · have HN : Hid (isNamed k s = false) := named_of_word (by unfold isWord; rw [decide_eq_false (by omega)]; simp)
      go_enter Tryd.func29, Tryd.ntmps29
      go_wp2_with fail
      go_ret
      exact ⟨ret_bool HN.out.symm, rfl⟩
  · have HN : Hid (isNamed k s = false) := named_of_word (by unfold isWord; rw [decide_eq_false (by omega)]; simp)
    go_enter Tryd.func29, Tryd.ntmps29
    go_wp2_with fail
    go_ret
    exact ⟨ret_bool HN.out.symm, rfl⟩
end Go.Proofs.YtffmeglcakcpdaaDoor
