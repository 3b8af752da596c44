/- Contracts of the reference's Keyword, and of Ident of the program and of the reference. -/
import Derived.Test.YtffmeglcakcpdaaDoorWalkE
set_option linter.unusedVariables false
namespace Go.Proofs.YtffmeglcakcpdaaDoor
open Go.RowKit

theorem kwVals_at : ∀ k : Fin 17, kwVals[k.val]? = some (.string (kws.getD k.val default)) 
  | ⟨0, _⟩ => rfl
  | ⟨1, _⟩ => rfl
  | ⟨2, _⟩ => rfl
  | ⟨3, _⟩ => rfl
  | ⟨4, _⟩ => rfl
  | ⟨5, _⟩ => rfl
  | ⟨6, _⟩ => rfl
  | ⟨7, _⟩ => rfl
  | ⟨8, _⟩ => rfl
  | ⟨9, _⟩ => rfl
  | ⟨10, _⟩ => rfl
  | ⟨11, _⟩ => rfl
  | ⟨12, _⟩ => rfl
  | ⟨13, _⟩ => rfl
  | ⟨14, _⟩ => rfl
  | ⟨15, _⟩ => rfl
  | ⟨16, _⟩ => rfl
  | ⟨n + 17, h⟩ => absurd h (by omega)
theorem kwCell (w : World) (k : Nat) (h : k < 17) : (w.alloc (.cells kwVals 9)).cell? ⟨w.heap.size, k, none⟩ = some (.string (kws.getD k default)) := by
  rw [← kwVals_at ⟨k, h⟩]
  exact World.cell?_alloc_mark w kwVals _ _ k

set_option maxHeartbeats 1000000 in
theorem keywordR_any (s : ByteArray) (w : World) :
    Calls Tryd.prog 51 #[.string s] w fun e w' => e = .returned (.bool (isKw s)) ∧ Below w.heap.size w w' := by
  have hc := kwCell w
  have HB : Hid (Below w.heap.size w (w.alloc (.cells kwVals 9))) := by unfold Hid; go_grown
  have HC : Hid (∀ k, k < 17 → (w.alloc (.cells kwVals 9)).cell? ⟨w.heap.size, k, none⟩ = some (.string (kws.getD k default))) := hc
  clear hc
  go_enter Tryd.func51, Tryd.ntmps51
  go_wp2_with fail
  change Code.wp _ _ _ _ (w.alloc (.cells kwVals 9))
  generalize w.alloc (.cells kwVals 9) = W at *
  go_loop [4] (fun i => ∃ k : Nat, k ≤ 17 ∧ i = .int .i64 k ∧ Hid (isKwTo s k = false)) (fun i => 17 - (intOf i).toNat)
  case atStart => exact ⟨0, Nat.zero_le _, rfl, rfl⟩
  case round =>
    obtain ⟨k, hk, rfl, HK⟩ := hrel
    by_cases hlt : k < 17
    · have hi := HC.out k hlt
      have HS := Lib.hid (isKwTo_succ s k hlt)
      have HO := Lib.hid (@isKw_of s k hlt)
      generalize kws.getD k default = kw at *
      cases he : (kw.toList == s.toList)
      · go_wp2_with fail
        go_round
        case rel => exact ⟨k + 1, by omega, by go_num, by rw [Hid, HS.out, HK.out, ← Lib.toList_data, ← Lib.toList_data, BEq.comm, he]; rfl⟩
        case measure => simp [intOf]; omega
      · go_wp2_with fail
        go_ret
        exact ⟨ret_bool (HO.out (by rw [← Lib.toList_data, ← Lib.toList_data, BEq.comm]; exact he)).symm, HB.out⟩
    · obtain rfl : k = 17 := by omega
      go_wp2_with fail
      go_ret
      exact ⟨ret_bool (by rw [← isKwTo_all, HK.out]), HB.out⟩

/-- is it an identifier and no keyword? -/
def isIdent (s : ByteArray) : Bool :=
  decide (s.size ≠ 0) && decide (s.size ≤ 32) && isLet (s.data.toList.headD 0).toNat && (s.data.toList.all fun c => isPart c.toNat) && !isKw s
theorem head_at (s : ByteArray) (h : 0 < s.size) : s.data.toList.headD 0 = s[0] := by
  have := drop_at s 0 h
  rw [List.drop_zero] at this
  rw [this]; rfl
theorem all_of_span : ∀ (l : List UInt8), decide (spanLen l = l.length) = l.all fun c => isPart c.toNat
  | [] => rfl
  | c :: l => by
    have ih := all_of_span l
    unfold spanLen at *
    rw [List.takeWhile_cons, List.all_cons]
    cases h : isPart c.toNat
    · simp
    · simpa using ih
theorem size_list (s : ByteArray) : s.data.toList.length = s.size := by simp
theorem span_eq (s : ByteArray) : ((spanLen s.data.toList : Int) == (s.size : Int)) = s.data.toList.all fun c => isPart c.toNat := by
  rw [← all_of_span, ← size_list, Bool.eq_iff_iff]
  simp [Int.ofNat_inj]

set_option maxHeartbeats 1000000 in
theorem ident_any (s : ByteArray) (w : World) (hE : Env w) :
    Calls Tryd.prog 37 #[.string s] w fun e w' => e = .returned (.bool (isIdent s)) ∧ w = w' := by
  have HE := Lib.hid hE
  clear hE
  by_cases h0 : s.size = 0
  · have e0 : s.toList = [] := by rw [Lib.toList_data]; exact List.length_eq_zero_iff.1 (by rw [size_list]; exact h0)
    have H0 := Lib.hid h0
    clear h0
    go_enter Tryd.func37, Tryd.ntmps37
    go_wp2_with fail
    go_ret
    exact ⟨ret_bool (by unfold isIdent; simp [H0.out]), rfl⟩
  · have hpos : 0 < s.size := by omega
    have hh := head_at s hpos
    have e1 : s.toList.isEmpty = false := by
      rw [Lib.toList_data]; cases h : s.data.toList with
      | nil => have := size_list s; rw [h] at this; simp at this; omega
      | cons => rfl
    have e2 : (!s.toList.isEmpty) = true := by rw [e1]; rfl
    by_cases h1 : s.size ≤ 32
    · have hd : decide (s.size ≤ 32) = true := decide_eq_true h1
      have HU : Hid (isIdent s = (isLet s[0].toNat && (s.data.toList.all fun c => isPart c.toNat) && !isKw s)) := by
        unfold Hid isIdent; rw [hh]; simp [h0, h1]
      have HH := Lib.hid hh
      have N0 := Lib.hid h0
      clear hh h0 hd
      cases hl : isLet s[0].toNat
      · go_enter Tryd.func37, Tryd.ntmps37
        go_wp2_with fail
        refine (letter_any _ _).mono ?_
        rintro e w' ⟨rfl, rfl⟩
        go_wp2_with fail
        go_ret
        exact ⟨ret_bool (by rw [HU.out, hl]; rfl), rfl⟩
      · cases ha : s.data.toList.all fun c => isPart c.toNat
        · have HA := Lib.hid ha
          have hx : ((spanLen s.data.toList : Int) == (s.size : Int)) = false := by rw [span_eq]; exact ha
          clear ha
          go_enter Tryd.func37, Tryd.ntmps37
          go_wp2_with fail
          refine (letter_any _ _).mono ?_
          rintro e w' ⟨rfl, rfl⟩
          go_wp2_with fail
          refine (span_any _ _ (by omega)).mono ?_
          rintro e w' ⟨rfl, rfl⟩
          go_wp2_with fail
          go_ret
          exact ⟨ret_bool (by rw [HU.out, HA.out, hl]; rfl), rfl⟩
        · have HA := Lib.hid ha
          have hx : ((spanLen s.data.toList : Int) == (s.size : Int)) = true := by rw [span_eq]; exact ha
          clear ha
          cases hk : isKw s
          all_goals
            go_enter Tryd.func37, Tryd.ntmps37
            go_wp2_with fail
            refine (letter_any _ _).mono ?_
            rintro e w' ⟨rfl, rfl⟩
            go_wp2_with fail
            refine (span_any _ _ (by omega)).mono ?_
            rintro e w' ⟨rfl, rfl⟩
            go_wp2_with fail
            refine (keyword_any _ _ HE.out).mono ?_
            rintro e w' ⟨rfl, rfl⟩
            go_wp2_with fail
            go_ret
            exact ⟨ret_bool (by rw [HU.out, HA.out, hl, hk]; rfl), rfl⟩
    · have H1 : Hid (isIdent s = false) := by unfold Hid isIdent; simp [h1]
      have h2 : 32 < s.size := by omega
      clear hh h0
      go_enter Tryd.func37, Tryd.ntmps37
      go_wp2_with fail
      go_ret
      exact ⟨ret_bool H1.out.symm, rfl⟩
set_option maxHeartbeats 1000000 in
theorem identR_any (s : ByteArray) (w : World) :
    Calls Tryd.prog 38 #[.string s] w fun e w' => e = .returned (.bool (isIdent s)) ∧ Below w.heap.size w w' := by
  by_cases h0 : s.size = 0
  · have e0 : s.toList = [] := by rw [Lib.toList_data]; exact List.length_eq_zero_iff.1 (by rw [size_list]; exact h0)
    have H0 := Lib.hid h0
    clear h0
    go_enter Tryd.func38, Tryd.ntmps38
    go_wp2_with fail
    go_ret
    exact ⟨ret_bool (by unfold isIdent; simp [H0.out]), Below.refl _ _⟩
  · have hpos : 0 < s.size := by omega
    have hh := head_at s hpos
    have e1 : s.toList.isEmpty = false := by
      rw [Lib.toList_data]; cases h : s.data.toList with
      | nil => have := size_list s; rw [h] at this; simp at this; omega
      | cons => rfl
    have e2 : (!s.toList.isEmpty) = true := by rw [e1]; rfl
    by_cases h1 : s.size ≤ 32
    · have hd : decide (s.size ≤ 32) = true := decide_eq_true h1
      have HU : Hid (isIdent s = (isLet s[0].toNat && (s.data.toList.all fun c => isPart c.toNat) && !isKw s)) := by
        unfold Hid isIdent; rw [hh]; simp [h0, h1]
      have HH := Lib.hid hh
      have N0 := Lib.hid h0
      clear hh h0 hd
      cases hl : isLet s[0].toNat
      · go_enter Tryd.func38, Tryd.ntmps38
        go_wp2_with fail
        refine (letterR_any _ _).mono ?_
        rintro e w' ⟨rfl, rfl⟩
        go_wp2_with fail
        go_ret
        exact ⟨ret_bool (by rw [HU.out, hl]; rfl), Below.refl _ _⟩
      · cases hk : isKw s
        · go_enter Tryd.func38, Tryd.ntmps38
          go_wp2_with fail
          refine (letterR_any _ _).mono ?_
          rintro e w' ⟨rfl, rfl⟩
          go_wp2_with fail
          refine (keywordR_any _ _).mono ?_
          rintro e w1 ⟨rfl, hb⟩
          have HB := Lib.hid hb
          clear hb
          go_wp2_with fail
          go_loop [3] (fun i => ∃ k : Nat, k ≤ s.size ∧ i = .int .i64 k ∧ Hid ((s.data.toList.all fun c => isPart c.toNat) = ((s.data.toList.drop k).all fun c => isPart c.toNat))) (fun i => s.size - (intOf i).toNat)
          case atStart => exact ⟨0, Nat.zero_le _, rfl, by simp [Hid]⟩
          case round =>
            obtain ⟨k, hkk, rfl, HK⟩ := hrel
            by_cases hlt : k < s.size
            · cases hp : isPart s[k].toNat
              · go_wp2_with fail
                refine (partR_any _ _).mono ?_
                rintro e w' ⟨rfl, rfl⟩
                go_wp2_with fail
                go_ret
                exact ⟨ret_bool (by rw [HU.out, HK.out, drop_at s k hlt, List.all_cons, hp]; simp), HB.out⟩
              · go_wp2_with fail
                refine (partR_any _ _).mono ?_
                rintro e w' ⟨rfl, rfl⟩
                go_wp2_with fail
                go_round
                case rel => exact ⟨k + 1, by omega, by go_num, HK.out.trans (by rw [drop_at s k hlt, List.all_cons, hp]; rfl)⟩
                case measure => simp [intOf]; omega
            · go_wp2_with fail
              go_ret
              exact ⟨ret_bool (by rw [HU.out, HK.out, hl, hk, List.drop_eq_nil_of_le (by rw [size_list]; omega)]; rfl), HB.out⟩
        · go_enter Tryd.func38, Tryd.ntmps38
          go_wp2_with fail
          refine (letterR_any _ _).mono ?_
          rintro e w' ⟨rfl, rfl⟩
          go_wp2_with fail
          refine (keywordR_any _ _).mono ?_
          rintro e w1 ⟨rfl, hb⟩
          have HB := Lib.hid hb
          clear hb
          go_wp2_with fail
          go_ret
          exact ⟨ret_bool (by rw [HU.out, hk]; simp), HB.out⟩
    · have H1 : Hid (isIdent s = false) := by unfold Hid isIdent; simp [h1]
      have h2 : 32 < s.size := by omega
      clear hh h0
      go_enter Tryd.func38, Tryd.ntmps38
      go_wp2_with fail
      go_ret
      exact ⟨ret_bool H1.out.symm, Below.refl _ _⟩
end Go.Proofs.YtffmeglcakcpdaaDoor
