/- stableCmpFunc, SortStableFunc, the closure of sortBy, CompactFunc. -/
import Derived.Test.YtffmeglcakcpdaaDoorWalkMM
set_option linter.unusedVariables false
namespace Go.Proofs.YtffmeglcakcpdaaDoor
open Go.RowKit

/-! runs -/
def Full (k : Nat) (ts : List (List El)) : Prop := ∀ t ∈ ts, t.length = k ∧ Srt.Sorted cmpEl t
theorem Full.snoc {k : Nat} {ts : List (List El)} (h : Full k ts) {t : List El} (h1 : t.length = k) (h2 : Srt.Sorted cmpEl t) : Full k (ts ++ [t]) := fun x hx => by
  rcases List.mem_append.1 hx with hx | hx
  · exact h x hx
  · rw [List.mem_singleton] at hx; subst hx; exact ⟨h1, h2⟩
/-- the state of the first loop: runs of 20, the rest as it was -/
structure RunA (w0 : World) (blk : Nat) (xs : List El) (a : Nat) (ts : List (List El)) (r : List El) (W : World) : Prop where
  row : Row w0 blk (ts.flatten ++ r) W
  full : Full 20 ts
  len : ts.flatten.length = a
  perm : (ts.flatten ++ r).Perm xs
/-- runs of k, the last one shorter -/
structure RunB (w0 : World) (blk k : Nat) (xs : List El) (ts : List (List El)) (t : List El) (W : World) : Prop where
  row : Row w0 blk (ts.flatten ++ t) W
  full : Full k ts
  short : t.length < k
  sorted : Srt.Sorted cmpEl t
  perm : (ts.flatten ++ t).Perm xs
/-- runs of 2k, then runs of k, the last one shorter -/
structure RunC (w0 : World) (blk k : Nat) (xs : List El) (a : Nat) (ps ts : List (List El)) (t : List El) (W : World) : Prop where
  row : Row w0 blk (ps.flatten ++ (ts.flatten ++ t)) W
  big : Full (2 * k) ps
  len : ps.flatten.length = a
  full : Full k ts
  short : t.length < k
  sorted : Srt.Sorted cmpEl t
  perm : (ps.flatten ++ (ts.flatten ++ t)).Perm xs
theorem RunB.done {w0 W : World} {blk k : Nat} {xs : List El} {ts : List (List El)} {t : List El} (h : RunB w0 blk k xs ts t W) (hk : xs.length ≤ k) : ∃ t, t.Perm xs ∧ Srt.Sorted cmpEl t ∧ Row w0 blk t W := by
  have hl := h.perm.length_eq
  cases ts with
  | nil => exact ⟨t, by simpa using h.perm, h.sorted, by simpa using h.row⟩
  | cons t1 ts =>
    obtain ⟨e1, e2⟩ := h.full t1 (by simp)
    have hz : (ts.flatten ++ t).length = 0 := by simp only [List.flatten_cons, List.length_append] at hl ⊢; omega
    have hz2 := List.length_eq_zero_iff.1 hz
    have e3 : (t1 :: ts).flatten ++ t = t1 := by rw [List.flatten_cons, List.append_assoc, hz2, List.append_nil]
    exact ⟨t1, by rw [← e3]; exact h.perm, e2, by rw [← e3]; exact h.row⟩

theorem RunC.merge {w0 W : World} {blk k a cap : Nat} {xs : List El} {ps ts : List (List El)} {t : List El} (I : RunC w0 blk k xs a ps ts t W) (hn : xs.length ≤ 1099511627776) (hG : ∀ x ∈ xs, Good w0 blk x) (hlt : a + 2 * k ≤ xs.length) :
    Calls Tryd.prog 61 #[.slice (some ⟨blk, 0, none⟩) xs.length cap, .int .i64 a, .int .i64 (a + k : Nat), .int .i64 (a + 2 * k : Nat), cmpV] W fun e w' => e = .returned (.tuple #[]) ∧ ∃ ps ts t, RunC w0 blk k xs (a + 2 * k) ps ts t w' := by
  have hl := I.perm.length_eq
  have h0 := I.len
  have hs := I.short
  match ts, I with
  | [], I => simp only [List.flatten_nil, List.nil_append, List.length_append] at hl; omega
  | [t1], I =>
    have := (I.full t1 (by simp)).1
    simp only [List.flatten_cons, List.flatten_nil, List.append_nil, List.length_append] at hl; omega
  | t1 :: t2 :: ts, I =>
    obtain ⟨a1, b1⟩ := I.full t1 (by simp)
    obtain ⟨a2, b2⟩ := I.full t2 (by simp)
    have ex : ps.flatten ++ ((t1 :: t2 :: ts).flatten ++ t) = ps.flatten ++ (t1 ++ (t2 ++ (ts.flatten ++ t))) := by simp
    have e0 : xs.length = (ps.flatten ++ ((t1 :: t2 :: ts).flatten ++ t)).length := hl.symm
    have hm : ∀ y, y ∈ t1 ∨ y ∈ t2 → Good w0 blk y := fun y hy => hG y (I.perm.subset (by rw [ex]; simp only [List.mem_append]; rcases hy with hy | hy <;> simp [hy]))
    have := symMerge_any w0 blk (2 * k) cap a (a + k) (a + 2 * k) _ ps.flatten t1 t2 (ts.flatten ++ t) W (by omega) I.row ex h0 (by omega) (by omega) (by omega) (by omega) (by rw [← e0]; exact hn) b1 b2 (fun y hy => hm y (Or.inl hy)) (fun y hy => hm y (Or.inr hy))
    rw [← e0] at this
    refine this.mono ?_
    rintro e w' ⟨rfl, q, q1, q2, q3⟩
    have q4 := q1.length_eq
    rw [List.length_append] at q4
    refine ⟨rfl, ps ++ [q], ts, t, by simpa using q3, I.big.snoc (by omega) q2, ?_, fun x hx => I.full x (by simp [hx]), I.short, I.sorted, ?_⟩
    · rw [List.flatten_append, List.length_append]; simp only [List.flatten_cons, List.flatten_nil, List.append_nil]; omega
    · have h6 : (ps.flatten ++ (q ++ (ts.flatten ++ t))).Perm (ps.flatten ++ ((t1 ++ t2) ++ (ts.flatten ++ t))) := List.Perm.append_left _ (List.Perm.append_right _ q1)
      have h7 := I.perm
      rw [ex] at h7
      rw [List.append_assoc] at h6
      have := h6.trans h7
      simpa using this
theorem RunC.last {w0 W : World} {blk k a cap : Nat} {xs : List El} {ps ts : List (List El)} {t : List El} (I : RunC w0 blk k xs a ps ts t W) (hn : xs.length ≤ 1099511627776) (hG : ∀ x ∈ xs, Good w0 blk x) (hlt : ¬ a + 2 * k ≤ xs.length) (hmn : a + k < xs.length) :
    Calls Tryd.prog 61 #[.slice (some ⟨blk, 0, none⟩) xs.length cap, .int .i64 a, .int .i64 (a + k : Nat), .int .i64 xs.length, cmpV] W fun e w' => e = .returned (.tuple #[]) ∧ ∃ ts t, RunB w0 blk (2 * k) xs ts t w' := by
  have hl := I.perm.length_eq
  have h0 := I.len
  have hs := I.short
  match ts, I with
  | [], I => simp only [List.flatten_nil, List.nil_append, List.length_append] at hl; omega
  | t1 :: t2 :: ts, I =>
    have := (I.full t1 (by simp)).1
    have := (I.full t2 (by simp)).1
    simp only [List.flatten_cons, List.length_append] at hl; omega
  | [t1], I =>
    obtain ⟨a1, b1⟩ := I.full t1 (by simp)
    have ex : ps.flatten ++ ([t1].flatten ++ t) = ps.flatten ++ (t1 ++ (t ++ [])) := by simp
    have e0 : xs.length = (ps.flatten ++ ([t1].flatten ++ t)).length := hl.symm
    have hl2 : a + k + t.length = xs.length := by rw [e0, ex]; simp only [List.length_append, List.length_nil]; omega
    have hm : ∀ y, y ∈ t1 ∨ y ∈ t → Good w0 blk y := fun y hy => hG y (I.perm.subset (by rw [ex]; simp only [List.mem_append]; rcases hy with hy | hy <;> simp [hy]))
    have := symMerge_any w0 blk (2 * k) cap a (a + k) xs.length _ ps.flatten t1 t [] W (by omega) I.row ex h0 (by omega) (by omega) (by omega) (by omega) (by rw [← e0]; exact hn) b1 I.sorted (fun y hy => hm y (Or.inl hy)) (fun y hy => hm y (Or.inr hy))
    rw [← e0] at this
    refine this.mono ?_
    rintro e w' ⟨rfl, q, q1, q2, q3⟩
    have q4 := q1.length_eq
    rw [List.length_append] at q4
    refine ⟨rfl, ps, q, by simpa using q3, I.big, by omega, q2, ?_⟩
    have h6 : (ps.flatten ++ q).Perm (ps.flatten ++ (t1 ++ t)) := List.Perm.append_left _ q1
    have h7 := I.perm
    rw [ex, List.append_nil] at h7
    exact h6.trans h7
theorem RunC.rest {w0 W : World} {blk k a : Nat} {xs : List El} {ps ts : List (List El)} {t : List El} (I : RunC w0 blk k xs a ps ts t W) (hlt : ¬ a + 2 * k ≤ xs.length) (hmn : ¬ a + k < xs.length) : ∃ ts t, RunB w0 blk (2 * k) xs ts t W := by
  have hl := I.perm.length_eq
  have h0 := I.len
  have hs := I.short
  match ts, I with
  | [], I => exact ⟨ps, t, by simpa using I.row, I.big, by omega, I.sorted, by simpa using I.perm⟩
  | t1 :: t2 :: ts, I =>
    have := (I.full t1 (by simp)).1
    have := (I.full t2 (by simp)).1
    simp only [List.flatten_cons, List.length_append] at hl; omega
  | [t1], I =>
    obtain ⟨a1, b1⟩ := I.full t1 (by simp)
    have hz : t = [] := List.length_eq_zero_iff.1 (by simp only [List.flatten_cons, List.flatten_nil, List.append_nil, List.length_append] at hl; omega)
    subst hz
    exact ⟨ps, t1, by simpa using I.row, I.big, by omega, b1, by simpa using I.perm⟩

set_option maxHeartbeats 8000000 in
theorem stable_any (blk cap : Nat) (xs : List El) (w0 w : World) (R : Row w0 blk xs w) (hn : xs.length ≤ 1099511627776) (hG : ∀ x ∈ xs, Good w0 blk x) :
    Calls Tryd.prog 53 #[.slice (some ⟨blk, 0, none⟩) xs.length cap, .int .i64 xs.length, cmpV] w fun e w' => e = .returned (.tuple #[]) ∧ ∃ t, t.Perm xs ∧ Srt.Sorted cmpEl t ∧ Row w0 blk t w' := by
  have HA0 : Hid (∃ ts r, RunA w0 blk xs 0 ts r w) := ⟨[], xs, by simpa using R, (fun t h => by cases h), rfl, by simp⟩
  have HG := Lib.hid hG
  clear R hG
  go_enter Tryd.func53, Tryd.ntmps53
  go_wp2_with fail
  go_loopg [7, 8] xs.length (fun g va vb wr => ∃ (a : Nat), va = .int .i64 a ∧ vb = .int .i64 (a + 20 : Nat) ∧ a ≤ xs.length ∧ xs.length - a ≤ g ∧ Hid (∃ ts r, RunA w0 blk xs a ts r wr))
  case atStart => exact ⟨0, rfl, rfl, by omega, by omega, HA0⟩
  case round =>
    clear HA0
    obtain ⟨a, rfl, rfl, hax, hg, HA⟩ := hrel
    by_cases hlt : a + 20 ≤ xs.length
    · have hltz : ((a + 20 : Nat) : Int) ≤ (xs.length : Int) := by omega
      obtain ⟨ts, r, I⟩ := HA.out
      have hl := I.perm.length_eq
      have hl2 := I.len
      rw [List.length_append] at hl
      have HC : Hid (Calls Tryd.prog 60 #[.slice (some ⟨blk, 0, none⟩) xs.length cap, .int .i64 a, .int .i64 (a + 20 : Nat), cmpV] wr fun e w' => e = .returned (.tuple #[]) ∧ ∃ ts r, RunA w0 blk xs (a + 20) ts r w') := by
        have e0 : xs.length = (ts.flatten ++ r).length := I.perm.length_eq.symm
        have := insertion_any blk cap a (a + 20) (ts.flatten ++ r) ts.flatten (r.take 20) (r.drop 20) w0 wr I.row (by rw [List.take_append_drop]) hl2 (by simp; omega) (by rw [← e0]; exact hn) (fun x hx => HG.out x (I.perm.subset (by simp [List.mem_of_mem_take hx])))
        rw [← e0] at this
        refine this.mono ?_
        rintro e w' ⟨rfl, t, h1, h2, h3⟩
        have h4 := h1.length_eq
        have h5 : t.length = 20 := by simp at h4; omega
        refine ⟨rfl, ts ++ [t], r.drop 20, by simpa using h3, I.full.snoc h5 h2, by rw [List.flatten_append, List.length_append]; simp only [List.flatten_cons, List.flatten_nil, List.append_nil]; omega, ?_⟩
        have h6 : (ts.flatten ++ (t ++ r.drop 20)).Perm (ts.flatten ++ (r.take 20 ++ r.drop 20)) := List.Perm.append_left _ (List.Perm.append_right _ h1)
        rw [List.take_append_drop] at h6
        have := h6.trans I.perm
        simpa using this
      clear I hl hl2 HA ts r
      go_wp2_with fail
      refine HC.out.mono ?_
      rintro e w2 ⟨rfl, h⟩
      have HN := Lib.hid h
      clear h HC
      go_wp2_with fail
      go_roundg (xs.length - (a + 20))
      case measure => omega
      case rel => exact ⟨a + 20, by first | rfl | go_num, by first | rfl | go_num, by omega, by omega, HN⟩
    · have hltz : ¬ ((a + 20 : Nat) : Int) ≤ (xs.length : Int) := by omega
      obtain ⟨ts, r, I⟩ := HA.out
      have hl := I.perm.length_eq
      have hl2 := I.len
      rw [List.length_append] at hl
      have HC : Hid (Calls Tryd.prog 60 #[.slice (some ⟨blk, 0, none⟩) xs.length cap, .int .i64 a, .int .i64 xs.length, cmpV] wr fun e w' => e = .returned (.tuple #[]) ∧ ∃ ts t, RunB w0 blk 20 xs ts t w') := by
        have e0 : xs.length = (ts.flatten ++ r).length := I.perm.length_eq.symm
        have := insertion_any blk cap a xs.length (ts.flatten ++ r) ts.flatten r [] w0 wr I.row (by simp) hl2 (by omega) (by rw [← e0]; exact hn) (fun x hx => HG.out x (I.perm.subset (by simp [hx])))
        rw [← e0] at this
        refine this.mono ?_
        rintro e w' ⟨rfl, t, h1, h2, h3⟩
        have h4 := h1.length_eq
        exact ⟨rfl, ts, t, by simpa using h3, I.full, by omega, h2, (List.Perm.append_left _ h1).trans I.perm⟩
      clear I hl hl2 HA ts r
      go_wp2_with fail
      refine HC.out.mono ?_
      rintro e w2 ⟨rfl, h⟩
      have HB0 := Lib.hid h
      clear h HC hltz hlt hax hg
      go_wp2_with fail
      go_loopg [6] xs.length (fun g vk wr => ∃ (k : Nat), vk = .int .i64 k ∧ 20 ≤ k ∧ k ≤ 4398046511104 ∧ xs.length - k ≤ g ∧ Hid (∃ ts t, RunB w0 blk k xs ts t wr))
      case atStart => exact ⟨20, rfl, by omega, by omega, by omega, HB0⟩
      case round =>
        clear HB0
        obtain ⟨k, rfl, hk, hk2, hg, HB⟩ := hrel
        by_cases hkn : k < xs.length
        · have HC0 : Hid (∃ ps ts t, RunC w0 blk k xs 0 ps ts t wr) := by
            obtain ⟨ts, t, I⟩ := HB.out
            exact ⟨[], ts, t, by simpa using I.row, (fun t h => by cases h), rfl, I.full, I.short, I.sorted, by simpa using I.perm⟩
          clear HB
          have hw2 : IntKind.i64.wrap (2 * (k : Int)) = ((2 * k : Nat) : Int) := by rw [IntWalk.i64_in _ (by omega)]; omega
          go_wp2_with fail
          clear hw2
          go_loopg [7, 8] xs.length (fun g va vb wr => ∃ (a : Nat), va = .int .i64 a ∧ vb = .int .i64 (a + 2 * k : Nat) ∧ a ≤ xs.length ∧ xs.length - a ≤ g ∧ Hid (∃ ps ts t, RunC w0 blk k xs a ps ts t wr))
          case atStart => exact ⟨0, rfl, by first | rfl | go_num | (congr 1; omega), by omega, by omega, HC0⟩
          case round =>
            clear HC0
            obtain ⟨a, rfl, rfl, hax, hg2, HA⟩ := hrel
            by_cases hlt : a + 2 * k ≤ xs.length
            · have hltz : ((a + 2 * k : Nat) : Int) ≤ (xs.length : Int) := by omega
              have HC : Hid (Calls Tryd.prog 61 #[.slice (some ⟨blk, 0, none⟩) xs.length cap, .int .i64 a, .int .i64 (a + k : Nat), .int .i64 (a + 2 * k : Nat), cmpV] wr fun e w' => e = .returned (.tuple #[]) ∧ ∃ ps ts t, RunC w0 blk k xs (a + 2 * k) ps ts t w') := by
                obtain ⟨ps, ts, t, I⟩ := HA.out
                exact I.merge hn HG.out hlt
              clear HA
              go_wp2_with fail
              refine HC.out.mono ?_
              rintro e w3 ⟨rfl, h⟩
              have HN := Lib.hid h
              clear h HC
              go_wp2_with fail
              go_roundg (xs.length - (a + 2 * k))
              case measure => omega
              case rel => exact ⟨a + 2 * k, by first | rfl | go_num, by first | rfl | go_num | (congr 1; omega), by omega, by omega, HN⟩
            · have hltz : ¬ ((a + 2 * k : Nat) : Int) ≤ (xs.length : Int) := by omega
              by_cases hmn : a + k < xs.length
              · have HC : Hid (Calls Tryd.prog 61 #[.slice (some ⟨blk, 0, none⟩) xs.length cap, .int .i64 a, .int .i64 (a + k : Nat), .int .i64 xs.length, cmpV] wr fun e w' => e = .returned (.tuple #[]) ∧ ∃ ts t, RunB w0 blk (2 * k) xs ts t w') := by
                  obtain ⟨ps, ts, t, I⟩ := HA.out
                  exact I.last hn HG.out hlt hmn
                clear HA
                go_wp2_with fail
                refine HC.out.mono ?_
                rintro e w3 ⟨rfl, h⟩
                have HN := Lib.hid h
                clear h HC
                go_wp2_with fail
                go_roundg (xs.length - 2 * k)
                case measure => omega
                case rel => exact ⟨2 * k, by first | rfl | go_num | (congr 1; omega), by omega, by omega, by omega, HN⟩
              · have HN : Hid (∃ ts t, RunB w0 blk (2 * k) xs ts t wr) := by
                  obtain ⟨ps, ts, t, I⟩ := HA.out
                  exact I.rest hlt hmn
                clear HA
                go_wp2_with fail
                go_roundg (xs.length - 2 * k)
                case measure => omega
                case rel => exact ⟨2 * k, by first | rfl | go_num | (congr 1; omega), by omega, by omega, by omega, HN⟩
        · have HF := Lib.hid (by obtain ⟨ts, t, I⟩ := HB.out; exact I.done (by omega))
          clear HB
          go_wp2_with fail
          go_end0
          exact ⟨rfl, HF.out⟩

set_option maxHeartbeats 4000000 in
theorem sortStable_any (blk cap : Nat) (xs : List El) (w0 w : World) (R : Row w0 blk xs w) (hn : xs.length ≤ 1099511627776) (hG : ∀ x ∈ xs, Good w0 blk x) :
    Calls Tryd.prog 41 #[.slice (some ⟨blk, 0, none⟩) xs.length cap, cmpV] w fun e w' => e = .returned (.tuple #[]) ∧ ∃ t, t.Perm xs ∧ Srt.Sorted cmpEl t ∧ Row w0 blk t w' := by
  have HR := Lib.hid R
  have HG := Lib.hid hG
  clear R hG
  go_enter Tryd.func41, Tryd.ntmps41
  go_wp2_with fail
  refine (stable_any blk cap xs w0 _ HR.out hn HG.out).mono ?_
  rintro e w2 ⟨rfl, h⟩
  have H := Lib.hid h
  clear h
  go_wp2_with fail
  go_end0
  exact ⟨rfl, H.out⟩

set_option maxHeartbeats 4000000 in
theorem closure_any (W : World) (x y : El) (bx : Nat) (hbx : W.cell? ⟨bx, 0, none⟩ = some cmpV)
    (hc : ∀ W', Below W.heap.size W W' → Calls Tryd.prog 8 #[x.val, y.val] W' fun e w' => e = .returned (.int .i64 (cmpEl x y)) ∧ Below W'.heap.size W' w') :
    Calls Tryd.prog 43 #[x.val, y.val, .pointer (some ⟨bx, 0, none⟩)] W fun e w' => e = .returned (.bool (cmpEl x y == 0)) ∧ Below W.heap.size W w' := by
  have HC := Lib.hid hc
  have hlt : bx < W.heap.size := block_lt_of_cell hbx
  clear hc
  unfold El.val Fd.val
  go_enter Tryd.func43, Tryd.ntmps43
  go_wp2_with fail
  refine (HC.out _ (by go_grown)).mono ?_
  rintro e w2 ⟨rfl, hb2⟩
  have B2 : Hid (Below W.heap.size W w2) := over hb2 (by go_grown) (by go_size)
  clear hb2
  go_wp2_with fail
  go_ret
  exact ⟨rfl, B2.out⟩

/-- the list without what equals its forerunner, behind an element -/
def compactFrom (p : El) : List El → List El
  | [] => []
  | x :: xs => if cmpEl x p == 0 then compactFrom x xs else x :: compactFrom x xs
def compact : List El → List El
  | [] => []
  | x :: xs => x :: compactFrom x xs

theorem Row.short {w0 W : World} {blk : Nat} {xs ys : List El} (h : Row w0 blk (xs ++ ys) W) : Row w0 blk xs W :=
  ⟨h.os, h.tape, h.output, h.size, h.blt, h.others, fun i hi => by
    have := h.six i (by simp; omega)
    rwa [List.getElem_append_left hi] at this, fun o ho => h.free o (by simp; omega)⟩
end Go.Proofs.YtffmeglcakcpdaaDoor
