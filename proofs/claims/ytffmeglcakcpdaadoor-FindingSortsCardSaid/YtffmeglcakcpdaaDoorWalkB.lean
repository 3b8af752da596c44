/- Contracts of comparePlaces, slices.CompareFunc and Compare of package finding, and of the reference's Compare. -/
import Derived.Test.YtffmeglcakcpdaaDoorWalkA
import Derived.Lib.QuietBelow
import Derived.BigQuiet
namespace Go.Proofs.YtffmeglcakcpdaaDoor
open Go.RowKit

set_option maxHeartbeats 400000 in
theorem comparePlaces_any (a b : Pl) (w : World) :
    Calls Tryd.prog 19 #[a.val, b.val] w fun e w' => e = .returned (.int .i64 (cmpPl a b)) ∧ Below w.heap.size w w' := by
  unfold Pl.val
  generalize hx : Lib.compareBytes a.cls.data.toList b.cls.data.toList = x
  generalize hy : Lib.compareBytes a.meth.data.toList b.meth.data.toList = y
  have HX := Lib.hid hx.symm
  have HY := Lib.hid hy.symm
  clear hx hy
  go_enter Tryd.func19, Tryd.ntmps19
  go_wp2_with fail
  refine (Tryd.strings_Compare _ _ _).mono ?_
  rintro e w' ⟨rfl, rfl⟩
  rw [← HX.out]
  by_cases h : x = 0
  · have h1 : (x != 0) = false := by simp [h]
    have H := Lib.hid h
    clear h
    go_wp2_with fail
    refine (Tryd.strings_Compare _ _ _).mono ?_
    rintro e w' ⟨rfl, rfl⟩
    rw [← HY.out]
    by_cases h2 : y = 0
    · have h3 : (y != 0) = false := by simp [h2]
      have H2 := Lib.hid h2
      clear h2
      go_wp2_with fail
      refine (Tryd.cmp_Compare_int _ _ _).mono ?_
      rintro e w' ⟨rfl, rfl⟩
      go_wp2_with fail
      go_ret
      exact ⟨ret_int (cmpPl_3 HX.out H.out HY.out H2.out), by go_grown⟩
    · have h3 : (y != 0) = true := by simp [h2]
      have H2 := Lib.hid h2
      clear h2
      go_wp2_with fail
      go_ret
      exact ⟨ret_int (cmpPl_2 HX.out H.out HY.out H2.out), by go_grown⟩
  · have h1 : (x != 0) = true := by simp [h]
    have H := Lib.hid h
    clear h
    go_wp2_with fail
    go_ret
    exact ⟨ret_int (cmpPl_1 HX.out H.out), by go_grown⟩

/-- the places of a slice lie in memory -/
def PathAt (w : World) (a : Option Addr) (ps : List Pl) : Prop :=
  ps = [] ∨ ∃ b off, a = some ⟨b, off, none⟩ ∧ b < w.heap.size ∧ ∀ i (h : i < ps.length),
    w.cell? ⟨b, off + i * 3, none⟩ = some (.string ps[i].cls) ∧ w.cell? ⟨b, off + i * 3 + 1, none⟩ = some (.string ps[i].meth) ∧ w.cell? ⟨b, off + i * 3 + 2, none⟩ = some (.int .i64 ps[i].ins)

theorem PathAt.below {w w' : World} {a : Option Addr} {ps : List Pl} (h : PathAt w a ps) (hb : Below w.heap.size w w') : PathAt w' a ps := by
  rcases h with h | ⟨b, off, h1, h2, h3⟩
  · exact Or.inl h
  · refine Or.inr ⟨b, off, h1, Nat.lt_of_lt_of_le h2 hb.size, fun i hi => ?_⟩
    rw [hb.cell (p := ⟨b, _, none⟩) h2, hb.cell (p := ⟨b, _, none⟩) h2, hb.cell (p := ⟨b, _, none⟩) h2]
    exact h3 i hi

def cmpPath : List Pl → List Pl → Int
  | [], [] => 0
  | [], _ :: _ => -1
  | _ :: _, [] => 1
  | x :: xs, y :: ys => if cmpPl x y = 0 then cmpPath xs ys else cmpPl x y

theorem cmpPath_step {ps qs : List Pl} {k : Nat} (h1 : k < ps.length) (h2 : k < qs.length) (h : cmpPl ps[k] qs[k] = 0) :
    cmpPath (ps.drop k) (qs.drop k) = cmpPath (ps.drop (k + 1)) (qs.drop (k + 1)) := by
  rw [List.drop_eq_getElem_cons h1, List.drop_eq_getElem_cons h2, cmpPath, if_pos h]
theorem cmpPath_stop {ps qs : List Pl} {k : Nat} (h1 : k < ps.length) (h2 : k < qs.length) (h : cmpPl ps[k] qs[k] ≠ 0) :
    cmpPath (ps.drop k) (qs.drop k) = cmpPl ps[k] qs[k] := by
  rw [List.drop_eq_getElem_cons h1, List.drop_eq_getElem_cons h2, cmpPath, if_neg h]
theorem cmpPath_long {ps qs : List Pl} {k : Nat} (h1 : k < ps.length) (h2 : ¬ k < qs.length) :
    cmpPath (ps.drop k) (qs.drop k) = 1 := by
  rw [List.drop_eq_getElem_cons h1, List.drop_eq_nil_of_le (by omega : qs.length ≤ k), cmpPath]
theorem cmpPath_short {ps qs : List Pl} {k : Nat} (h1 : ¬ k < ps.length) (h2 : k < qs.length) :
    cmpPath (ps.drop k) (qs.drop k) = -1 := by
  rw [List.drop_eq_getElem_cons h2, List.drop_eq_nil_of_le (by omega : ps.length ≤ k), cmpPath]
theorem cmpPath_end {ps qs : List Pl} {k : Nat} (h1 : ¬ k < ps.length) (h2 : ¬ k < qs.length) :
    cmpPath (ps.drop k) (qs.drop k) = 0 := by
  rw [List.drop_eq_nil_of_le (by omega : ps.length ≤ k), List.drop_eq_nil_of_le (by omega : qs.length ≤ k), cmpPath]

theorem PathAt.get {w : World} {a : Option Addr} {ps : List Pl} (h : PathAt w a ps) {k : Nat} (hk : k < ps.length) :
    ∃ b off, a = some ⟨b, off, none⟩ ∧ b < w.heap.size ∧ w.cell? ⟨b, off + k * 3, none⟩ = some (.string ps[k].cls) ∧ w.cell? ⟨b, off + k * 3 + 1, none⟩ = some (.string ps[k].meth) ∧ w.cell? ⟨b, off + k * 3 + 2, none⟩ = some (.int .i64 ps[k].ins) := by
  rcases h with rfl | ⟨b, off, h1, h2, h3⟩
  · simp at hk
  · exact ⟨b, off, h1, h2, h3 k hk⟩

set_option maxHeartbeats 1000000 in
theorem compareFunc_any (ps qs : List Pl) (a a' : Option Addr) (cp cp' : Nat) (w : World) (hm : ps.length ≤ 281474976710656) (hp : PathAt w a ps) (hp' : PathAt w a' qs) :
    Calls Tryd.prog 22 #[.slice a ps.length cp, .slice a' qs.length cp', .func (.func 19) #[] #[]] w fun e w' => e = .returned (.int .i64 (cmpPath ps qs)) ∧ Below w.heap.size w w' := by
  have HC := Lib.hid hp
  have HC' := Lib.hid hp'
  clear hp hp'
  go_enter Tryd.func22, Tryd.ntmps22
  go_wp2_with fail
  go_loopw [13] (fun i wr => ∃ k : Nat, k ≤ ps.length ∧ i = .int .i64 k ∧ Below w.heap.size w wr ∧ Hid (cmpPath ps qs = cmpPath (ps.drop k) (qs.drop k))) (fun i _ => ps.length - (intOf i).toNat)
  case atStart => exact ⟨0, Nat.zero_le _, rfl, Below.refl _ _, by simp [Hid]⟩
  case round =>
    obtain ⟨k, hk, rfl, hb, HK⟩ := hrel
    have hsz := hb.size
    by_cases hlt : k < ps.length
    · obtain ⟨b, off, ha, hbs, c0, c1, c2⟩ := (HC.out.below hb).get hlt
      by_cases hlt' : k < qs.length
      · obtain ⟨b', off', ha', hbs', d0, d1, d2⟩ := (HC'.out.below hb).get hlt'
        subst ha
        subst ha'
        go_wp2_with fail
        refine (comparePlaces_any ps[k] qs[k] _).mono ?_
        rintro e w1 ⟨rfl, hb1⟩
        have hz1 := hb1.size
        have HB1 := Lib.hid hb1
        clear hb1
        by_cases h : cmpPl ps[k] qs[k] = 0
        · have h1 : (cmpPl ps[k] qs[k] != 0) = false := by simp [h]
          have H := Lib.hid h
          clear h
          go_wp2_with fail
          go_roundw
          case rel => exact ⟨k + 1, by omega, by go_num, over HB1.out (by go_grown) (by go_size), HK.out.trans (cmpPath_step hlt hlt' H.out)⟩
          case measure => simp [intOf]; omega
        · have h1 : (cmpPl ps[k] qs[k] != 0) = true := by simp [h]
          have H := Lib.hid h
          clear h
          go_wp2_with fail
          go_ret
          exact ⟨ret_int (by rw [HK.out, cmpPath_stop hlt hlt' H.out]), over HB1.out (by go_grown) (by go_size)⟩
      · subst ha
        go_wp2_with fail
        go_ret
        exact ⟨ret_int (by rw [HK.out, cmpPath_long hlt hlt']), by go_grown⟩
    · by_cases hlt' : k < qs.length
      · have hl : ps.length < qs.length := by omega
        go_wp2_with fail
        go_ret
        exact ⟨ret_int (by rw [HK.out, cmpPath_short hlt hlt']), by go_grown⟩
      · have hl : ¬ ps.length < qs.length := by omega
        go_wp2_with fail
        go_ret
        exact ⟨ret_int (by rw [HK.out, cmpPath_end hlt hlt']), by go_grown⟩
end Go.Proofs.YtffmeglcakcpdaaDoor
