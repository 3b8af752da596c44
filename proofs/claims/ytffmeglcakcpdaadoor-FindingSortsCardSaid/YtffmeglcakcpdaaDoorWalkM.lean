/- symMergeCmpFunc over a row of findings. -/
import Derived.Test.YtffmeglcakcpdaaDoorWalkL
set_option linter.unusedVariables false
namespace Go.Proofs.YtffmeglcakcpdaaDoor
open Go.RowKit

/-! one element on the left -/
structure LeftAt (w0 : World) (blk n : Nat) (P v S : List El) (x : El) (k : Nat) (W : World) : Prop where
  row : Row w0 blk (P ++ (v.take k ++ x :: (v.drop k ++ S))) W
theorem left_next {P v S : List El} {x : El} {k a : Nat} (hP : P.length = a) (hk : k < v.length) :
    Srt.exch (P ++ (v.take k ++ x :: (v.drop k ++ S))) (a + k) (a + k + 1) = P ++ (v.take (k + 1) ++ x :: (v.drop (k + 1) ++ S)) := by
  have h := Srt.exch_seg (P ++ v.take k) [] (v.drop (k + 1) ++ S) x v[k]
  have e1 : (P ++ v.take k).length = a + k := by simp; omega
  rw [e1, List.length_nil, Nat.add_zero, List.nil_append, List.nil_append] at h
  rw [List.drop_eq_getElem_cons hk, List.take_succ_eq_append_getElem hk]
  simp only [List.append_assoc, List.cons_append, List.nil_append] at h ⊢
  exact h
theorem left_get {P v S : List El} {x : El} {k a : Nat} (hP : P.length = a) (hk : k ≤ v.length) : (P ++ (v.take k ++ x :: (v.drop k ++ S)))[a + k]! = x := by
  have := get_seg (P ++ v.take k) (v.drop k ++ S) x
  rw [show (P ++ v.take k).length = a + k by simp; omega] at this
  simpa using this
theorem left_get1 {P v S : List El} {x : El} {k a : Nat} (hP : P.length = a) (hk : k < v.length) : (P ++ (v.take k ++ x :: (v.drop k ++ S)))[a + k + 1]! = v[k] := by
  have := get_seg (P ++ (v.take k ++ [x])) (v.drop (k + 1) ++ S) v[k]
  rw [show (P ++ (v.take k ++ [x])).length = a + k + 1 by simp; omega] at this
  rw [List.drop_eq_getElem_cons hk]
  simp only [List.append_assoc, List.cons_append, List.nil_append] at this ⊢
  exact this
theorem left_len {P v S : List El} {x : El} {k : Nat} : (P ++ (v.take k ++ x :: (v.drop k ++ S))).length = (P ++ (x :: (v ++ S))).length := by
  simp only [List.length_append, List.length_cons, List.length_take, List.length_drop]; omega
theorem insert_sorted {v : List El} {x : El} {c : Nat} (hs : Srt.Sorted cmpEl v) (h1 : ∀ q (hq : q < v.length), q < c → Srt.Le cmpEl v[q] x) (h2 : ∀ q (hq : q < v.length), c ≤ q → Srt.Le cmpEl x v[q]) : Srt.Sorted cmpEl (v.take c ++ x :: v.drop c) := by
  have e : Srt.Sorted cmpEl (v.take c ++ v.drop c) := by rw [List.take_append_drop]; exact hs
  obtain ⟨p1, p2, p3⟩ := List.pairwise_append.1 e
  refine List.pairwise_append.2 ⟨p1, List.pairwise_cons.2 ⟨fun y hy => ?_, p2⟩, fun y hy z hz => ?_⟩
  · obtain ⟨i, hi, rfl⟩ := List.mem_iff_getElem.1 hy
    rw [List.getElem_drop]
    exact h2 _ _ (by omega)
  · rcases List.mem_cons.1 hz with rfl | hz
    · obtain ⟨i, hi, rfl⟩ := List.mem_iff_getElem.1 hy
      rw [List.getElem_take]
      exact h1 _ _ (by simp at hi; omega)
    · exact p3 y hy z hz
theorem insert_perm {v : List El} {x : El} {c : Nat} : (v.take c ++ x :: v.drop c).Perm (x :: v) := by
  have : (v.take c ++ x :: v.drop c).Perm (x :: (v.take c ++ v.drop c)) := List.perm_middle
  rwa [List.take_append_drop] at this

set_option maxRecDepth 100000 in
set_option maxHeartbeats 8000000 in
theorem symMerge_left (blk cap a m b : Nat) (xs P v S : List El) (x : El) (w0 w : World) (R : Row w0 blk xs w) (hx : xs = P ++ (x :: (v ++ S))) (hP : P.length = a) (hm : m = a + 1) (hb : a + 1 + v.length = b) (hv : 0 < v.length) (hn : xs.length ≤ 1099511627776) (hs : Srt.Sorted cmpEl v) (gx : Good w0 blk x) (hG : ∀ y ∈ v, Good w0 blk y) :
    Calls Tryd.prog 61 #[.slice (some ⟨blk, 0, none⟩) xs.length cap, .int .i64 a, .int .i64 m, .int .i64 b, cmpV] w fun e w' => e = .returned (.tuple #[]) ∧ ∃ t, t.Perm (x :: v) ∧ Srt.Sorted cmpEl t ∧ Row w0 blk (P ++ (t ++ S)) w' := by
  have hbx : b ≤ xs.length := by rw [hx]; simp; omega
  have HX0 := Lib.hid hx
  have HP0 := Lib.hid hP
  have HR0 := Lib.hid R
  have HG := Lib.hid hG
  have GX := Lib.hid gx
  have HS := Lib.hid hs
  have HVB := Lib.hid hb
  have hva : v.length = b - (a + 1) := by omega
  have HVA := Lib.hid hva
  have hab : a + 1 < b := by omega
  have hma : (m : Int) - (a : Int) = 1 := by omega
  have hm1 : a + 1 ≤ m := by omega
  have hm2 : m ≤ a + 1 := by omega
  clear R hx hP hG gx hs hb hva hv hm
  go_enter Tryd.func61, Tryd.ntmps61
  go_wp2_with fail
  go_loopg [10, 11] b (fun g vi vj wr => ∃ (i j : Nat), vi = .int .i64 i ∧ vj = .int .i64 j ∧ a + 1 ≤ i ∧ i ≤ j ∧ j ≤ b ∧ j - i ≤ g ∧ Hid (Below w.heap.size w wr) ∧ Hid (∀ q (hq : q < v.length), a + 1 + q < i → cmpEl v[q] x < 0) ∧ Hid (∀ q (hq : q < v.length), j ≤ a + 1 + q → 0 ≤ cmpEl v[q] x))
  case atStart => exact ⟨m, b, rfl, rfl, by omega, by omega, by omega, by omega, Below.refl _ _, fun q hq h => by omega, fun q hq h => by have := HVA.out; omega⟩
  case round =>
    obtain ⟨i, j, rfl, rfl, hi, hij, hj, hg, HB, HLO, HHI⟩ := hrel
    by_cases hlt : i < j
    · have hm3 : i ≤ (i + j) / 2 := by omega
      have hm4 : (i + j) / 2 < j := by omega
      have hmid : ((i : Int) + (j : Int)) / 2 = (((i + j) / 2 : Nat) : Int) := by omega
      generalize (i + j) / 2 = h at *
      have hq : h - (a + 1) < v.length := by have := HVA.out; omega
      have R1 := HR0.out.below HB.out
      have e1 : xs[h]! = v[h - (a + 1)] := by
        have hh : h < xs.length := by omega
        rw [Srt.get_at hh]
        have hx := HX0.out
        have hP := HP0.out
        subst hx
        rw [List.getElem_append_right (by omega)]
        have e : h - P.length = (h - (a + 1)) + 1 := by omega
        simp only [e, List.getElem_cons_succ]
        rw [List.getElem_append_left hq]
      have e2 : xs[a]! = x := by
        rw [HX0.out, ← HP0.out]; exact get_seg P (v ++ S) x
      have s1 := R1.six! (show h < xs.length by omega)
      have s2 := R1.six! (show a < xs.length by omega)
      rw [e1] at s1
      rw [e2] at s2
      have gy : Good w0 blk v[h - (a + 1)] := HG.out _ (List.getElem_mem hq)
      have HQ := Lib.hid (R1.cmpQ gy GX.out)
      have LO2 : Hid (cmpEl v[h - (a + 1)] x < 0 → ∀ q (hq : q < v.length), a + 1 + q < h + 1 → cmpEl v[q] x < 0) := fun hc q hq' hlt' => by
        have hle := HS.out.at el_cmp.toCmp (show q ≤ h - (a + 1) by omega) hq
        have hle' : cmpEl v[q] v[h - (a + 1)] ≤ 0 := by have := el_cmp.anti v[q] v[h - (a + 1)]; unfold Srt.Le at hle; omega
        by_cases e0 : cmpEl v[q] v[h - (a + 1)] = 0
        · exact el_cmp.zero_left e0 hc
        · exact el_cmp.lt_lt (by omega) hc
      have HI2 : Hid (0 ≤ cmpEl v[h - (a + 1)] x → ∀ q (hq : q < v.length), h ≤ a + 1 + q → 0 ≤ cmpEl v[q] x) := fun hc q hq' hle0 => by
        have hle := HS.out.at el_cmp.toCmp (show h - (a + 1) ≤ q by omega) hq'
        have := el_cmp.toCmp.trans x v[h - (a + 1)] v[q] (by omega) hle
        omega
      clear e1 e2 gy R1
      generalize v[h - (a + 1)] = y at *
      obtain ⟨p0, p1, p2, p3, p4, p5⟩ := s1
      obtain ⟨q0, q1, q2, q3, q4, q5⟩ := s2
      have r0 := cell_regrown p0
      have r1 := cell_regrown p1
      have r2 := cell_regrown p2
      have r3 := cell_regrown p3
      have r4 := cell_regrown p4
      have r5 := cell_regrown p5
      have v0 := cell_regrown q0
      have v1 := cell_regrown q1
      have v2 := cell_regrown q2
      have v3 := cell_regrown q3
      have v4 := cell_regrown q4
      have v5 := cell_regrown q5
      clear p0 p1 p2 p3 p4 p5 q0 q1 q2 q3 q4 q5
      have hi1 : (h : Int) < (xs.length : Int) := by omega
      have hi2 : (a : Int) < (xs.length : Int) := by omega
      go_wp2_with fail
      refine wp_region_below (by kernel_rfl) (by kernel_rfl) ?_
      repeat (quiet_step (exact HQ.out _ _))
      refine wpQuiet_nil ?_
      clear r0 r1 r2 r3 r4 r5 v0 v1 v2 v3 v4 v5
      intro wq hq2
      have HB2 : Hid (Below w.heap.size w wq) := over hq2.out HB.out HB.out.size
      by_cases hlv : cmpEl y x < 0
      · have hlz : decide (cmpEl y x < 0) = true := decide_eq_true hlv
        have LO3 := Lib.hid (LO2.out hlv)
        clear LO2 HI2 HLO HQ
        go_wp2_with fail
        go_roundg (j - (h + 1))
        case measure => omega
        case rel => exact ⟨h + 1, j, by go_num, rfl, by omega, by omega, by omega, by omega, HB2, LO3, HHI⟩
      · have hlz : decide (cmpEl y x < 0) = false := decide_eq_false hlv
        have HI3 := Lib.hid (HI2.out (by omega))
        clear LO2 HI2 HHI HQ
        go_wp2_with fail
        go_roundg (h - i)
        case measure => omega
        case rel => exact ⟨i, h, rfl, by go_num, by omega, by omega, by omega, by omega, HB2, HLO, HI3⟩
    · obtain rfl : i = j := by omega
      have ST : Hid (Row w0 blk (P ++ (v.take 0 ++ x :: (v.drop 0 ++ S))) wr) := Lib.hid (by
        have := HR0.out.below HB.out
        rw [HX0.out] at this
        simpa using this)
      have HFIN : Hid (Srt.Sorted cmpEl (v.take (i - (a + 1)) ++ x :: v.drop (i - (a + 1)))) := insert_sorted HS.out (fun q hq hlt => el_cmp.toCmp.le_of_lt (HLO.out q hq (by omega))) (fun q hq hle => by have := HHI.out q hq (by omega); unfold Srt.Le; omega)
      have hiv : i - (a + 1) ≤ v.length := by have := HVA.out; omega
      have hn2 : xs.length = (P ++ (x :: (v ++ S))).length := by rw [HX0.out]
      have HLEN0 := Lib.hid hn2
      clear HLO HHI HB hn2 hlt hij
      have hi1 : IntKind.i64.wrap ((i : Int) - 1) = (i : Int) - 1 := IntWalk.i64_in _ (by omega)
      go_wp2_with fail
      clear hi1
      go_loopg [13] (i + 1) (fun g vk wr => ∃ (k : Nat), vk = .int .i64 (a + k : Nat) ∧ k ≤ i - (a + 1) ∧ i - (a + 1) - k ≤ g ∧ Hid (Row w0 blk (P ++ (v.take k ++ x :: (v.drop k ++ S))) wr))
      case atStart => exact ⟨0, rfl, by omega, by omega, ST⟩
      case round =>
        clear ST
        obtain ⟨k, rfl, hk, hg, HR⟩ := hrel
        by_cases hlt : k < i - (a + 1)
        · have hkv : k < v.length := by omega
          have e1 : (P ++ (v.take k ++ x :: (v.drop k ++ S)))[a + k]! = x := left_get HP0.out (by omega)
          have e2 : (P ++ (v.take k ++ x :: (v.drop k ++ S)))[a + k + 1]! = v[k] := left_get1 HP0.out hkv
          have hlen : (P ++ (v.take k ++ x :: (v.drop k ++ S))).length = xs.length := left_len.trans HLEN0.out.symm
          have HLEN := Lib.hid hlen
          have HE := Lib.hid (HR.out.exch (a + k) (a + k + 1) (by omega) (by omega))
          rw [e1, e2, left_next HP0.out hkv] at HE
          have s1 := HR.out.six! (show a + k < _ by omega)
          have s2 := HR.out.six! (show a + k + 1 < _ by omega)
          rw [e1] at s1
          rw [e2] at s2
          obtain ⟨p0, p1, p2, p3, p4, p5⟩ := s1
          obtain ⟨q0, q1, q2, q3, q4, q5⟩ := s2
          have f0 := HR.out.free ((a + k) * 6) (by have := HLEN.out; omega)
          have f1 := HR.out.free ((a + k) * 6 + 1) (by have := HLEN.out; omega)
          have f2 := HR.out.free ((a + k) * 6 + 2) (by have := HLEN.out; omega)
          have f3 := HR.out.free ((a + k) * 6 + 3) (by have := HLEN.out; omega)
          have f4 := HR.out.free ((a + k) * 6 + 4) (by have := HLEN.out; omega)
          have f5 := HR.out.free ((a + k) * 6 + 5) (by have := HLEN.out; omega)
          have g0 := HR.out.free ((a + k + 1) * 6) (by have := HLEN.out; omega)
          have g1 := HR.out.free ((a + k + 1) * 6 + 1) (by have := HLEN.out; omega)
          have g2 := HR.out.free ((a + k + 1) * 6 + 2) (by have := HLEN.out; omega)
          have g3 := HR.out.free ((a + k + 1) * 6 + 3) (by have := HLEN.out; omega)
          have g4 := HR.out.free ((a + k + 1) * 6 + 4) (by have := HLEN.out; omega)
          have g5 := HR.out.free ((a + k + 1) * 6 + 5) (by have := HLEN.out; omega)
          clear HR e1 e2 hlen HLEN
          generalize v[k] = y at *
          have i1 : (0 : Int) ≤ (a : Int) + (k : Int) := by omega
          have i2 : (a : Int) + (k : Int) < (xs.length : Int) := by omega
          have i3 : ((a : Int) + (k : Int)).toNat = a + k := by omega
          have j1 : (0 : Int) ≤ (a : Int) + (k : Int) + 1 := by omega
          have j2 : (a : Int) + (k : Int) + 1 < (xs.length : Int) := by omega
          have j3 : ((a : Int) + (k : Int) + 1).toNat = a + k + 1 := by omega
          have j4 : IntKind.i64.wrap ((a : Int) + (k : Int) + 1) = (a : Int) + (k : Int) + 1 := IntWalk.i64_in _ (by omega)
          have hc1 : (a : Int) + (k : Int) < (i : Int) - 1 := by omega
          have hc2 : decide ((a : Int) + (k : Int) < (i : Int) - 1) = true := decide_eq_true hc1
          go_wp2_with fail
          go_region
          change Exit.inBlock _ _ _ _ ((wr.setCells blk ((a + k) * 6) y.cells).setCells blk ((a + k + 1) * 6) x.cells).drew
          generalize ((wr.setCells blk ((a + k) * 6) y.cells).setCells blk ((a + k + 1) * 6) x.cells).drew = w2 at *
          clear i1 i2 i3 j1 j2 j3 p0 p1 p2 p3 p4 p5 q0 q1 q2 q3 q4 q5 f0 f1 f2 f3 f4 f5 g0 g1 g2 g3 g4 g5 hc1 hc2
          go_wp2_with fail
          go_roundg (i - (a + 1) - (k + 1))
          case measure => omega
          case rel => exact ⟨k + 1, by go_num, by omega, by omega, HE⟩
        · obtain rfl : k = i - (a + 1) := by omega
          have HF : Hid (∃ t, t.Perm (x :: v) ∧ Srt.Sorted cmpEl t ∧ Row w0 blk (P ++ (t ++ S)) wr) := ⟨_, insert_perm, HFIN.out, by have := HR.out; simpa using this⟩
          have hc1 : ¬ ((a + (i - (a + 1)) : Nat) : Int) < (i : Int) - 1 := by omega
          have hc2 : decide (((a + (i - (a + 1)) : Nat) : Int) < (i : Int) - 1) = false := decide_eq_false hc1
          clear HR HFIN
          generalize a + (i - (a + 1)) = kk at *
          go_wp2_with fail
          refine bodyPost_ret (results_none rfl _ _ _) rfl ?_
          exact ⟨rfl, HF.out⟩

/-! one element on the right -/
theorem right_next {P v S : List El} {x : El} {k a : Nat} (hP : P.length = a) (hk : k < v.length) :
    Srt.exch (P ++ (v.take (k + 1) ++ x :: (v.drop (k + 1) ++ S))) (a + k + 1) (a + k) = P ++ (v.take k ++ x :: (v.drop k ++ S)) := by
  have h := Srt.exch_seg (P ++ v.take k) [] (v.drop (k + 1) ++ S) v[k] x
  have e1 : (P ++ v.take k).length = a + k := by simp; omega
  rw [e1, List.length_nil, Nat.add_zero, List.nil_append, List.nil_append] at h
  rw [List.drop_eq_getElem_cons hk, List.take_succ_eq_append_getElem hk]
  simp only [List.append_assoc, List.cons_append, List.nil_append] at h ⊢
  rw [← h]
  unfold Srt.exch; rw [List.set_comm _ _ (by omega)]
theorem right_get {P v S : List El} {x : El} {k a : Nat} (hP : P.length = a) (hk : k < v.length) : (P ++ (v.take (k + 1) ++ x :: (v.drop (k + 1) ++ S)))[a + k]! = v[k] := by
  have := get_seg (P ++ v.take k) (x :: (v.drop (k + 1) ++ S)) v[k]
  rw [show (P ++ v.take k).length = a + k by simp; omega] at this
  rw [List.take_succ_eq_append_getElem hk]
  simp only [List.append_assoc, List.cons_append, List.nil_append] at this ⊢
  exact this

set_option maxRecDepth 100000 in
set_option maxHeartbeats 8000000 in
theorem symMerge_right (blk cap a m b : Nat) (xs P v S : List El) (x : El) (w0 w : World) (R : Row w0 blk xs w) (hx : xs = P ++ (v ++ (x :: S))) (hP : P.length = a) (hm : a + v.length = m) (hb : b = m + 1) (hv : 1 < v.length) (hn : xs.length ≤ 1099511627776) (hs : Srt.Sorted cmpEl v) (gx : Good w0 blk x) (hG : ∀ y ∈ v, Good w0 blk y) :
    Calls Tryd.prog 61 #[.slice (some ⟨blk, 0, none⟩) xs.length cap, .int .i64 a, .int .i64 m, .int .i64 b, cmpV] w fun e w' => e = .returned (.tuple #[]) ∧ ∃ t, t.Perm (v ++ [x]) ∧ Srt.Sorted cmpEl t ∧ Row w0 blk (P ++ (t ++ S)) w' := by
  have hbx : b ≤ xs.length := by rw [hx]; simp; omega
  have HX0 := Lib.hid hx
  have HP0 := Lib.hid hP
  have HR0 := Lib.hid R
  have HG := Lib.hid hG
  have GX := Lib.hid gx
  have HS := Lib.hid hs
  have hva : v.length = m - a := by omega
  have HVA := Lib.hid hva
  have hab : a + 1 < m := by omega
  have hma : (b : Int) - (m : Int) = 1 := by omega
  have hma1 : ((m : Int) - (a : Int) == 1) = false := by simp; omega
  have hm1 : m + 1 ≤ b := by omega
  have hm2 : b ≤ m + 1 := by omega
  clear R hx hP hG gx hs hb hva hv hm
  go_enter Tryd.func61, Tryd.ntmps61
  go_wp2_with fail
  go_loopg [14, 15] m (fun g vi vj wr => ∃ (i j : Nat), vi = .int .i64 i ∧ vj = .int .i64 j ∧ a ≤ i ∧ i ≤ j ∧ j ≤ m ∧ j - i ≤ g ∧ Hid (Below w.heap.size w wr) ∧ Hid (∀ q (hq : q < v.length), a + q < i → 0 ≤ cmpEl x v[q]) ∧ Hid (∀ q (hq : q < v.length), j ≤ a + q → cmpEl x v[q] < 0))
  case atStart => exact ⟨a, m, rfl, rfl, by omega, by omega, by omega, by omega, Below.refl _ _, fun q hq h => by omega, fun q hq h => by have := HVA.out; omega⟩
  case round =>
    obtain ⟨i, j, rfl, rfl, hi, hij, hj, hg, HB, HLO, HHI⟩ := hrel
    by_cases hlt : i < j
    · have hm3 : i ≤ (i + j) / 2 := by omega
      have hm4 : (i + j) / 2 < j := by omega
      have hmid : ((i : Int) + (j : Int)) / 2 = (((i + j) / 2 : Nat) : Int) := by omega
      generalize (i + j) / 2 = h at *
      have hq : h - a < v.length := by have := HVA.out; omega
      have R1 := HR0.out.below HB.out
      have e1 : xs[h]! = v[h - a] := by
        have hh : h < xs.length := by omega
        rw [Srt.get_at hh]
        have hx := HX0.out
        have hP := HP0.out
        subst hx
        rw [List.getElem_append_right (by omega), List.getElem_append_left (by omega)]
        simp only [hP]
      have e2 : xs[m]! = x := by
        have := get_seg (P ++ v) S x
        rw [show (P ++ v).length = m by have := HP0.out; have := HVA.out; simp; omega] at this
        rw [HX0.out]; simpa using this
      have s1 := R1.six! (show m < xs.length by omega)
      have s2 := R1.six! (show h < xs.length by omega)
      rw [e2] at s1
      rw [e1] at s2
      have gy : Good w0 blk v[h - a] := HG.out _ (List.getElem_mem hq)
      have HQ := Lib.hid (R1.cmpQ GX.out gy)
      have LO2 : Hid (0 ≤ cmpEl x v[h - a] → ∀ q (hq : q < v.length), a + q < h + 1 → 0 ≤ cmpEl x v[q]) := fun hc q hq' hlt' => by
        have hle := HS.out.at el_cmp.toCmp (show q ≤ h - a by omega) hq
        have := el_cmp.toCmp.trans v[q] v[h - a] x hle (by omega)
        omega
      have HI2 : Hid (cmpEl x v[h - a] < 0 → ∀ q (hq : q < v.length), h ≤ a + q → cmpEl x v[q] < 0) := fun hc q hq' hle0 => by
        have hle := HS.out.at el_cmp.toCmp (show h - a ≤ q by omega) hq'
        have hle' : cmpEl v[h - a] v[q] ≤ 0 := by have := el_cmp.anti v[h - a] v[q]; unfold Srt.Le at hle; omega
        by_cases e0 : cmpEl v[h - a] v[q] = 0
        · exact el_cmp.zero_right hc e0
        · exact el_cmp.lt_lt hc (by omega)
      clear e1 e2 gy R1
      generalize v[h - a] = y at *
      obtain ⟨p0, p1, p2, p3, p4, p5⟩ := s1
      obtain ⟨q0, q1, q2, q3, q4, q5⟩ := s2
      have r0 := cell_regrown p0
      have r1 := cell_regrown p1
      have r2 := cell_regrown p2
      have r3 := cell_regrown p3
      have r4 := cell_regrown p4
      have r5 := cell_regrown p5
      have v0 := cell_regrown q0
      have v1 := cell_regrown q1
      have v2 := cell_regrown q2
      have v3 := cell_regrown q3
      have v4 := cell_regrown q4
      have v5 := cell_regrown q5
      clear p0 p1 p2 p3 p4 p5 q0 q1 q2 q3 q4 q5
      have hi1 : (h : Int) < (xs.length : Int) := by omega
      have hi2 : (m : Int) < (xs.length : Int) := by omega
      go_wp2_with fail
      refine wp_region_below (by kernel_rfl) (by kernel_rfl) ?_
      repeat (quiet_step (exact HQ.out _ _))
      refine wpQuiet_nil ?_
      clear r0 r1 r2 r3 r4 r5 v0 v1 v2 v3 v4 v5
      intro wq hq2
      have HB2 : Hid (Below w.heap.size w wq) := over hq2.out HB.out HB.out.size
      by_cases hlv : cmpEl x y < 0
      · have hlz : (!decide (cmpEl x y < 0)) = false := by simp [hlv]
        rw [hlz]
        have HI3 := Lib.hid (HI2.out hlv)
        clear LO2 HI2 HHI HQ
        go_wp2_with fail
        go_roundg (h - i)
        case measure => omega
        case rel => exact ⟨i, h, rfl, by go_num, by omega, by omega, by omega, by omega, HB2, HLO, HI3⟩
      · have hlz : (!decide (cmpEl x y < 0)) = true := by simp [hlv]
        rw [hlz]
        have LO3 := Lib.hid (LO2.out (by omega))
        clear LO2 HI2 HLO HQ
        go_wp2_with fail
        go_roundg (j - (h + 1))
        case measure => omega
        case rel => exact ⟨h + 1, j, by go_num, rfl, by omega, by omega, by omega, by omega, HB2, LO3, HHI⟩
    · obtain rfl : i = j := by omega
      have ST : Hid (Row w0 blk (P ++ (v.take (m - a) ++ x :: (v.drop (m - a) ++ S))) wr) := Lib.hid (by
        have := HR0.out.below HB.out
        rw [HX0.out] at this
        rw [← HVA.out]
        simpa using this)
      have HFIN : Hid (Srt.Sorted cmpEl (v.take (i - a) ++ x :: v.drop (i - a))) := insert_sorted HS.out (fun q hq hlt => by have := HLO.out q hq (by omega); unfold Srt.Le; omega) (fun q hq hle => el_cmp.toCmp.le_of_lt (HHI.out q hq (by omega)))
      have hiv : m - a ≤ v.length := by have := HVA.out; omega
      have hn2 : xs.length = (P ++ (v ++ (x :: S))).length := by rw [HX0.out]
      have HLEN0 := Lib.hid hn2
      clear HLO HHI HB hn2 hlt hij
      go_wp2_with fail
      go_loopg [17] (m + 1) (fun g vk wr => ∃ (k : Nat), vk = .int .i64 (a + k : Nat) ∧ i - a ≤ k ∧ k ≤ m - a ∧ k ≤ g ∧ Hid (Row w0 blk (P ++ (v.take k ++ x :: (v.drop k ++ S))) wr))
      case atStart => exact ⟨m - a, by congr 1; omega, by omega, by omega, by omega, ST⟩
      case round =>
        clear ST
        obtain ⟨k, rfl, hk, hk2, hg, HR⟩ := hrel
        by_cases hlt : i - a < k
        · obtain ⟨k, rfl⟩ : ∃ kp, k = kp + 1 := ⟨k - 1, by omega⟩
          have hkv : k < v.length := by omega
          have e1 : (P ++ (v.take (k + 1) ++ x :: (v.drop (k + 1) ++ S)))[a + k + 1]! = x := left_get (k := k + 1) HP0.out (by omega)
          have e2 : (P ++ (v.take (k + 1) ++ x :: (v.drop (k + 1) ++ S)))[a + k]! = v[k] := right_get HP0.out hkv
          have hlen : (P ++ (v.take (k + 1) ++ x :: (v.drop (k + 1) ++ S))).length = xs.length := left_len.trans (by rw [HLEN0.out]; simp; omega)
          have HLEN := Lib.hid hlen
          have HE := Lib.hid (HR.out.exch (a + k + 1) (a + k) (by omega) (by omega))
          rw [e1, e2, right_next HP0.out hkv] at HE
          have s1 := HR.out.six! (show a + k + 1 < _ by omega)
          have s2 := HR.out.six! (show a + k < _ by omega)
          rw [e1] at s1
          rw [e2] at s2
          obtain ⟨p0, p1, p2, p3, p4, p5⟩ := s1
          obtain ⟨q0, q1, q2, q3, q4, q5⟩ := s2
          have f0 := HR.out.free ((a + k + 1) * 6) (by have := HLEN.out; omega)
          have f1 := HR.out.free ((a + k + 1) * 6 + 1) (by have := HLEN.out; omega)
          have f2 := HR.out.free ((a + k + 1) * 6 + 2) (by have := HLEN.out; omega)
          have f3 := HR.out.free ((a + k + 1) * 6 + 3) (by have := HLEN.out; omega)
          have f4 := HR.out.free ((a + k + 1) * 6 + 4) (by have := HLEN.out; omega)
          have f5 := HR.out.free ((a + k + 1) * 6 + 5) (by have := HLEN.out; omega)
          have g0 := HR.out.free ((a + k) * 6) (by have := HLEN.out; omega)
          have g1 := HR.out.free ((a + k) * 6 + 1) (by have := HLEN.out; omega)
          have g2 := HR.out.free ((a + k) * 6 + 2) (by have := HLEN.out; omega)
          have g3 := HR.out.free ((a + k) * 6 + 3) (by have := HLEN.out; omega)
          have g4 := HR.out.free ((a + k) * 6 + 4) (by have := HLEN.out; omega)
          have g5 := HR.out.free ((a + k) * 6 + 5) (by have := HLEN.out; omega)
          clear HR e1 e2 hlen HLEN
          generalize v[k] = y at *
          have i1 : (0 : Int) ≤ (a : Int) + (k : Int) := by omega
          have i2 : (a : Int) + (k : Int) < (xs.length : Int) := by omega
          have i3 : ((a : Int) + (k : Int)).toNat = a + k := by omega
          have i4 : IntKind.i64.wrap ((a : Int) + (k : Int)) = (a : Int) + (k : Int) := IntWalk.i64_in _ (by omega)
          have j1 : (0 : Int) ≤ (a : Int) + ((k : Int) + 1) := by omega
          have j2 : (a : Int) + ((k : Int) + 1) < (xs.length : Int) := by omega
          have j3 : ((a : Int) + ((k : Int) + 1)).toNat = a + k + 1 := by omega
          have j5 : (a : Int) + ((k : Int) + 1) - 1 = (a : Int) + (k : Int) := by omega
          have hc1 : (i : Int) < (a : Int) + ((k : Int) + 1) := by omega
          have hc2 : decide ((a : Int) + ((k : Int) + 1) > (i : Int)) = true := decide_eq_true hc1
          go_wp2_with fail
          go_region
          change Exit.inBlock _ _ _ _ ((wr.setCells blk ((a + k + 1) * 6) y.cells).setCells blk ((a + k) * 6) x.cells).drew
          generalize ((wr.setCells blk ((a + k + 1) * 6) y.cells).setCells blk ((a + k) * 6) x.cells).drew = w2 at *
          clear i1 i2 i3 j1 j2 j3 p0 p1 p2 p3 p4 p5 q0 q1 q2 q3 q4 q5 f0 f1 f2 f3 f4 f5 g0 g1 g2 g3 g4 g5 hc1 hc2
          go_wp2_with fail
          go_roundg k
          case measure => omega
          case rel => exact ⟨k, by first | rfl | go_num | (congr 1; omega), by omega, by omega, by omega, HE⟩
        · obtain rfl : k = i - a := by omega
          have HF : Hid (∃ t, t.Perm (v ++ [x]) ∧ Srt.Sorted cmpEl t ∧ Row w0 blk (P ++ (t ++ S)) wr) := ⟨_, insert_perm.trans (List.perm_append_comm (l₁ := [x]) (l₂ := v)), HFIN.out, by have := HR.out; simpa using this⟩
          have hc1 : ¬ (i : Int) < ((a + (i - a) : Nat) : Int) := by omega
          have hc2 : decide (((a + (i - a) : Nat) : Int) > (i : Int)) = false := decide_eq_false hc1
          clear HR HFIN
          generalize a + (i - a) = kk at *
          go_wp2_with fail
          refine bodyPost_ret (results_none rfl _ _ _) rfl ?_
          exact ⟨rfl, HF.out⟩
end Go.Proofs.YtffmeglcakcpdaaDoor
