/- A row of findings in memory; swapRangeCmpFunc. -/
import Derived.Test.YtffmeglcakcpdaaDoorWalkJ
import Derived.Test.YtffmeglcakcpdaaDoorSortP
import Derived.Deep.LoopGhost
import Derived.BigRegion
set_option linter.unusedVariables false
namespace Go.Proofs.YtffmeglcakcpdaaDoor
open Go.RowKit

/-- a finding as it lies in memory: the finding, its path's address and capacity -/
structure El where
  f : Fd
  a : Option Addr
  cp : Nat
instance elInh : Inhabited El := ⟨⟨⟨0, ⟨ByteArray.empty, ByteArray.empty, 0⟩, ByteArray.empty, []⟩, none, 0⟩⟩
abbrev El.val (x : El) : Value := x.f.val x.a x.cp
abbrev El.cells (x : El) : List Value := [.int .i64 x.f.kind, .string x.f.pl.cls, .string x.f.pl.meth, .int .i64 x.f.pl.ins, .string x.f.what, .slice x.a x.f.path.length x.cp]

/-- six cells from an offset on -/
structure Six (W : World) (blk o : Nat) (x : El) : Prop where
  c0 : W.cell? ⟨blk, o, none⟩ = some (.int .i64 x.f.kind)
  c1 : W.cell? ⟨blk, o + 1, none⟩ = some (.string x.f.pl.cls)
  c2 : W.cell? ⟨blk, o + 2, none⟩ = some (.string x.f.pl.meth)
  c3 : W.cell? ⟨blk, o + 3, none⟩ = some (.int .i64 x.f.pl.ins)
  c4 : W.cell? ⟨blk, o + 4, none⟩ = some (.string x.f.what)
  c5 : W.cell? ⟨blk, o + 5, none⟩ = some (.slice x.a x.f.path.length x.cp)

/-- W is w0, but for the row of block blk, which holds xs, and for new blocks -/
structure Row (w0 : World) (blk : Nat) (xs : List El) (W : World) : Prop where
  os : W.os = w0.os
  tape : W.tape = w0.tape
  output : W.output = w0.output
  size : w0.heap.size ≤ W.heap.size
  blt : blk < w0.heap.size
  others : ∀ k, k < w0.heap.size → k ≠ blk → W.heap[k]? = w0.heap[k]?
  six : ∀ i (h : i < xs.length), Six W blk (i * 6) xs[i]
  free : ∀ o, o < xs.length * 6 → W.frozen? ⟨blk, o, none⟩ = false

theorem Row.below {w0 W W' : World} {blk : Nat} {xs : List El} (h : Row w0 blk xs W) (hb : Below W.heap.size W W') : Row w0 blk xs W' := by
  have hlt : blk < W.heap.size := Nat.lt_of_lt_of_le h.blt h.size
  refine ⟨hb.os.trans h.os, hb.tape.trans h.tape, hb.output.trans h.output, Nat.le_trans h.size hb.size, h.blt, fun k hk hne => ?_, fun i hi => ?_, fun o ho => ?_⟩
  · rw [hb.block k (Nat.lt_of_lt_of_le hk h.size)]; exact h.others k hk hne
  · obtain ⟨a0, a1, a2, a3, a4, a5⟩ := h.six i hi
    exact ⟨by rw [hb.cell (p := ⟨blk, _, none⟩) hlt]; exact a0, by rw [hb.cell (p := ⟨blk, _, none⟩) hlt]; exact a1, by rw [hb.cell (p := ⟨blk, _, none⟩) hlt]; exact a2,
      by rw [hb.cell (p := ⟨blk, _, none⟩) hlt]; exact a3, by rw [hb.cell (p := ⟨blk, _, none⟩) hlt]; exact a4, by rw [hb.cell (p := ⟨blk, _, none⟩) hlt]; exact a5⟩
  · rw [hb.frozen (p := ⟨blk, _, none⟩) hlt]; exact h.free o ho
theorem Row.drew {w0 W : World} {blk : Nat} {xs : List El} (h : Row w0 blk xs W) : Row w0 blk xs W.drew := h.below ((Below.refl _ _).drew)
/-- what lies outside the row -/
theorem Row.path {w0 W : World} {blk : Nat} {xs : List El} (h : Row w0 blk xs W) {a : Option Addr} {ps : List Pl} (hp : PathAt w0 a ps) (hn : ps ≠ [] → ∀ b o s, a = some ⟨b, o, s⟩ → b ≠ blk) : PathAt W a ps := by
  by_cases hps : ps = []
  · exact Or.inl hps
  rcases hp with hp | ⟨b, off, h1, h2, h3⟩
  · exact Or.inl hp
  · have e := h.others b h2 (hn hps _ _ _ h1)
    refine Or.inr ⟨b, off, h1, Nat.lt_of_lt_of_le h2 h.size, fun i hi => ?_⟩
    rw [World.cell?_of_block (w := w0) (a := ⟨b, _, none⟩) e, World.cell?_of_block (w := w0) (a := ⟨b, _, none⟩) e, World.cell?_of_block (w := w0) (a := ⟨b, _, none⟩) e]
    exact h3 i hi

theorem size_setCells (blk : Nat) : ∀ (vs : List Value) (o : Nat) (W : World), (W.setCells blk o vs).heap.size = W.heap.size
  | [], _, _ => rfl
  | v :: r, o, W => by rw [World.setCells, size_setCells blk r (o + 1)]; simp [World.setCell]
theorem other_setCells (blk k : Nat) (hk : k ≠ blk) : ∀ (vs : List Value) (o : Nat) (W : World), (W.setCells blk o vs).heap[k]? = W.heap[k]?
  | [], _, _ => rfl
  | v :: r, o, W => by rw [World.setCells, other_setCells blk k hk r (o + 1)]; exact Below.heap_setCell _ _ _ _ hk
theorem rest_setCells (blk : Nat) : ∀ (vs : List Value) (o : Nat) (W : World), (W.setCells blk o vs).os = W.os ∧ (W.setCells blk o vs).tape = W.tape ∧ (W.setCells blk o vs).output = W.output
  | [], _, _ => ⟨rfl, rfl, rfl⟩
  | v :: r, o, W => by rw [World.setCells]; exact rest_setCells blk r (o + 1) _

theorem Six.of_cells {W : World} {blk o : Nat} {x : El} (h : ∀ j (hj : j < x.cells.length), W.cell? ⟨blk, o + j, none⟩ = some x.cells[j]) : Six W blk o x :=
  ⟨h 0 (by simp), h 1 (by simp), h 2 (by simp), h 3 (by simp), h 4 (by simp), h 5 (by simp)⟩
theorem Six.some {W : World} {blk o : Nat} {x : El} (h : Six W blk o x) : ∀ j, j < 6 → (W.cell? ⟨blk, o + j, none⟩).isSome = true
  | 0, _ => by rw [Nat.add_zero, h.c0]; rfl
  | 1, _ => by rw [h.c1]; rfl
  | 2, _ => by rw [h.c2]; rfl
  | 3, _ => by rw [h.c3]; rfl
  | 4, _ => by rw [h.c4]; rfl
  | 5, _ => by rw [h.c5]; rfl
  | n + 6, hn => by omega
theorem Row.set {w0 W : World} {blk : Nat} {xs : List El} (h : Row w0 blk xs W) (i : Nat) (hi : i < xs.length) (y : El) : Row w0 blk (xs.set i y) (W.setCells blk (i * 6) y.cells) := by
  obtain ⟨r1, r2, r3⟩ := rest_setCells blk y.cells (i * 6) W
  refine ⟨r1.trans h.os, r2.trans h.tape, r3.trans h.output, by rw [size_setCells]; exact h.size, h.blt, fun k hk hne => by rw [other_setCells blk k hne]; exact h.others k hk hne, fun j hj => ?_, fun o ho => ?_⟩
  · rw [List.length_set] at hj
    by_cases e : i = j
    · subst e
      rw [List.getElem_set_self]
      exact Six.of_cells (World.cell?_setCells_in blk y.cells (i * 6) W (fun j hj => (h.six i hi).some j (by simpa using hj)))
    · rw [List.getElem_set_ne e]
      have out : ∀ q, q < 6 → (W.setCells blk (i * 6) y.cells).cell? ⟨blk, j * 6 + q, none⟩ = W.cell? ⟨blk, j * 6 + q, none⟩ := fun q hq =>
        World.cell?_setCells_out blk y.cells (i * 6) W _ (fun _ _ => by show j * 6 + q < i * 6 ∨ i * 6 + 6 ≤ j * 6 + q; omega)
      obtain ⟨a0, a1, a2, a3, a4, a5⟩ := h.six j hj
      exact ⟨(out 0 (by omega)).trans a0, (out 1 (by omega)).trans a1, (out 2 (by omega)).trans a2, (out 3 (by omega)).trans a3, (out 4 (by omega)).trans a4, (out 5 (by omega)).trans a5⟩
  · rw [World.frozen?_setCells]; exact h.free o (by simpa using ho)

theorem Row.exch {w0 W : World} {blk : Nat} {xs : List El} (h : Row w0 blk xs W) (i j : Nat) (hi : i < xs.length) (hj : j < xs.length) :
    Row w0 blk (Srt.exch xs i j) (((W.setCells blk (i * 6) xs[j]!.cells).setCells blk (j * 6) xs[i]!.cells).drew) :=
  ((h.set i hi xs[j]!).set j (by simpa using hj) xs[i]!).drew
theorem Row.six! {w0 W : World} {blk : Nat} {xs : List El} (h : Row w0 blk xs W) {i : Nat} (hi : i < xs.length) : Six W blk (i * 6) xs[i]! := by
  rw [Srt.get_at hi]; exact h.six i hi

set_option maxHeartbeats 4000000 in
theorem swapRange_any (blk cap a b m : Nat) (xs : List El) (fv : Value) (w0 w : World) (R : Row w0 blk xs w) (ha : a + m ≤ b) (hb : b + m ≤ xs.length) (hn : xs.length ≤ 1099511627776) :
    Calls Tryd.prog 70 #[.slice (some ⟨blk, 0, none⟩) xs.length cap, .int .i64 a, .int .i64 b, .int .i64 m, fv] w fun e w' => e = .returned (.tuple #[]) ∧ Row w0 blk (Srt.swapLoop xs a b m) w' := by
  have HR := Lib.hid R
  clear R
  go_enter Tryd.func70, Tryd.ntmps70
  go_wp2_with fail
  go_loopg [10] m (fun g i wr => ∃ (k : Nat), i = .int .i64 k ∧ k ≤ m ∧ m - k ≤ g ∧ Hid (Row w0 blk (Srt.swapLoop xs a b k) wr))
  case atStart => exact ⟨0, rfl, by omega, by omega, HR⟩
  case round =>
    clear HR
    obtain ⟨k, rfl, hk, hg, HR⟩ := hrel
    have HL := Lib.hid (Srt.swapLoop_length xs a b k)
    have HS := Lib.hid (show Srt.swapLoop xs a b (k + 1) = Srt.exch (Srt.swapLoop xs a b k) (a + k) (b + k) from rfl)
    by_cases hlt : k < m
    · have hl1 : a + k < (Srt.swapLoop xs a b k).length := by have := HL.out; omega
      have hl2 : b + k < (Srt.swapLoop xs a b k).length := by have := HL.out; omega
      have hll : xs.length * 6 ≤ (Srt.swapLoop xs a b k).length * 6 := by have := HL.out; omega
      generalize Srt.swapLoop xs a b k = ys at *
      have i1 : (0 : Int) ≤ (a : Int) + (k : Int) := by omega
      have i2 : (a : Int) + (k : Int) < (xs.length : Int) := by omega
      have i3 : ((a : Int) + (k : Int)).toNat = a + k := by omega
      have i4 : IntKind.i64.wrap ((a : Int) + (k : Int)) = (a : Int) + (k : Int) := IntWalk.i64_in _ (by omega)
      have j1 : (0 : Int) ≤ (b : Int) + (k : Int) := by omega
      have j2 : (b : Int) + (k : Int) < (xs.length : Int) := by omega
      have j3 : ((b : Int) + (k : Int)).toNat = b + k := by omega
      have j4 : IntKind.i64.wrap ((b : Int) + (k : Int)) = (b : Int) + (k : Int) := IntWalk.i64_in _ (by omega)
      have HE := Lib.hid (HR.out.exch (a + k) (b + k) hl1 hl2)
      rw [← HS.out] at HE
      obtain ⟨p0, p1, p2, p3, p4, p5⟩ := HR.out.six! hl1
      obtain ⟨q0, q1, q2, q3, q4, q5⟩ := HR.out.six! hl2
      have f0 := HR.out.free ((a + k) * 6) (by omega)
      have f1 := HR.out.free ((a + k) * 6 + 1) (by omega)
      have f2 := HR.out.free ((a + k) * 6 + 2) (by omega)
      have f3 := HR.out.free ((a + k) * 6 + 3) (by omega)
      have f4 := HR.out.free ((a + k) * 6 + 4) (by omega)
      have f5 := HR.out.free ((a + k) * 6 + 5) (by omega)
      have g0 := HR.out.free ((b + k) * 6) (by omega)
      have g1 := HR.out.free ((b + k) * 6 + 1) (by omega)
      have g2 := HR.out.free ((b + k) * 6 + 2) (by omega)
      have g3 := HR.out.free ((b + k) * 6 + 3) (by omega)
      have g4 := HR.out.free ((b + k) * 6 + 4) (by omega)
      have g5 := HR.out.free ((b + k) * 6 + 5) (by omega)
      generalize ys[a + k]! = X at *
      generalize ys[b + k]! = Y at *
      clear HR HS HL
      go_wp2_with fail
      go_region
      change Exit.inBlock _ _ _ _ ((wr.setCells blk ((a + k) * 6) Y.cells).setCells blk ((b + k) * 6) X.cells).drew
      generalize ((wr.setCells blk ((a + k) * 6) Y.cells).setCells blk ((b + k) * 6) X.cells).drew = w2 at *
      clear i1 i2 i3 i4 j1 j2 j3 j4 p0 p1 p2 p3 p4 p5 q0 q1 q2 q3 q4 q5 f0 f1 f2 f3 f4 f5 g0 g1 g2 g3 g4 g5
      go_wp2_with fail
      go_roundg (m - (k + 1))
      case measure => omega
      case rel => exact ⟨k + 1, by go_num, by omega, by omega, HE⟩
    · obtain rfl : k = m := by omega
      go_wp2_with fail
      go_end0
      exact ⟨rfl, HR.out⟩

/-! rotate -/
theorem rot_1 {P u v S : List El} {i j : Nat} (hi : u.length = i) (hj : v.length = j) (hij : j < i) :
    Srt.swapLoop (P ++ (u ++ (v ++ S))) P.length (P.length + i) j = (P ++ v) ++ (u.drop j ++ (u.take j ++ S)) := by
  have e : u = u.take j ++ u.drop j := (List.take_append_drop j u).symm
  have h := Srt.swapLoop_all P (u.take j) (u.drop j) v S (by simp; omega)
  have e2 : P.length + (u.take j).length + (u.drop j).length = P.length + i := by simp; omega
  have e3 : (u.take j).length = j := by simp; omega
  rw [e2, e3] at h
  have e4 : P ++ (u ++ (v ++ S)) = P ++ (u.take j ++ (u.drop j ++ (v ++ S))) := by
    conv => lhs; rw [e]
    rw [List.append_assoc]
  rw [e4, h]
  simp only [List.append_assoc]
theorem rot_2 {P u v S : List El} {i j : Nat} (hi : u.length = i) (hj : v.length = j) (hij : i < j) :
    Srt.swapLoop (P ++ (u ++ (v ++ S))) P.length (P.length + j) i = P ++ (v.drop (j - i) ++ (v.take (j - i) ++ (u ++ S))) := by
  have h := Srt.swapLoop_all P u (v.take (j - i)) (v.drop (j - i)) S (by simp; omega)
  have e2 : P.length + u.length + (v.take (j - i)).length = P.length + j := by simp; omega
  rw [e2, hi] at h
  have e4 : P ++ (u ++ (v ++ S)) = P ++ (u ++ (v.take (j - i) ++ (v.drop (j - i) ++ S))) := by
    conv => lhs; rw [← List.take_append_drop (j - i) v]
    rw [List.append_assoc]
  rw [e4, h]
theorem rot_3 {P u v S : List El} {i : Nat} (hi : u.length = i) (hj : v.length = i) :
    Srt.swapLoop (P ++ (u ++ (v ++ S))) P.length (P.length + i) i = P ++ (v ++ (u ++ S)) := by
  have h := Srt.swapLoop_all P u [] v S (by omega)
  simp only [List.length_nil, Nat.add_zero, List.nil_append] at h
  rw [hi] at h
  exact h

set_option maxHeartbeats 4000000 in
theorem rotate_any (blk cap a m b : Nat) (xs T : List El) (fv : Value) (w0 w : World) (R : Row w0 blk xs w) (P u v S : List El) (hx : xs = P ++ (u ++ (v ++ S))) (hT : T = P ++ (v ++ (u ++ S))) (hP : P.length = a) (hu : a + u.length = m) (hv : m + v.length = b) (h1 : a < m) (h2 : m < b) (hn : xs.length ≤ 1099511627776) :
    Calls Tryd.prog 67 #[.slice (some ⟨blk, 0, none⟩) xs.length cap, .int .i64 a, .int .i64 m, .int .i64 b, fv] w fun e w' => e = .returned (.tuple #[]) ∧ Row w0 blk T w' := by
  have hb : b ≤ xs.length := by rw [hx]; simp; omega
  have ST : Hid (∃ P u v S : List El, P.length + (m - a) = m ∧ u.length = m - a ∧ v.length = b - m ∧ T = P ++ (v ++ (u ++ S)) ∧ Row w0 blk (P ++ (u ++ (v ++ S))) w ∧ (P ++ (u ++ (v ++ S))).length = xs.length) := ⟨P, u, v, S, by omega, by omega, by omega, hT, hx ▸ R, by rw [hx]⟩
  have e1 : (m : Int) - (a : Int) = ((m - a : Nat) : Int) := by omega
  have e2 : (b : Int) - (m : Int) = ((b - m : Nat) : Int) := by omega
  clear R hx hT hP hu hv
  go_enter Tryd.func67, Tryd.ntmps67
  go_wp2_with fail
  clear e1 e2
  go_loopg [10, 11] (m + b) (fun g si sj wr => ∃ (i j : Nat), si = .int .i64 i ∧ sj = .int .i64 j ∧ 1 ≤ i ∧ 1 ≤ j ∧ i ≤ m ∧ i + j ≤ g ∧ m + j ≤ b ∧ Hid (∃ P u v S : List El, P.length + i = m ∧ u.length = i ∧ v.length = j ∧ T = P ++ (v ++ (u ++ S)) ∧ Row w0 blk (P ++ (u ++ (v ++ S))) wr ∧ (P ++ (u ++ (v ++ S))).length = xs.length))
  case atStart => exact ⟨m - a, b - m, rfl, rfl, by omega, by omega, by omega, by omega, by omega, ST⟩
  case round =>
    clear ST
    obtain ⟨i, j, rfl, rfl, hi, hj, him, hg, hmj, HX⟩ := hrel
    have e3 : (m : Int) - (i : Int) = ((m - i : Nat) : Int) := by omega
    by_cases hij : i = j
    · have hb1 : ((i : Int) != (j : Int)) = false := by simp [hij]
      have HIJ := Lib.hid hij
      clear hij
      go_wp2_with fail
      obtain ⟨P, u, v, S, x1, x2, x3, x4, x5, x6⟩ := HX.out
      rw [← x6]
      have y1 : P.length + i = m := by omega
      refine (swapRange_any blk cap (m - i) m i _ fv w0 _ x5 (by omega) (by have := HIJ.out; omega) (by omega)).mono ?_
      rintro e w2 ⟨rfl, r2⟩
      have R2 : Hid (Row w0 blk T w2) := by
        unfold Hid
        have := rot_3 (P := P) (S := S) x2 (x3.trans HIJ.out.symm)
        rw [show m - i = P.length by omega, ← x1, this] at r2
        rw [x4]; exact r2
      clear x1 x2 x3 x4 x5 x6 y1 r2 HX
      go_wp2_with fail
      go_end0
      exact ⟨rfl, R2.out⟩
    · have hb1 : ((i : Int) != (j : Int)) = true := by simp; omega
      by_cases hlt : j < i
      · have e4 : (i : Int) - (j : Int) = ((i - j : Nat) : Int) := by omega
        go_wp2_with fail
        obtain ⟨P, u, v, S, x1, x2, x3, x4, x5, x6⟩ := HX.out
        rw [← x6]
        refine (swapRange_any blk cap (m - i) m j _ fv w0 _ x5 (by omega) (by omega) (by omega)).mono ?_
        rintro e w2 ⟨rfl, r2⟩
        have R2 : Hid (∃ P u v S : List El, P.length + (i - j) = m ∧ u.length = i - j ∧ v.length = j ∧ T = P ++ (v ++ (u ++ S)) ∧ Row w0 blk (P ++ (u ++ (v ++ S))) w2 ∧ (P ++ (u ++ (v ++ S))).length = xs.length) := by
          have := rot_1 (P := P) (S := S) x2 x3 hlt
          rw [show m - i = P.length by omega, ← x1, this] at r2
          refine ⟨P ++ v, u.drop j, u.take j, S, by simp; omega, by simp; omega, by simp; omega, ?_, r2, ?_⟩
          · rw [x4, List.append_assoc, ← List.append_assoc (u.take j), List.take_append_drop]
          · rw [← x6]; simp; omega
        clear x1 x2 x3 x4 x5 r2 HX
        rw [x6]
        clear x6
        go_wp2_with fail
        go_roundg (i - j + j)
        case measure => omega
        case rel => exact ⟨i - j, j, rfl, rfl, by omega, by omega, by omega, by omega, by omega, R2⟩
      · have e4 : (j : Int) - (i : Int) = ((j - i : Nat) : Int) := by omega
        have e5 : (m : Int) + (j : Int) - (i : Int) = ((m + j - i : Nat) : Int) := by omega
        go_wp2_with fail
        obtain ⟨P, u, v, S, x1, x2, x3, x4, x5, x6⟩ := HX.out
        rw [← x6]
        refine (swapRange_any blk cap (m - i) (m + j - i) i _ fv w0 _ x5 (by omega) (by omega) (by omega)).mono ?_
        rintro e w2 ⟨rfl, r2⟩
        have R2 : Hid (∃ P u v S : List El, P.length + i = m ∧ u.length = i ∧ v.length = j - i ∧ T = P ++ (v ++ (u ++ S)) ∧ Row w0 blk (P ++ (u ++ (v ++ S))) w2 ∧ (P ++ (u ++ (v ++ S))).length = xs.length) := by
          have := rot_2 (P := P) (S := S) x2 x3 (show i < j by omega)
          rw [show m - i = P.length by omega, show m + j - i = P.length + j by omega, this] at r2
          refine ⟨P, v.drop (j - i), v.take (j - i), u ++ S, by omega, by simp; omega, by simp; omega, ?_, r2, ?_⟩
          · rw [x4, ← List.append_assoc (v.take (j - i)), List.take_append_drop]
          · rw [← x6]; simp; omega
        clear x1 x2 x3 x4 x5 r2 HX
        rw [x6]
        clear x6
        go_wp2_with fail
        go_roundg (i + (j - i))
        case measure => omega
        case rel => exact ⟨i, j - i, rfl, rfl, by omega, by omega, by omega, by omega, by omega, R2⟩
end Go.Proofs.YtffmeglcakcpdaaDoor
