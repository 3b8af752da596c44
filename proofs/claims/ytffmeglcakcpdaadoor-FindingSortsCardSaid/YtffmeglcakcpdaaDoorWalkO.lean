/- CompactFunc over a row of findings. -/
import Derived.Test.YtffmeglcakcpdaaDoorWalkN
set_option linter.unusedVariables false
namespace Go.Proofs.YtffmeglcakcpdaaDoor
open Go.RowKit

def zeroFd : Array Value := #[.int .i64 0, .string ByteArray.empty, .string ByteArray.empty, .int .i64 0, .string ByteArray.empty, .slice none 0 0]
theorem zeroFd_one (n : Nat) : ∀ v ∈ (Builtin.zeroCells zeroFd n).toList, v.oneCell' = true := by
  intro v hv
  unfold Builtin.zeroCells at hv
  simp only [Array.toList_map, List.mem_map] at hv
  obtain ⟨i, _, rfl⟩ := hv
  have h : ∀ j : Fin 6, (zeroFd[j.val]!).oneCell' = true := by decide +kernel
  exact h ⟨i % 6, Nat.mod_lt _ (by omega)⟩
theorem clear_run (w : World) (ty : TypeId) (b o n c : Nat) (hn : 0 < n)
    (hc : ∀ j, j < n * 6 → (w.cell? ⟨b, o + j, none⟩).isSome = true) (hf : ∀ j, j < n * 6 → w.frozen? ⟨b, o + j, none⟩ = false) :
    (Builtin.clear_ #[33] ty #[.slice (some ⟨b, o, none⟩) n c]).run Tryd.prog w = .ok (.tuple #[]) (w.setCells b o (Builtin.zeroCells zeroFd n).toList) := by
  have hl : (Builtin.zeroCells zeroFd n).toList.length = n * 6 := by simp [Builtin.zeroCells, zeroFd]
  have hst := run_storeCells_cells (P := Tryd.prog) b o (Builtin.zeroCells zeroFd n).toList 0 w (by simpa [hl] using hc) (by simpa [hl] using hf) (zeroFd_one n)
  simp only [Nat.add_zero] at hst
  have hz : ∀ w, (zeroValue 26).run Tryd.prog w = .ok (.agg zeroFd) w := fun w => by kernel_rfl
  obtain ⟨m, rfl⟩ : ∃ m, n = m + 1 := ⟨n - 1, by omega⟩
  simp [Builtin.clear_, run_underlying Tryd.underlying33, hz, Value.cells, hst]
theorem Row.cleared {w0 W : World} {blk : Nat} {xs ys : List El} (h : Row w0 blk (xs ++ ys) W) (vs : List Value) : Row w0 blk xs (W.setCells blk (xs.length * 6) vs) := by
  obtain ⟨r1, r2, r3⟩ := rest_setCells blk vs (xs.length * 6) W
  have hs := h.short
  refine ⟨r1.trans h.os, r2.trans h.tape, r3.trans h.output, by rw [size_setCells]; exact h.size, h.blt, fun k hk hne => by rw [other_setCells blk k hne]; exact h.others k hk hne, fun j hj => ?_, fun o ho => ?_⟩
  · have out : ∀ q, q < 6 → (W.setCells blk (xs.length * 6) vs).cell? ⟨blk, j * 6 + q, none⟩ = W.cell? ⟨blk, j * 6 + q, none⟩ := fun q hq =>
      World.cell?_setCells_out blk vs (xs.length * 6) W _ (fun _ _ => by show j * 6 + q < xs.length * 6 ∨ _; omega)
    obtain ⟨a0, a1, a2, a3, a4, a5⟩ := hs.six j hj
    exact ⟨(out 0 (by omega)).trans a0, (out 1 (by omega)).trans a1, (out 2 (by omega)).trans a2, (out 3 (by omega)).trans a3, (out 4 (by omega)).trans a4, (out 5 (by omega)).trans a5⟩
  · rw [World.frozen?_setCells]; exact hs.free o ho
theorem Row.isSome {w0 W : World} {blk : Nat} {xs : List El} (h : Row w0 blk xs W) {o : Nat} (ho : o < xs.length * 6) : (W.cell? ⟨blk, o, none⟩).isSome = true := by
  have h1 : o / 6 < xs.length := by omega
  have := (h.six (o / 6) h1).some (o % 6) (by omega)
  rwa [show o / 6 * 6 + o % 6 = o by omega] at this
theorem Row.box {w0 W : World} {blk : Nat} {xs : List El} (h : Row w0 blk xs W) {bx : Nat} {v : Value} (hb : w0.cell? ⟨bx, 0, none⟩ = some v) (hne : bx ≠ blk) : W.cell? ⟨bx, 0, none⟩ = some v := by
  rw [World.cell?_of_block (w := w0) (a := ⟨bx, 0, none⟩) (h.others bx (block_lt_of_cell hb) hne)]; exact hb
theorem Row.eqQ {w0 W : World} {blk : Nat} {xs : List El} (R : Row w0 blk xs W) {x y : El} (gx : Good w0 blk x) (gy : Good w0 blk y) {bx : Nat} (hb : w0.cell? ⟨bx, 0, none⟩ = some cmpV) (hne : bx ≠ blk) (d : Nat) (os : Array Obj) :
    Calls Tryd.prog 43 #[x.val, y.val, .pointer (some ⟨bx, 0, none⟩)] (Sort.grow (redrawn W d) os) fun e w'' => e = .returned (.bool (cmpEl x y == 0)) ∧ ∃ p : Regrown, w'' = Sort.grow (redrawn W p.d) p.os :=
  have R2 := R.below (below_regrown W d os)
  Calls.regrown_of (closure_any _ x y bx (R2.box hb hne) (fun W' hb' => (R2.below hb').cmp gx gy))

/-- the first loop -/
structure CmpA (w0 : World) (blk n : Nat) (xs : List El) (k : Nat) (P : List El) (p : El) (Q : List El) (W : World) : Prop where
  hk : P.length + 1 = k
  eq : xs = P ++ p :: Q
  row : Row w0 blk xs W
  out : compact xs = P ++ p :: compactFrom p Q
/-- the second loop: behind E, what was kept, lie M, then q, the last element that was looked at, then F -/
structure CmpB (w0 : World) (blk n : Nat) (xs : List El) (k0 kk k2 : Nat) (E M : List El) (q : El) (F : List El) (W : World) : Prop where
  hkk : E.length = kk
  hk2 : E.length + M.length + 1 = k0 + k2
  len : (E ++ (M ++ q :: F)).length = xs.length
  row : Row w0 blk (E ++ (M ++ q :: F)) W
  out : compact xs = E ++ compactFrom q F
  sub : ∀ x ∈ q :: F, x ∈ xs
  sub2 : ∀ x ∈ E, x ∈ xs
theorem CmpB.below {w0 W W' : World} {blk n : Nat} {xs : List El} {k0 kk k2 : Nat} {E M : List El} {q : El} {F : List El} (h : CmpB w0 blk n xs k0 kk k2 E M q F W) (hb : Below W.heap.size W W') : CmpB w0 blk n xs k0 kk k2 E M q F W' :=
  ⟨h.hkk, h.hk2, h.len, h.row.below hb, h.out, h.sub, h.sub2⟩
theorem CmpA.next {w0 W W' : World} {blk n : Nat} {xs : List El} {k : Nat} {P : List El} {p x : El} {Q : List El} (h : CmpA w0 blk n xs k P p (x :: Q) W) (hne : (cmpEl x p == 0) = false) (hb : Below W.heap.size W W') : CmpA w0 blk n xs (k + 1) (P ++ [p]) x Q W' :=
  ⟨by have := h.hk; simp; omega, by have := h.eq; simpa using this, h.row.below hb, by have := h.out; rw [compactFrom, hne] at this; simpa using this⟩
theorem CmpA.into {w0 W W' : World} {blk n : Nat} {xs : List El} {k : Nat} {P : List El} {p x : El} {Q : List El} (h : CmpA w0 blk n xs k P p (x :: Q) W) (he : (cmpEl x p == 0) = true) (hb : Below W.heap.size W W') : CmpB w0 blk n xs k k 1 (P ++ [p]) [] x Q W' := by
  have e := h.eq
  have hk := h.hk
  refine ⟨by simp; omega, by simp; omega, by rw [e]; simp, ?_, by have := h.out; rw [compactFrom, he] at this; simpa using this, fun y hy => by rw [e]; simp at hy ⊢; simp [hy], fun y hy => by rw [e]; simp at hy ⊢; rcases hy with hy | hy <;> simp [hy]⟩
  have := h.row.below hb
  rw [e] at this
  simpa using this
theorem CmpB.skip {w0 W W' : World} {blk n : Nat} {xs : List El} {k0 kk k2 : Nat} {E M : List El} {q y : El} {F : List El} (h : CmpB w0 blk n xs k0 kk k2 E M q (y :: F) W) (he : (cmpEl y q == 0) = true) (hb : Below W.heap.size W W') : CmpB w0 blk n xs k0 kk (k2 + 1) E (M ++ [q]) y F W' := by
  have h2 := h.hk2
  refine ⟨h.hkk, by simp; omega, by have := h.len; simpa using this, by have := h.row.below hb; simpa using this, by have := h.out; rw [compactFrom, he] at this; simpa using this, fun x hx => h.sub x (List.mem_cons_of_mem _ hx), h.sub2⟩
theorem CmpB.keep {w0 W W' : World} {blk n : Nat} {xs : List El} {k0 kk k2 : Nat} {E M : List El} {q y : El} {F : List El} (h : CmpB w0 blk n xs k0 kk k2 E M q (y :: F) W) (he : (cmpEl y q == 0) = false)
    (hr : Row w0 blk ((E ++ (M ++ q :: y :: F)).set kk y) W') : CmpB w0 blk n xs k0 (kk + 1) (k2 + 1) (E ++ [y]) ((M ++ [q]).drop 1) y F W' := by
  have h1 := h.hkk
  have h2 := h.hk2
  have e : (E ++ (M ++ q :: y :: F)).set kk y = (E ++ [y]) ++ ((M ++ [q]).drop 1 ++ y :: F) := by
    rw [List.set_append_right _ _ (by omega), show kk - E.length = 0 by omega]
    cases M with
    | nil => simp
    | cons m M => simp
  rw [e] at hr
  refine ⟨by simp; omega, by simp; omega, ?_, hr, by have := h.out; rw [compactFrom, he] at this; simpa using this, fun x hx => h.sub x (List.mem_cons_of_mem _ hx), fun x hx => ?_⟩
  · rw [← e, List.length_set]; exact h.len
  · rcases List.mem_append.1 hx with hx | hx
    · exact h.sub2 x hx
    · rw [List.mem_singleton] at hx; subst hx; exact h.sub _ (by simp)

set_option maxHeartbeats 8000000 in
theorem compactFunc_any (blk cap bx : Nat) (xs : List El) (w0 w : World) (R : Row w0 blk xs w) (hcap : xs.length ≤ cap) (hn : xs.length ≤ 1099511627776) (hG : ∀ x ∈ xs, Good w0 blk x) (hb : w0.cell? ⟨bx, 0, none⟩ = some cmpV) (hne : bx ≠ blk) :
    Calls Tryd.prog 42 #[.slice (some ⟨blk, 0, none⟩) xs.length cap, .func (.func 43) #[] #[.pointer (some ⟨bx, 0, none⟩)]] w fun e w' => e = .returned (.slice (some ⟨blk, 0, none⟩) (compact xs).length cap) ∧ Row w0 blk (compact xs) w' := by
  have HR := Lib.hid R
  have HG := Lib.hid hG
  have HB := Lib.hid hb
  clear R hG hb
  by_cases h2 : xs.length < 2
  · have HC : Hid (compact xs = xs) := by
      match xs, h2 with
      | [], _ => rfl
      | [x], _ => rfl
      | _ :: _ :: _, h => simp at h; omega
    go_enter Tryd.func42, Tryd.ntmps42
    go_wp2_with fail
    go_ret
    rw [HC.out]
    exact ⟨rfl, HR.out⟩
  · have ST : Hid (∃ P p Q, CmpA w0 blk 0 xs 1 P p Q w) := by
      match xs, h2, HR with
      | [], h, _ => simp at h
      | x :: xs, _, HR => exact ⟨[], x, xs, rfl, rfl, HR.out, rfl⟩
    clear HR
    go_enter Tryd.func42, Tryd.ntmps42
    go_wp2_with fail
    go_loopg [5] xs.length (fun g vk wr => ∃ k : Nat, vk = .int .i64 k ∧ 1 ≤ k ∧ k ≤ xs.length ∧ xs.length - k ≤ g ∧ Hid (∃ P p Q, CmpA w0 blk 0 xs k P p Q wr))
    case atStart => exact ⟨1, rfl, by omega, by omega, by omega, ST⟩
    case round =>
      clear ST
      obtain ⟨k, rfl, hk1, hkn, hg, HA⟩ := hrel
      by_cases hlt : k < xs.length
      · obtain ⟨P, p, Q0, I⟩ := HA.out
        have hq : Q0 ≠ [] := fun e => by have h1 := I.eq; have h2 := I.hk; rw [e] at h1; rw [h1] at hlt; simp at hlt; omega
        obtain ⟨x, Q, rfl⟩ := List.exists_cons_of_ne_nil hq
        obtain ⟨kp, rfl⟩ : ∃ kp, k = kp + 1 := ⟨k - 1, by omega⟩
        have hPk : P.length = kp := by have := I.hk; omega
        have e1 : xs[kp + 1]! = x := by
          have := get_seg (P ++ [p]) Q x
          rw [show (P ++ [p]).length = kp + 1 by simp; omega] at this
          rw [I.eq]; simpa using this
        have e2 : xs[kp]! = p := by
          have := get_seg P (x :: Q) p
          rw [hPk] at this
          rw [I.eq]; exact this
        have gx : Good w0 blk x := HG.out x (by rw [I.eq]; simp)
        have gp : Good w0 blk p := HG.out p (by rw [I.eq]; simp)
        have s1 := I.row.six! hlt
        have s2 := I.row.six! (show kp < xs.length by omega)
        rw [e1] at s1
        rw [e2] at s2
        have HQ := Lib.hid (I.row.eqQ gx gp HB.out hne)
        have II := Lib.hid I
        obtain ⟨p0, p1, p2, p3, p4, p5⟩ := s1
        obtain ⟨q0, q1, q2, q3, q4, q5⟩ := s2
        have r0 := cell_regrown p0
        have r1 := cell_regrown p1
        have r2 := cell_regrown p2
        have r3 := cell_regrown p3
        have r4 := cell_regrown p4
        have r5 := cell_regrown p5
        have v0 := cell_regrown q0
        have v1 := cell_regrown q1
        have v2 := cell_regrown q2
        have v3 := cell_regrown q3
        have v4 := cell_regrown q4
        have v5 := cell_regrown q5
        clear e1 e2 I HA hq gx gp hPk p0 p1 p2 p3 p4 p5 q0 q1 q2 q3 q4 q5
        have hwp : IntKind.i64.wrap (kp : Int) = (kp : Int) := IntWalk.i64_in _ (by omega)
        have jz : (kp : Int) + 1 < (xs.length : Int) := by omega
        have jz1 : (kp : Int) < (xs.length : Int) := by omega
        have pp0 : (0 : Int) ≤ (kp : Int) + 1 := by omega
        have ee0 : ((kp : Int) + 1).toNat = kp + 1 := by omega
        go_wp2_with fail
        refine wp_region_below (by kernel_rfl) (by kernel_rfl) ?_
        repeat (quiet_step (exact HQ.out _ _))
        refine wpQuiet_nil ?_
        clear r0 r1 r2 r3 r4 r5 v0 v1 v2 v3 v4 v5
        intro wq hq
        cases he : (cmpEl x p == 0)
        · have HN : Hid (∃ P p Q, CmpA w0 blk 0 xs (kp + 1 + 1) P p Q wq) := ⟨_, _, _, II.out.next he hq.out⟩
          clear II hwp jz jz1 pp0 ee0
          go_wp2_with fail
          go_roundg (xs.length - (kp + 2))
          case measure => omega
          case rel => exact ⟨kp + 2, by go_num, by omega, by omega, by omega, HN⟩
        · have HN : Hid (∃ E M q F, CmpB w0 blk 0 xs (kp + 1) (kp + 1) 1 E M q F wq) := ⟨_, _, _, _, II.out.into he hq.out⟩
          clear II hwp jz1
          go_wp2_with fail
          clear pp0 ee0 jz he hq HQ
          have hk0 : kp + 1 ≤ xs.length := by omega
          have ek : (kp : Int) + 1 = ((kp + 1 : Nat) : Int) := by omega
          rw [ek]
          clear ek hk1
          generalize kp + 1 = k0 at *
          go_loopg [5, 7] xs.length (fun g5 v5 v7 wr2 => ∃ kk k2 : Nat, v5 = .int .i64 kk ∧ v7 = .int .i64 k2 ∧ 1 ≤ k2 ∧ k0 + k2 ≤ xs.length ∧ kk < k0 + k2 ∧ xs.length - k2 ≤ g5 ∧ Hid (∃ E M q F, CmpB w0 blk 0 xs k0 kk k2 E M q F wr2))
          case atStart => exact ⟨k0, 1, rfl, rfl, by omega, by omega, by omega, by omega, HN⟩
          case round =>
            clear HN wq
            obtain ⟨kk, k2, rfl, rfl, hk21, hk2n, hkk, hg5, HB2⟩ := hrel
            by_cases hlt2 : k2 < xs.length - k0
            · obtain ⟨E, M, q, F0, I⟩ := HB2.out
              have hF : F0 ≠ [] := fun e => by have h1 := I.len; have h2 := I.hk2; rw [e] at h1; simp at h1; omega
              obtain ⟨y, F, rfl⟩ := List.exists_cons_of_ne_nil hF
              obtain ⟨kp2, rfl⟩ : ∃ kp2, k2 = kp2 + 1 := ⟨k2 - 1, by omega⟩
              have hl := I.len
              have e1 : (E ++ (M ++ q :: y :: F))[k0 + (kp2 + 1)]! = y := by
                have := get_seg (E ++ (M ++ [q])) F y
                rw [show (E ++ (M ++ [q])).length = k0 + (kp2 + 1) by have := I.hk2; simp; omega] at this
                simpa using this
              have e2 : (E ++ (M ++ q :: y :: F))[k0 + kp2]! = q := by
                have := get_seg (E ++ M) (y :: F) q
                rw [show (E ++ M).length = k0 + kp2 by have := I.hk2; simp; omega] at this
                simpa using this
              have gy : Good w0 blk y := HG.out y (I.sub y (by simp))
              have gq : Good w0 blk q := HG.out q (I.sub q (by simp))
              have s1 := I.row.six! (show k0 + (kp2 + 1) < _ by omega)
              have s2 := I.row.six! (show k0 + kp2 < _ by omega)
              rw [e1, Nat.add_mul] at s1
              rw [e2, Nat.add_mul] at s2
              have HQ := Lib.hid (I.row.eqQ gy gq HB.out hne)
              have HSix : Hid (∀ w2, Below wr.heap.size wr w2 → Six w2 blk (k0 * 6 + (kp2 + 1) * 6) y) := fun w2 hb2 => by
                have s1 := (I.row.below hb2).six! (show k0 + (kp2 + 1) < _ by omega)
                rw [e1, Nat.add_mul] at s1
                exact s1
              have HFree : Hid (∀ w2, Below wr.heap.size wr w2 → ∀ o, o < xs.length * 6 → w2.frozen? ⟨blk, o, none⟩ = false ∧ (w2.cell? ⟨blk, o, none⟩).isSome = true) := fun w2 hb2 o ho =>
                ⟨(I.row.below hb2).free o (by rw [I.len]; exact ho), (I.row.below hb2).isSome (by rw [I.len]; exact ho)⟩
              have HSet : Hid (∀ w2, Below wr.heap.size wr w2 → (cmpEl y q == 0) = false → CmpB w0 blk 0 xs k0 (kk + 1) (kp2 + 1 + 1) (E ++ [y]) ((M ++ [q]).drop 1) y F (w2.setCells blk (kk * 6) y.cells)) := fun w2 hb2 he =>
                I.keep he ((I.row.below hb2).set kk (by omega) y)
              have HSkip : Hid (∀ w2, Below wr.heap.size wr w2 → (cmpEl y q == 0) = true → CmpB w0 blk 0 xs k0 kk (kp2 + 1 + 1) E (M ++ [q]) y F w2) := fun w2 hb2 he => I.skip he hb2
              obtain ⟨p0, p1, p2, p3, p4, p5⟩ := s1
              obtain ⟨q0, q1, q2, q3, q4, q5⟩ := s2
              have r0 := cell_regrown p0
              have r1 := cell_regrown p1
              have r2 := cell_regrown p2
              have r3 := cell_regrown p3
              have r4 := cell_regrown p4
              have r5 := cell_regrown p5
              have v0 := cell_regrown q0
              have v1 := cell_regrown q1
              have v2 := cell_regrown q2
              have v3 := cell_regrown q3
              have v4 := cell_regrown q4
              have v5 := cell_regrown q5
              clear e1 e2 I HB2 hF gy gq hl p0 p1 p2 p3 p4 p5 q0 q1 q2 q3 q4 q5
              have hwp : IntKind.i64.wrap (kp2 : Int) = (kp2 : Int) := IntWalk.i64_in _ (by omega)
              have jz : (kp2 : Int) + 1 < ((xs.length - k0 : Nat) : Int) := by omega
              have jz1 : (kp2 : Int) < ((xs.length - k0 : Nat) : Int) := by omega
              have pp0 : (0 : Int) ≤ (kp2 : Int) + 1 := by omega
              have ee0 : ((kp2 : Int) + 1).toNat = kp2 + 1 := by omega
              go_wp2_with fail
              refine wp_region_below (by kernel_rfl) (by kernel_rfl) ?_
              repeat (quiet_step (exact HQ.out _ _))
              refine wpQuiet_nil ?_
              clear r0 r1 r2 r3 r4 r5 v0 v1 v2 v3 v4 v5
              intro wq hq
              cases he : (cmpEl y q == 0)
              · obtain ⟨p0, p1, p2, p3, p4, p5⟩ := HSix.out wq hq.out
                obtain ⟨f0, g0⟩ := HFree.out wq hq.out (kk * 6) (by omega)
                obtain ⟨f1, g1⟩ := HFree.out wq hq.out (kk * 6 + 1) (by omega)
                obtain ⟨f2, g2⟩ := HFree.out wq hq.out (kk * 6 + 2) (by omega)
                obtain ⟨f3, g3⟩ := HFree.out wq hq.out (kk * 6 + 3) (by omega)
                obtain ⟨f4, g4⟩ := HFree.out wq hq.out (kk * 6 + 4) (by omega)
                obtain ⟨f5, g5⟩ := HFree.out wq hq.out (kk * 6 + 5) (by omega)
                obtain ⟨c0, g0⟩ := Option.isSome_iff_exists.1 g0
                obtain ⟨c1, g1⟩ := Option.isSome_iff_exists.1 g1
                obtain ⟨c2, g2⟩ := Option.isSome_iff_exists.1 g2
                obtain ⟨c3, g3⟩ := Option.isSome_iff_exists.1 g3
                obtain ⟨c4, g4⟩ := Option.isSome_iff_exists.1 g4
                obtain ⟨c5, g5⟩ := Option.isSome_iff_exists.1 g5
                have HW : Hid (∃ E M q F, CmpB w0 blk 0 xs k0 (kk + 1) (kp2 + 1 + 1) E M q F (wq.setCells blk (kk * 6) y.cells)) := ⟨_, _, _, _, HSet.out wq hq.out he⟩
                have b1 : (kk : Int) < (xs.length : Int) := by omega
                clear HSet HSkip HSix HFree HQ
                go_wp2_with fail
                change Handed _ _ _ (wq.setCells blk (kk * 6) y.cells)
                generalize wq.setCells blk (kk * 6) y.cells = w3 at *
                go_roundg (xs.length - (kp2 + 2))
                case measure => omega
                case rel => exact ⟨kk + 1, kp2 + 2, by go_num, by go_num, by omega, by omega, by omega, by omega, HW⟩
              · have HW : Hid (∃ E M q F, CmpB w0 blk 0 xs k0 kk (kp2 + 1 + 1) E M q F wq) := ⟨_, _, _, _, HSkip.out wq hq.out he⟩
                clear HSet HSkip HSix HFree HQ hwp jz jz1 pp0 ee0
                go_wp2_with fail
                go_roundg (xs.length - (kp2 + 2))
                case measure => omega
                case rel => exact ⟨kk, kp2 + 2, by first | rfl | go_num, by go_num, by omega, by omega, by omega, by omega, HW⟩
            · have HE : Hid (∃ E : List El, ∃ G : List El, E.length = kk ∧ (E ++ G).length = xs.length ∧ compact xs = E ∧ Row w0 blk (E ++ G) wr) := by
                obtain ⟨E, M, q, F, I⟩ := HB2.out
                have hF : F = [] := by rw [← List.length_eq_zero_iff]; have h1 := I.len; have h2 := I.hk2; simp at h1; omega
                subst hF
                exact ⟨E, M ++ [q], I.hkk, I.len, by have := I.out; simpa [compactFrom] using this, I.row⟩
              have hcl : ∀ ty, (Builtin.clear_ #[33] ty #[.slice (some ⟨blk, kk * 6, none⟩) (xs.length - kk) (cap - kk)]).run Tryd.prog wr = .ok (.tuple #[]) (wr.setCells blk (kk * 6) (Builtin.zeroCells zeroFd (xs.length - kk)).toList) := fun ty => by
                obtain ⟨E, G, h1, h2, h3, h4⟩ := HE.out
                exact clear_run wr ty blk (kk * 6) (xs.length - kk) (cap - kk) (by omega) (fun j hj => h4.isSome (by rw [h2]; omega)) (fun j hj => h4.free _ (by rw [h2]; omega))
              have HF : Hid (compact xs = compact xs ∧ (compact xs).length = kk ∧ Row w0 blk (compact xs) (wr.setCells blk (kk * 6) (Builtin.zeroCells zeroFd (xs.length - kk)).toList)) := by
                obtain ⟨E, G, h1, h2, h3, h4⟩ := HE.out
                refine ⟨rfl, by rw [h3, h1], ?_⟩
                rw [h3, ← h1]
                exact h4.cleared _
              clear HE HB2
              generalize wr.setCells blk (kk * 6) (Builtin.zeroCells zeroFd (xs.length - kk)).toList = w3 at *
              go_wp2_with fail
              go_ret
              rw [HF.out.2.1]
              exact ⟨rfl, HF.out.2.2⟩
      · have HF : Hid (compact xs = xs ∧ Row w0 blk xs wr) := by
          obtain ⟨P, p, Q, I⟩ := HA.out
          have hq : Q = [] := by rw [← List.length_eq_zero_iff]; have h1 := congrArg List.length I.eq; have h2 := I.hk; simp at h1; omega
          subst hq
          refine ⟨?_, I.row⟩
          rw [I.out]; exact I.eq.symm
        go_wp2_with fail
        go_ret
        rw [HF.out.1]
        exact ⟨rfl, HF.out.2⟩
end Go.Proofs.YtffmeglcakcpdaaDoor
