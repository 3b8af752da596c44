/- insertionSortCmpFunc over a row of findings. -/
import Derived.Test.YtffmeglcakcpdaaDoorWalkK
import Derived.Test.YtffmeglcakcpdaaDoorOrdP
set_option linter.unusedVariables false
namespace Go.Proofs.YtffmeglcakcpdaaDoor
open Go.RowKit

/-- a finding whose path lies outside the row's block -/
structure Good (w0 : World) (blk : Nat) (x : El) : Prop where
  ok : x.f.Ok
  path : PathAt w0 x.a x.f.path
  out : x.f.path ≠ [] → ∀ b o s, x.a = some ⟨b, o, s⟩ → b ≠ blk
def cmpEl (x y : El) : Int := cmpFd x.f y.f
theorem el_cmp : IsCmp cmpEl := fd_cmp.on (fun x : El => x.f)
abbrev cmpV : Value := .func (.func 8) #[] #[]
theorem Row.cmp {w0 W : World} {blk : Nat} {xs : List El} (R : Row w0 blk xs W) {x y : El} (gx : Good w0 blk x) (gy : Good w0 blk y) :
    Calls Tryd.prog 8 #[x.val, y.val] W fun e w' => e = .returned (.int .i64 (cmpEl x y)) ∧ Below W.heap.size W w' :=
  compare_any x.f y.f x.a y.a x.cp y.cp W gx.ok.n1 (R.path gx.path gx.out) (R.path gy.path gy.out)
theorem get_seg {α : Type} [Inhabited α] (P B : List α) (z : α) : (P ++ z :: B)[P.length]! = z := by
  rw [Srt.get_at (by simp), List.getElem_append_right (by omega)]; simp

/-- one call of the comparison, in every world of the region -/
theorem Row.cmpQ {w0 W : World} {blk : Nat} {xs : List El} (R : Row w0 blk xs W) {x y : El} (gx : Good w0 blk x) (gy : Good w0 blk y) (d : Nat) (os : Array Obj) :
    Calls Tryd.prog 8 #[x.val, y.val] (Sort.grow (redrawn W d) os) fun e w'' => e = .returned (.int .i64 (cmpEl x y)) ∧ ∃ p : Regrown, w'' = Sort.grow (redrawn W p.d) p.os :=
  Calls.regrown_of ((R.below (below_regrown W d os)).cmp gx gy)

/-! the state of the inner loop -/
structure InsAt (w0 : World) (blk n : Nat) (P S u : List El) (i j : Nat) (t1 t2 : List El) (x : El) (r : List El) (W : World) : Prop where
  hj : P.length + t1.length = j
  hi : j + t2.length = i
  row : Row w0 blk (P ++ (t1 ++ x :: (t2 ++ (r ++ S)))) W
  len : (P ++ (t1 ++ x :: (t2 ++ (r ++ S)))).length = n
  sorted : Srt.Sorted cmpEl (t1 ++ t2)
  less : ∀ y ∈ t2, cmpEl x y < 0
  perm : (t1 ++ x :: (t2 ++ r)).Perm u
/-- the state of the outer loop -/
structure InsOut (w0 : World) (blk n : Nat) (P S u : List El) (i : Nat) (t r : List El) (W : World) : Prop where
  hi : P.length + t.length = i
  row : Row w0 blk (P ++ (t ++ (r ++ S))) W
  len : (P ++ (t ++ (r ++ S))).length = n
  sorted : Srt.Sorted cmpEl t
  perm : (t ++ r).Perm u
theorem InsAt.below {w0 W W' : World} {blk n : Nat} {P S u : List El} {i j : Nat} {t1 t2 : List El} {x : El} {r : List El} (h : InsAt w0 blk n P S u i j t1 t2 x r W) (hb : Below W.heap.size W W') : InsAt w0 blk n P S u i j t1 t2 x r W' :=
  ⟨h.hj, h.hi, h.row.below hb, h.len, h.sorted, h.less, h.perm⟩
theorem InsAt.out {w0 W : World} {blk n : Nat} {P S u : List El} {i j : Nat} {t1 t2 : List El} {x : El} {r : List El} (h : InsAt w0 blk n P S u i j t1 t2 x r W) (hs : ∀ y ∈ t1, Srt.Le cmpEl y x) :
    InsOut w0 blk n P S u (i + 1) (t1 ++ x :: t2) r W := by
  refine ⟨?_, ?_, ?_, ?_, ?_⟩
  · have := h.hj; have := h.hi; simp; omega
  · have := h.row; simpa using this
  · have := h.len; simpa using this
  · obtain ⟨p1, p2, p3⟩ := List.pairwise_append.1 h.sorted
    refine List.pairwise_append.2 ⟨p1, List.pairwise_cons.2 ⟨fun y hy => el_cmp.toCmp.le_of_lt (h.less y hy), p2⟩, fun y hy z hz => ?_⟩
    rcases List.mem_cons.1 hz with rfl | hz
    · exact hs y hy
    · exact p3 y hy z hz
  · have := h.perm; simpa using this
theorem InsAt.swap {w0 W W' : World} {blk n : Nat} {P S u : List El} {i jp : Nat} {t1 t2 : List El} {x z : El} {r : List El} (h : InsAt w0 blk n P S u i (jp + 1) (t1 ++ [z]) t2 x r W) (hl : cmpEl x z < 0)
    (hr : Row w0 blk (Srt.exch (P ++ ((t1 ++ [z]) ++ x :: (t2 ++ (r ++ S)))) (jp + 1) jp) W') : InsAt w0 blk n P S u i jp t1 (z :: t2) x r W' := by
  have hj := h.hj
  have hi := h.hi
  simp only [List.length_append, List.length_cons, List.length_nil] at hj
  have e : Srt.exch (P ++ ((t1 ++ [z]) ++ x :: (t2 ++ (r ++ S)))) (jp + 1) jp = P ++ (t1 ++ x :: (z :: t2 ++ (r ++ S))) := by
    have h1 := Srt.exch_seg (P ++ t1) [] (t2 ++ (r ++ S)) z x
    have e1 : (P ++ t1).length = jp := by simp; omega
    rw [e1, List.length_nil, Nat.add_zero, List.nil_append, List.nil_append] at h1
    have e2 : P ++ ((t1 ++ [z]) ++ x :: (t2 ++ (r ++ S))) = (P ++ t1) ++ z :: x :: (t2 ++ (r ++ S)) := by simp
    rw [e2]
    have e3 : Srt.exch ((P ++ t1) ++ z :: x :: (t2 ++ (r ++ S))) (jp + 1) jp = Srt.exch ((P ++ t1) ++ z :: x :: (t2 ++ (r ++ S))) jp (jp + 1) := by
      unfold Srt.exch; rw [List.set_comm _ _ (by omega)]
    rw [e3, h1]; simp
  rw [e] at hr
  refine ⟨by omega, by simp; omega, hr, ?_, ?_, ?_, ?_⟩
  · have := h.len; simp at this ⊢; omega
  · have := h.sorted; simpa using this
  · intro y hy
    rcases List.mem_cons.1 hy with rfl | hy
    · exact hl
    · exact h.less y hy
  · have := h.perm
    refine List.Perm.trans ?_ this
    simp only [List.append_assoc, List.cons_append, List.nil_append]
    exact List.Perm.append_left t1 (List.Perm.swap _ _ _)
theorem InsOut.into {w0 W : World} {blk n : Nat} {P S u : List El} {i : Nat} {t : List El} {x : El} {r : List El} (h : InsOut w0 blk n P S u i t (x :: r) W) : InsAt w0 blk n P S u i i t [] x r W :=
  ⟨h.hi, by simp, by have := h.row; simpa using this, by have := h.len; simpa using this, by simpa using h.sorted, by simp, by simpa using h.perm⟩

set_option maxHeartbeats 8000000 in
theorem insertion_any (blk cap a b : Nat) (xs P u S : List El) (w0 w : World) (R : Row w0 blk xs w) (hx : xs = P ++ (u ++ S)) (hP : P.length = a) (hb : a + u.length = b) (hn : xs.length ≤ 1099511627776) (hG : ∀ x ∈ u, Good w0 blk x) :
    Calls Tryd.prog 60 #[.slice (some ⟨blk, 0, none⟩) xs.length cap, .int .i64 a, .int .i64 b, cmpV] w fun e w' => e = .returned (.tuple #[]) ∧ ∃ t, t.Perm u ∧ Srt.Sorted cmpEl t ∧ Row w0 blk (P ++ (t ++ S)) w' := by
  have ST : Hid (u ≠ [] → ∃ t r, InsOut w0 blk xs.length P S u (a + 1) t r w) := fun hu => by
    cases u with
    | nil => exact absurd rfl hu
    | cons x r => exact ⟨[x], r, by simp [hP], by rw [hx] at R; simpa using R, by rw [hx]; simp, by simp [Srt.Sorted], by simp⟩
  have HR : Hid (u = [] → Row w0 blk (P ++ ([] ++ S)) w) := fun hu => by rw [hx, hu] at R; exact R
  have HG := Lib.hid hG
  have hbl : b ≤ xs.length := by rw [hx]; simp; omega
  have hul : b = a ↔ u = [] := by rw [← List.length_eq_zero_iff]; omega
  have HUL := Lib.hid hul
  clear R hx hG hul
  go_enter Tryd.func60, Tryd.ntmps60
  go_wp2_with fail
  go_loopg [8] (b + 1) (fun g1 vi wr => ∃ (i : Nat), vi = .int .i64 i ∧ a < i ∧ i ≤ b + 1 ∧ b + 1 - i ≤ g1 ∧ Hid ((u ≠ [] → ∃ t r, InsOut w0 blk xs.length P S u i t r wr) ∧ (u = [] → wr = w)))
  case atStart => exact ⟨a + 1, by go_num, by omega, by omega, by omega, ST.out, fun _ => rfl⟩
  case round =>
    clear ST
    obtain ⟨i, rfl, hai, hib, hg1, HI⟩ := hrel
    by_cases hlt : i < b
    · have hne : u ≠ [] := fun e => by have := HUL.out.2 e; omega
      obtain ⟨t, r, I0⟩ := HI.out.1 hne
      have hr : r ≠ [] := fun e => by
        have h1 := I0.perm.length_eq
        have h2 := I0.hi
        rw [e] at h1; simp at h1; omega
      obtain ⟨x, r, rfl⟩ := List.exists_cons_of_ne_nil hr
      have I1 : Hid (∃ t1 t2 x r, InsAt w0 blk xs.length P S u i i t1 t2 x r wr) := ⟨t, [], x, r, I0.into⟩
      clear I0 hr HI
      go_wp2_with fail
      go_loopg [9] i (fun g2 vj wr2 => ∃ (j : Nat), vj = .int .i64 j ∧ a ≤ j ∧ j ≤ i ∧ j ≤ g2 ∧ Hid (∃ t1 t2 x r, InsAt w0 blk xs.length P S u i j t1 t2 x r wr2))
      case atStart => exact ⟨i, rfl, by omega, Nat.le_refl _, Nat.le_refl _, I1⟩
      case round =>
        clear I1 t r x
        obtain ⟨j, rfl, haj, hji, hg2, HJ⟩ := hrel
        by_cases hja : a < j
        · obtain ⟨jp, rfl⟩ : ∃ jp, j = jp + 1 := ⟨j - 1, by omega⟩
          obtain ⟨t1z, t2, x, r, I⟩ := HJ.out
          have hne1 : t1z ≠ [] := fun e => by have := I.hj; rw [e] at this; simp at this; omega
          obtain ⟨t1, z, rfl⟩ : ∃ t1 z, t1z = t1 ++ [z] := ⟨t1z.dropLast, t1z.getLast hne1, (List.dropLast_concat_getLast hne1).symm⟩
          have hjn : jp + 1 < (P ++ ((t1 ++ [z]) ++ x :: (t2 ++ (r ++ S)))).length := by have := I.hj; simp at this ⊢; omega
          have hjx : jp + 1 < xs.length := by rw [← I.len]; exact hjn
          have gx : Good w0 blk x := HG.out x (I.perm.subset (by simp))
          have gz : Good w0 blk z := HG.out z (I.perm.subset (by simp))
          have e1 : (P ++ ((t1 ++ [z]) ++ x :: (t2 ++ (r ++ S))))[jp + 1]! = x := by
            have := get_seg (P ++ (t1 ++ [z])) (t2 ++ (r ++ S)) x
            rw [show (P ++ (t1 ++ [z])).length = jp + 1 by have := I.hj; simp at this ⊢; omega] at this
            simpa using this
          have e2 : (P ++ ((t1 ++ [z]) ++ x :: (t2 ++ (r ++ S))))[jp]! = z := by
            have := get_seg (P ++ t1) (x :: (t2 ++ (r ++ S))) z
            rw [show (P ++ t1).length = jp by have := I.hj; simp at this ⊢; omega] at this
            simpa using this
          have hfree : ∀ o, o < xs.length * 6 → wr.frozen? ⟨blk, o, none⟩ = false := fun o ho => I.row.free o (by rw [I.len]; exact ho)
          have s1 := I.row.six! hjn
          have s2 := I.row.six! (show jp < _ by omega)
          rw [e1] at s1
          rw [e2] at s2
          have HX : Hid (∀ w2, Below wr.heap.size wr w2 → Row w0 blk (Srt.exch (P ++ ((t1 ++ [z]) ++ x :: (t2 ++ (r ++ S)))) (jp + 1) jp) (((w2.setCells blk ((jp + 1) * 6) z.cells).setCells blk (jp * 6) x.cells).drew)) := fun w2 hb2 => by
            have := (I.row.below hb2).exch (jp + 1) jp hjn (by omega)
            rw [e1, e2] at this; exact this
          have HSix : Hid (∀ w2, Below wr.heap.size wr w2 → Six w2 blk ((jp + 1) * 6) x ∧ Six w2 blk (jp * 6) z) := fun w2 hb2 => by
            have R2 := I.row.below hb2
            have s1 := R2.six! hjn
            have s2 := R2.six! (show jp < _ by omega)
            rw [e1] at s1
            rw [e2] at s2
            exact ⟨s1, s2⟩
          have HFree : Hid (∀ w2, Below wr.heap.size wr w2 → ∀ o, o < xs.length * 6 → w2.frozen? ⟨blk, o, none⟩ = false) := fun w2 hb2 o ho => (I.row.below hb2).free o (by rw [I.len]; exact ho)
          have HQ := Lib.hid (I.row.cmpQ gx gz)
          have II := Lib.hid I
          obtain ⟨p0, p1, p2, p3, p4, p5⟩ := s1
          obtain ⟨q0, q1, q2, q3, q4, q5⟩ := s2
          have r0 := cell_regrown p0
          have r1 := cell_regrown p1
          have r2 := cell_regrown p2
          have r3 := cell_regrown p3
          have r4 := cell_regrown p4
          have r5 := cell_regrown p5
          have v0 := cell_regrown q0
          have v1 := cell_regrown q1
          have v2 := cell_regrown q2
          have v3 := cell_regrown q3
          have v4 := cell_regrown q4
          have v5 := cell_regrown q5
          clear e1 e2 hfree I HJ hne1 gx gz hjn p0 p1 p2 p3 p4 p5 q0 q1 q2 q3 q4 q5
          have hwp : IntKind.i64.wrap (jp : Int) = (jp : Int) := IntWalk.i64_in _ (by omega)
          have jz : (jp : Int) + 1 < (xs.length : Int) := by omega
          have jz1 : (jp : Int) < (xs.length : Int) := by omega
          have hjaz : (a : Int) < (jp : Int) + 1 := by omega
          have hjaz2 : decide ((a : Int) < (jp : Int) + 1) = true := decide_eq_true hjaz
          have pp0 : (0 : Int) ≤ (jp : Int) + 1 := by omega
          have ee0 : ((jp : Int) + 1).toNat = jp + 1 := by omega
          go_wp2_with fail
          refine wp_region_below (by kernel_rfl) (by kernel_rfl) ?_
          repeat (quiet_step (exact HQ.out _ _))
          refine wpQuiet_nil ?_
          clear r0 r1 r2 r3 r4 r5 v0 v1 v2 v3 v4 v5
          intro wq hq
          by_cases hlv : cmpEl x z < 0
          · obtain ⟨p0, p1, p2, p3, p4, p5⟩ := (HSix.out wq hq.out).1
            obtain ⟨q0, q1, q2, q3, q4, q5⟩ := (HSix.out wq hq.out).2
            have f0 := HFree.out wq hq.out ((jp + 1) * 6) (by omega)
            have f1 := HFree.out wq hq.out ((jp + 1) * 6 + 1) (by omega)
            have f2 := HFree.out wq hq.out ((jp + 1) * 6 + 2) (by omega)
            have f3 := HFree.out wq hq.out ((jp + 1) * 6 + 3) (by omega)
            have f4 := HFree.out wq hq.out ((jp + 1) * 6 + 4) (by omega)
            have f5 := HFree.out wq hq.out ((jp + 1) * 6 + 5) (by omega)
            have g0 := HFree.out wq hq.out (jp * 6) (by omega)
            have g1 := HFree.out wq hq.out (jp * 6 + 1) (by omega)
            have g2 := HFree.out wq hq.out (jp * 6 + 2) (by omega)
            have g3 := HFree.out wq hq.out (jp * 6 + 3) (by omega)
            have g4 := HFree.out wq hq.out (jp * 6 + 4) (by omega)
            have g5 := HFree.out wq hq.out (jp * 6 + 5) (by omega)
            have HW := Lib.hid (HX.out wq hq.out)
            have HI2 : Hid (∀ W', Row w0 blk (Srt.exch (P ++ ((t1 ++ [z]) ++ x :: (t2 ++ (r ++ S)))) (jp + 1) jp) W' → InsAt w0 blk xs.length P S u i jp t1 (z :: t2) x r W') := fun W' hr => II.out.swap hlv hr
            go_wp2_with fail
            go_region
            change Exit.inBlock _ _ _ _ ((wq.setCells blk ((jp + 1) * 6) z.cells).setCells blk (jp * 6) x.cells).drew
            generalize ((wq.setCells blk ((jp + 1) * 6) z.cells).setCells blk (jp * 6) x.cells).drew = w2 at *
            have HN : Hid (∃ t1 t2 x r, InsAt w0 blk xs.length P S u i jp t1 t2 x r w2) := ⟨_, _, _, _, HI2.out _ HW.out⟩
            clear p0 p1 p2 p3 p4 p5 q0 q1 q2 q3 q4 q5 f0 f1 f2 f3 f4 f5 g0 g1 g2 g3 g4 g5 HW HI2 hwp pp0 ee0 hjaz hjaz2 jz jz1
            go_wp2_with fail
            go_roundg jp
            case measure => omega
            case rel => exact ⟨jp, by first | rfl | go_num | (congr 1; omega), by omega, by omega, Nat.le_refl _, HN⟩
          · have HO : Hid (∃ t r, InsOut w0 blk xs.length P S u (i + 1) t r wq) := ⟨_, _, (II.out.below hq.out).out (fun y hy => by
              have hz : Srt.Le cmpEl z x := hlv
              rcases List.mem_append.1 hy with hy | hy
              · have hs := II.out.sorted
                rw [List.append_assoc] at hs
                exact el_cmp.toCmp.trans y z x (hs.cross y hy z (by simp)) hz
              · rw [List.mem_singleton] at hy; subst hy; exact hz)⟩
            clear hwp pp0 ee0 hjaz hjaz2 jz jz1 II HX HSix HFree HQ
            have hlz : decide (cmpEl x z < 0) = false := decide_eq_false hlv
            go_wp2_with fail
            go_roundg (b - i)
            case measure => omega
            case rel => exact ⟨i + 1, by go_num, by omega, by omega, by omega, fun _ => HO.out, fun e => absurd e hne⟩
        · have hjaz : decide ((j : Int) > (a : Int)) = false := decide_eq_false (by omega)
          have hjaz' : ¬ (a : Int) < (j : Int) := by omega
          have HO : Hid (∀ w2, Below wr.heap.size wr w2 → ∃ t r, InsOut w0 blk xs.length P S u (i + 1) t r w2) := fun w2 hb2 => by
            obtain ⟨t1, t2, x, r, I⟩ := HJ.out
            have e : t1 = [] := by rw [← List.length_eq_zero_iff]; have := I.hj; omega
            exact ⟨_, _, (I.below hb2).out (fun y hy => by rw [e] at hy; cases hy)⟩
          clear HJ
          go_wp2_with fail
          go_quiet (fail)
          go_wp2_with fail
          go_roundg (b - i)
          case measure => omega
          case rel => exact ⟨i + 1, by go_num, by omega, by omega, by omega, fun _ => HO.out _ (below_drewN (Below.refl _ _) _), fun e => absurd e hne⟩
    · have HF : Hid (∃ t, t.Perm u ∧ Srt.Sorted cmpEl t ∧ Row w0 blk (P ++ (t ++ S)) wr) := by
        by_cases hu : u = []
        · refine ⟨[], by rw [hu], by simp [Srt.Sorted], ?_⟩
          rw [HI.out.2 hu]; exact HR.out hu
        · obtain ⟨t, r, I⟩ := HI.out.1 hu
          have e : r = [] := by
            rw [← List.length_eq_zero_iff]
            have h1 := I.perm.length_eq
            have h2 := I.hi
            simp at h1; omega
          subst e
          exact ⟨t, by simpa using I.perm, I.sorted, by simpa using I.row⟩
      go_wp2_with fail
      go_end0
      exact ⟨rfl, HF.out⟩
end Go.Proofs.YtffmeglcakcpdaaDoor
