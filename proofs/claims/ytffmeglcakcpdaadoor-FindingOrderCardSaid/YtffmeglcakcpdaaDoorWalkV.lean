/- The walk of the law FindingOrder. -/
import Derived.Test.YtffmeglcakcpdaaDoorCmpP
import Derived.Deep.CutRange
set_option linter.unusedVariables false
namespace Go.Proofs.YtffmeglcakcpdaaDoor
open Go.RowKit

/-- a finding in a box of its own -/
structure Box (W : World) (b : Nat) (x : El) : Prop where
  c0 : W.cell? ⟨b, 0, none⟩ = some (.int .i64 x.f.kind)
  c1 : W.cell? ⟨b, 1, none⟩ = some (.string x.f.pl.cls)
  c2 : W.cell? ⟨b, 2, none⟩ = some (.string x.f.pl.meth)
  c3 : W.cell? ⟨b, 3, none⟩ = some (.int .i64 x.f.pl.ins)
  c4 : W.cell? ⟨b, 4, none⟩ = some (.string x.f.what)
  c5 : W.cell? ⟨b, 5, none⟩ = some (.slice x.a x.f.path.length x.cp)
theorem Box.below {W w' : World} {b : Nat} {x : El} (h : Box W b x) (hb : Below W.heap.size W w') : Box w' b x :=
  ⟨keepC h.c0 hb, keepC h.c1 hb, keepC h.c2 hb, keepC h.c3 hb, keepC h.c4 hb, keepC h.c5 hb⟩

theorem sort_three (x y z : El) (wb : World) (gx : GoodIn wb x) (gy : GoodIn wb y) (gz : GoodIn wb z) (px : x.f.path.length * 40 ≤ 140737488355328) (py : y.f.path.length * 40 ≤ 140737488355328) (pz : z.f.path.length * 40 ≤ 140737488355328) :
    Calls Tryd.prog 16 #[.slice (some ⟨wb.heap.size, 0, none⟩) 3 3] (wb.alloc (.cells #[.int .i64 x.f.kind, .string x.f.pl.cls, .string x.f.pl.meth, .int .i64 x.f.pl.ins, .string x.f.what, .slice x.a x.f.path.length x.cp, .int .i64 y.f.kind, .string y.f.pl.cls, .string y.f.pl.meth, .int .i64 y.f.pl.ins, .string y.f.what, .slice y.a y.f.path.length y.cp, .int .i64 z.f.kind, .string z.f.pl.cls, .string z.f.pl.meth, .int .i64 z.f.pl.ins, .string z.f.what, .slice z.a z.f.path.length z.cp] 26)) (SortFd (wb.alloc (.cells #[.int .i64 x.f.kind, .string x.f.pl.cls, .string x.f.pl.meth, .int .i64 x.f.pl.ins, .string x.f.what, .slice x.a x.f.path.length x.cp, .int .i64 y.f.kind, .string y.f.pl.cls, .string y.f.pl.meth, .int .i64 y.f.pl.ins, .string y.f.what, .slice y.a y.f.path.length y.cp, .int .i64 z.f.kind, .string z.f.pl.cls, .string z.f.pl.meth, .int .i64 z.f.pl.ins, .string z.f.what, .slice z.a z.f.path.length z.cp] 26)) [x, y, z]) := by
  have ba : Below wb.heap.size wb (wb.alloc (.cells #[.int .i64 x.f.kind, .string x.f.pl.cls, .string x.f.pl.meth, .int .i64 x.f.pl.ins, .string x.f.what, .slice x.a x.f.path.length x.cp, .int .i64 y.f.kind, .string y.f.pl.cls, .string y.f.pl.meth, .int .i64 y.f.pl.ins, .string y.f.what, .slice y.a y.f.path.length y.cp, .int .i64 z.f.kind, .string z.f.pl.cls, .string z.f.pl.meth, .int .i64 z.f.pl.ins, .string z.f.what, .slice z.a z.f.path.length z.cp] 26)) := by go_grown
  refine sort_some ⟨wb.heap.size, 0, none⟩ 3 [x, y, z] _ (by simp) (fun q hq => ?_) (Or.inr ⟨_, _, rfl, by simp, fun i hi => ?_⟩) (fun q hq => ?_)
  · simp at hq; rcases hq with rfl | rfl | rfl <;> assumption
  · have hc : ∀ j, (wb.alloc (.cells #[.int .i64 x.f.kind, .string x.f.pl.cls, .string x.f.pl.meth, .int .i64 x.f.pl.ins, .string x.f.what, .slice x.a x.f.path.length x.cp, .int .i64 y.f.kind, .string y.f.pl.cls, .string y.f.pl.meth, .int .i64 y.f.pl.ins, .string y.f.what, .slice y.a y.f.path.length y.cp, .int .i64 z.f.kind, .string z.f.pl.cls, .string z.f.pl.meth, .int .i64 z.f.pl.ins, .string z.f.what, .slice z.a z.f.path.length z.cp] 26)).cell? ⟨wb.heap.size, j, none⟩ = #[Value.int .i64 x.f.kind, .string x.f.pl.cls, .string x.f.pl.meth, .int .i64 x.f.pl.ins, .string x.f.what, .slice x.a x.f.path.length x.cp, .int .i64 y.f.kind, .string y.f.pl.cls, .string y.f.pl.meth, .int .i64 y.f.pl.ins, .string y.f.what, .slice y.a y.f.path.length y.cp, .int .i64 z.f.kind, .string z.f.pl.cls, .string z.f.pl.meth, .int .i64 z.f.pl.ins, .string z.f.what, .slice z.a z.f.path.length z.cp][j]? := fun j => World.cell?_alloc_mark wb _ _ _ j
    have hi2 : i = 0 ∨ i = 1 ∨ i = 2 := by simp at hi; omega
    rcases hi2 with rfl | rfl | rfl
    · exact ⟨hc 0, hc 1, hc 2, hc 3, hc 4, hc 5⟩
    · exact ⟨hc 6, hc 7, hc 8, hc 9, hc 10, hc 11⟩
    · exact ⟨hc 12, hc 13, hc 14, hc 15, hc 16, hc 17⟩
  · simp at hq; rcases hq with rfl | rfl | rfl
    · exact gx.below ba
    · exact gy.below ba
    · exact gz.below ba

set_option maxRecDepth 100000 in
set_option maxHeartbeats 8000000 in
theorem order_three (b off cp : Nat) (x y z : El) (w : World) (hE : Env w) (hb : b < w.heap.size) (hA : ElsAt w b off [x, y, z]) (gx : GoodIn w x) (gy : GoodIn w y) (gz : GoodIn w z) (px : x.f.path.length * 40 ≤ 140737488355328) (py : y.f.path.length * 40 ≤ 140737488355328) (pz : z.f.path.length * 40 ≤ 140737488355328) :
    Calls Tryd.prog 5 #[.slice (some ⟨b, off, none⟩) 3 cp] w fun e w' => e = .returned (.bool true) ∧ Below w.heap.size w w' := by
  have HE := Lib.hid hE
  have HA := Lib.hid hA
  have GX := Lib.hid gx
  have GY := Lib.hid gy
  have GZ := Lib.hid gz
  clear hE hA gx gy gz
  go_enter Tryd.func5, Tryd.ntmps5
  go_wp2_with fail
  refine (size_any (some ⟨b, off, none⟩) cp [x, y, z] w (by simp) (fun q hq => by simp at hq; rcases hq with rfl | rfl | rfl <;> assumption) (Or.inr ⟨b, off, rfl, hb, HA.out⟩)).mono ?_
  rintro e w1 ⟨⟨r, rfl, _⟩, hb1⟩
  have B1 := Lib.hid hb1
  have HA1 : Hid (∃ q, q = 0) := ⟨0, rfl⟩
  clear HA1
  have s0 := (HA.out 0 (by simp)).below hb hb1
  have s1 := (HA.out 1 (by simp)).below hb hb1
  have s2 := (HA.out 2 (by simp)).below hb hb1
  have hlt1 : b < w1.heap.size := Nat.lt_of_lt_of_le hb hb1.size
  clear hb1
  cases r with
  | false =>
    clear s0 s1 s2
    go_wp2_with fail
    refine (awake_any _ (HE.out.below B1.out)).mono ?_
    rintro e w2 ⟨rfl, hb2⟩
    have B2 : Hid (Below w.heap.size w w2) := over hb2 B1.out B1.out.size
    clear hb2
    go_wp2_with fail
    go_ret
    exact ⟨rfl, B2.out⟩
  | true =>
    obtain ⟨p0, p1, p2, p3, p4, p5⟩ := s0
    obtain ⟨q0, q1, q2, q3, q4, q5⟩ := s1
    obtain ⟨r0, r1, r2, r3, r4, r5⟩ := s2
    simp only [List.getElem_cons_zero, List.getElem_cons_succ, Nat.zero_mul, Nat.add_zero, Nat.one_mul, Nat.reduceMul] at p0 p1 p2 p3 p4 p5 q0 q1 q2 q3 q4 q5 r0 r1 r2 r3 r4 r5
    have hh1 : b < w1.heap.size + 1 := by omega
    have hh2 : b < w1.heap.size + 1 + 1 := by omega
    go_upto_region 3 with fail
    go_cut [3, 4, 5] from 8 to 76 (fun s3 s4 s5 wx => ∃ ba bb bc : Nat, s3 = .pointer (some ⟨ba, 0, none⟩) ∧ s4 = .pointer (some ⟨bb, 0, none⟩) ∧ s5 = .pointer (some ⟨bc, 0, none⟩) ∧ Box wx ba x ∧ Box wx bb y ∧ Box wx bc z ∧ Hid (Below w.heap.size w wx))
    case first =>
      go_region
      all_goals clear hh1 hh2 p0 p1 p2 p3 p4 p5 q0 q1 q2 q3 q4 q5 r0 r1 r2 r3 r4 r5
      all_goals (go_wp2_with fail; go_meet)
      all_goals exact ⟨_, _, _, rfl, rfl, rfl, ⟨by go_simp, by go_simp, by go_simp, by go_simp, by go_simp, by go_simp⟩, ⟨by go_simp, by go_simp, by go_simp, by go_simp, by go_simp, by go_simp⟩, ⟨by go_simp, by go_simp, by go_simp, by go_simp, by go_simp, by go_simp⟩, over (by go_grown) B1.out B1.out.size⟩
    case rest =>
      clear hh1 hh2 p0 p1 p2 p3 p4 p5 q0 q1 q2 q3 q4 q5 r0 r1 r2 r3 r4 r5
      obtain ⟨ba, bb, bc, rfl, rfl, rfl, k1, k2, k3, HB⟩ := hcut
      obtain ⟨W0, hW0⟩ : ∃ v, v = wc := ⟨wc, rfl⟩
      subst hW0
      have KB := Lib.hid (And.intro k1 (And.intro k2 k3))
      clear k1 k2 k3 hlt1 B1 HA hb
      have HBC : Hid (Below W0.heap.size W0 W0) := Below.refl _ _
      have GXC := Lib.hid (GX.out.below HB.out)
      have GYC := Lib.hid (GY.out.below HB.out)
      have GZC := Lib.hid (GZ.out.below HB.out)
      have HEC := Lib.hid (HE.out.below HB.out)
      have C1 := Lib.hid (fun W' (hb : Below W0.heap.size W0 W') => compare_any x.f y.f x.a y.a x.cp y.cp W' GXC.out.ok.n1 (GXC.out.path.below hb) (GYC.out.path.below hb))
      have C2 := Lib.hid (fun W' (hb : Below W0.heap.size W0 W') => compare_any y.f x.f y.a x.a y.cp x.cp W' GYC.out.ok.n1 (GYC.out.path.below hb) (GXC.out.path.below hb))
      have C3 := Lib.hid (fun W' (hb : Below W0.heap.size W0 W') => compare_any x.f x.f x.a x.a x.cp x.cp W' GXC.out.ok.n1 (GXC.out.path.below hb) (GXC.out.path.below hb))
      have C4 := Lib.hid (fun W' (hb : Below W0.heap.size W0 W') => compare_any y.f z.f y.a z.a y.cp z.cp W' GYC.out.ok.n1 (GYC.out.path.below hb) (GZC.out.path.below hb))
      have C5 := Lib.hid (fun W' (hb : Below W0.heap.size W0 W') => compare_any x.f z.f x.a z.a x.cp z.cp W' GXC.out.ok.n1 (GXC.out.path.below hb) (GZC.out.path.below hb))
      rw [show cmpFd y.f x.f = - cmpFd x.f y.f from fd_cmp.anti _ _] at C2
      rw [fd_cmp.refl x.f] at C3
      unfold Fd.val at C1 C2 C3 C4 C5
      have htr : cmpFd x.f y.f ≤ 0 → cmpFd y.f z.f ≤ 0 → cmpFd x.f z.f ≤ 0 := fd_cmp.trans _ _ _
      have hrg := range_fd x.f y.f
      generalize cmpFd x.f y.f = vab at *
      generalize cmpFd y.f z.f = vbc at *
      generalize cmpFd x.f z.f = vac at *
      have HTR := Lib.hid htr
      clear htr
      have hw1 : IntKind.i64.wrap (- -vab) = vab := by rw [IntWalk.i64_in _ (by omega)]; omega
      have hw2 : IntKind.i64.wrap vab = vab := by rw [IntWalk.i64_in _ (by omega)]
      obtain ⟨p0, p1, p2, p3, p4, p5⟩ := KB.out.1.below HBC.out
      obtain ⟨q0, q1, q2, q3, q4, q5⟩ := KB.out.2.1.below HBC.out
      obtain ⟨r0, r1, r2, r3, r4, r5⟩ := KB.out.2.2.below HBC.out
      have pp0 := cell_regrown p0
      have pp1 := cell_regrown p1
      have pp2 := cell_regrown p2
      have pp3 := cell_regrown p3
      have pp4 := cell_regrown p4
      have pp5 := cell_regrown p5
      have qq0 := cell_regrown q0
      have qq1 := cell_regrown q1
      have qq2 := cell_regrown q2
      have qq3 := cell_regrown q3
      have qq4 := cell_regrown q4
      have qq5 := cell_regrown q5
      have rr0 := cell_regrown r0
      have rr1 := cell_regrown r1
      have rr2 := cell_regrown r2
      have rr3 := cell_regrown r3
      have rr4 := cell_regrown r4
      have rr5 := cell_regrown r5
      clear p0 p1 p2 p3 p4 p5 q0 q1 q2 q3 q4 q5 r0 r1 r2 r3 r4 r5
      go_wp2_with fail
      refine wp_region_below (by kernel_rfl) (by kernel_rfl) ?_
      repeat (quiet_step (first
        | with_reducible exact Calls.regrown_of (C1.out _ (below_regrown _ _ _))
        | with_reducible exact Calls.regrown_of (C2.out _ (below_regrown _ _ _))
        | with_reducible exact Calls.regrown_of (C3.out _ (below_regrown _ _ _))))
      refine wpQuiet_nil ?_
      clear pp0 pp1 pp2 pp3 pp4 pp5 qq0 qq1 qq2 qq3 qq4 qq5 rr0 rr1 rr2 rr3 rr4 rr5 hw1 hw2 hrg
      intro wq hq
      have HBQ : Hid (Below W0.heap.size W0 wq) := Lib.hid hq.out
      clear hq
      go_upto_region 6 with fail
      go_cut [55] from 26 to 54 (fun s55 wx => s55 = .bool false ∧ Hid (Below W0.heap.size W0 wx))
      case first =>
        obtain ⟨p0, p1, p2, p3, p4, p5⟩ := KB.out.1.below HBQ.out
        obtain ⟨q0, q1, q2, q3, q4, q5⟩ := KB.out.2.1.below HBQ.out
        obtain ⟨r0, r1, r2, r3, r4, r5⟩ := KB.out.2.2.below HBQ.out
        by_cases h1 : vab ≤ 0
        · by_cases h2 : vbc ≤ 0
          · have h3 := HTR.out h1 h2
            have d1 : decide (vab ≤ 0) = true := decide_eq_true h1
            have d2 : decide (vbc ≤ 0) = true := decide_eq_true h2
            have d3 : decide (vac > 0) = false := decide_eq_false (by omega)
            have d4 : ¬ 0 < vac := by omega
            go_wp2_with fail
            refine (C1.out _ HBQ.out).mono ?_
            rintro e wa ⟨rfl, hbk⟩
            have HB1 : Hid (Below W0.heap.size W0 wa) := over hbk HBQ.out HBQ.out.size
            clear hbk p0 p1 p2 p3 p4 p5 q0 q1 q2 q3 q4 q5 r0 r1 r2 r3 r4 r5
            obtain ⟨p0, p1, p2, p3, p4, p5⟩ := KB.out.1.below HB1.out
            obtain ⟨q0, q1, q2, q3, q4, q5⟩ := KB.out.2.1.below HB1.out
            obtain ⟨r0, r1, r2, r3, r4, r5⟩ := KB.out.2.2.below HB1.out
            go_wp2_with fail
            refine (C4.out _ HB1.out).mono ?_
            rintro e wb ⟨rfl, hbk⟩
            have HB2 : Hid (Below W0.heap.size W0 wb) := over hbk HB1.out HB1.out.size
            clear hbk p0 p1 p2 p3 p4 p5 q0 q1 q2 q3 q4 q5 r0 r1 r2 r3 r4 r5
            obtain ⟨p0, p1, p2, p3, p4, p5⟩ := KB.out.1.below HB2.out
            obtain ⟨q0, q1, q2, q3, q4, q5⟩ := KB.out.2.1.below HB2.out
            obtain ⟨r0, r1, r2, r3, r4, r5⟩ := KB.out.2.2.below HB2.out
            go_wp2_with fail
            refine (C5.out _ HB2.out).mono ?_
            rintro e wd ⟨rfl, hbk⟩
            have HB3 : Hid (Below W0.heap.size W0 wd) := over hbk HB2.out HB2.out.size
            clear hbk p0 p1 p2 p3 p4 p5 q0 q1 q2 q3 q4 q5 r0 r1 r2 r3 r4 r5
            obtain ⟨p0, p1, p2, p3, p4, p5⟩ := KB.out.1.below HB3.out
            obtain ⟨q0, q1, q2, q3, q4, q5⟩ := KB.out.2.1.below HB3.out
            obtain ⟨r0, r1, r2, r3, r4, r5⟩ := KB.out.2.2.below HB3.out
            go_wp2_with fail
            go_meet
            exact ⟨rfl, HB3⟩
          · have d1 : decide (vab ≤ 0) = true := decide_eq_true h1
            have d2 : decide (vbc ≤ 0) = false := decide_eq_false h2
            go_wp2_with fail
            refine (C1.out _ HBQ.out).mono ?_
            rintro e wa ⟨rfl, hbk⟩
            have HB1 : Hid (Below W0.heap.size W0 wa) := over hbk HBQ.out HBQ.out.size
            clear hbk p0 p1 p2 p3 p4 p5 q0 q1 q2 q3 q4 q5 r0 r1 r2 r3 r4 r5
            obtain ⟨p0, p1, p2, p3, p4, p5⟩ := KB.out.1.below HB1.out
            obtain ⟨q0, q1, q2, q3, q4, q5⟩ := KB.out.2.1.below HB1.out
            obtain ⟨r0, r1, r2, r3, r4, r5⟩ := KB.out.2.2.below HB1.out
            go_wp2_with fail
            refine (C4.out _ HB1.out).mono ?_
            rintro e wb ⟨rfl, hbk⟩
            have HB2 : Hid (Below W0.heap.size W0 wb) := over hbk HB1.out HB1.out.size
            clear hbk p0 p1 p2 p3 p4 p5 q0 q1 q2 q3 q4 q5 r0 r1 r2 r3 r4 r5
            obtain ⟨p0, p1, p2, p3, p4, p5⟩ := KB.out.1.below HB2.out
            obtain ⟨q0, q1, q2, q3, q4, q5⟩ := KB.out.2.1.below HB2.out
            obtain ⟨r0, r1, r2, r3, r4, r5⟩ := KB.out.2.2.below HB2.out
            go_wp2_with fail
            go_meet
            exact ⟨rfl, HB2⟩
        · have d1 : decide (vab ≤ 0) = false := decide_eq_false h1
          go_wp2_with fail
          refine (C1.out _ HBQ.out).mono ?_
          rintro e wa ⟨rfl, hbk⟩
          have HB1 : Hid (Below W0.heap.size W0 wa) := over hbk HBQ.out HBQ.out.size
          clear hbk p0 p1 p2 p3 p4 p5 q0 q1 q2 q3 q4 q5 r0 r1 r2 r3 r4 r5
          obtain ⟨p0, p1, p2, p3, p4, p5⟩ := KB.out.1.below HB1.out
          obtain ⟨q0, q1, q2, q3, q4, q5⟩ := KB.out.2.1.below HB1.out
          obtain ⟨r0, r1, r2, r3, r4, r5⟩ := KB.out.2.2.below HB1.out
          go_wp2_with fail
          go_meet
          exact ⟨rfl, HB1⟩
      case rest =>
        obtain ⟨rfl, HBR⟩ := hcut
        obtain ⟨W1, hW1⟩ : ∃ v, v = wc := ⟨wc, rfl⟩
        subst hW1
        obtain ⟨p0, p1, p2, p3, p4, p5⟩ := KB.out.1.below HBR.out
        obtain ⟨q0, q1, q2, q3, q4, q5⟩ := KB.out.2.1.below HBR.out
        obtain ⟨r0, r1, r2, r3, r4, r5⟩ := KB.out.2.2.below HBR.out
        clear C1 C2 C3 C4 C5 HTR HBQ
        go_wp2_with fail
        refine (sort_three x y z W1 (GXC.out.below HBR.out) (GYC.out.below HBR.out) (GZC.out.below HBR.out) px py pz).mono ?_
        rintro e w3 ⟨g1, c1, t1, zs1, rfl, hg1, hp1, hs1, hf1, hA1, hl1, hG1, hb1⟩
        have HB3 : Hid (Below W0.heap.size W0 w3) := over hb1 (over (by go_grown) HBR.out HBR.out.size) (by have := HBR.out.size; simp; omega)
        have H1 := Lib.hid (And.intro hp1 (And.intro hs1 (And.intro hf1 (And.intro hA1 (And.intro hl1 hG1)))))
        clear hg1 hp1 hs1 hf1 hA1 hl1 hG1 hb1 p0 p1 p2 p3 p4 p5 q0 q1 q2 q3 q4 q5 r0 r1 r2 r3 r4 r5
        obtain ⟨p0, p1, p2, p3, p4, p5⟩ := KB.out.1.below HB3.out
        obtain ⟨q0, q1, q2, q3, q4, q5⟩ := KB.out.2.1.below HB3.out
        obtain ⟨r0, r1, r2, r3, r4, r5⟩ := KB.out.2.2.below HB3.out
        go_wp2_with fail
        refine (sort_three z y x w3 (GZC.out.below HB3.out) (GYC.out.below HB3.out) (GXC.out.below HB3.out) pz py px).mono ?_
        rintro e w4 ⟨g2, c2, t2, zs2, rfl, hg2, hp2, hs2, hf2, hA2, hl2, hG2, hb2⟩
        have HB34 : Hid (Below w3.heap.size w3 w4) := over hb2 (by go_grown) (by simp)
        have HB4 : Hid (Below W0.heap.size W0 w4) := over HB34.out HB3.out HB3.out.size
        have hsame : Hid (SameEls zs1 zs2) := (sorts_same (H1.out.1.trans (List.Perm.trans (by
          have : [x, y, z].Perm [z, y, x].reverse := by simp
          exact this.trans (List.reverse_perm _)) hp2.symm)) H1.out.2.1 hs2).of_f H1.out.2.2.1 hf2
        have hpos : 1 ≤ zs1.length := by
          have h0 : t1 ≠ [] := fun e => by have := H1.out.1.length_eq; rw [e] at this; simp at this
          have := compact_pos h0
          have h2 := congrArg List.length H1.out.2.2.1
          simp at h2; omega
        have hlen : zs1.length ≤ 3 := by
          have h1 := compact_len t1
          have h2 := congrArg List.length H1.out.2.2.1
          have h3 := H1.out.1.length_eq
          simp at h2 h3; omega
        have H2 := Lib.hid (And.intro hA2 (And.intro hl2 hG2))
        clear hg2 hp2 hs2 hf2 hA2 hl2 hG2 hb2 p0 p1 p2 p3 p4 p5 q0 q1 q2 q3 q4 q5 r0 r1 r2 r3 r4 r5
        have hposz : decide ((1 : Int) ≤ (zs1.length : Int)) = true := decide_eq_true (by omega)
        go_wp2_with fail
        refine (same_any (some ⟨g1, 0, none⟩) (some ⟨g2, 0, none⟩) c1 c2 zs1 zs2 w4 (by omega) hsame.out (ElsOf.below (Or.inr ⟨g1, 0, rfl, H1.out.2.2.2.2.1, H1.out.2.2.2.1⟩) HB34.out) (Or.inr ⟨g2, 0, rfl, H2.out.2.1, H2.out.1⟩) (fun q hq => (H1.out.2.2.2.2.2 q hq).below HB34.out) H2.out.2.2).mono ?_
        rintro e w5 ⟨rfl, hb5⟩
        have HB5 : Hid (Below W0.heap.size W0 w5) := over hb5 HB4.out HB4.out.size
        clear hb5
        go_wp2_with fail
        refine (awake_any _ (HEC.out.below HB5.out)).mono ?_
        rintro e w6 ⟨rfl, hb6⟩
        have HB6 : Hid (Below W0.heap.size W0 w6) := over hb6 HB5.out HB5.out.size
        have HBF : Hid (Below w.heap.size w w6) := over HB6.out HB.out HB.out.size
        clear hb6
        go_wp2_with fail
        go_ret
        exact ⟨rfl, HBF.out⟩

set_option maxHeartbeats 4000000 in
theorem order_any (a : Option Addr) (cp : Nat) (xs : List El) (w : World) (hE : Env w) (hn : xs.length ≤ 4398046511104) (h : ElsOf w a xs) (hG : ∀ x ∈ xs, GoodIn w x) (hp : ∀ x ∈ xs, x.f.path.length * 40 ≤ 140737488355328) :
    Calls Tryd.prog 5 #[.slice a xs.length cp] w fun e w' => e = .returned (.bool true) ∧ Below w.heap.size w w' := by
  by_cases h3 : xs.length = 3
  · match xs, h3 with
    | [x, y, z], _ =>
      rcases h with h | ⟨b, off, rfl, hb, hA⟩
      · cases h
      · exact order_three b off cp x y z w hE hb hA (hG x (by simp)) (hG y (by simp)) (hG z (by simp)) (hp x (by simp)) (hp y (by simp)) (hp z (by simp))
  · have hne : ((xs.length : Int) != 3) = true := by simp; omega
    have HE := Lib.hid hE
    clear hE hG hp h h3
    go_enter Tryd.func5, Tryd.ntmps5
    go_wp2_with fail
    refine (awake_any _ HE.out).mono ?_
    rintro e w1 ⟨rfl, hb1⟩
    have B1 : Hid (Below w.heap.size w w1) := hb1
    clear hb1
    go_wp2_with fail
    go_ret
    exact ⟨rfl, B1.out⟩
end Go.Proofs.YtffmeglcakcpdaaDoor
