/- The walk of the reference's Sort. -/
import Derived.Test.YtffmeglcakcpdaaDoorRefP
import Derived.Deep.RegionHeld3
import Derived.Deep.CutRange
set_option linter.unusedVariables false
set_option linter.unusedSimpArgs false
namespace Go.Proofs.YtffmeglcakcpdaaDoor
open Go.RowKit

/-- append at a step of a region that draws its order -/
theorem step_appEl {ops : Array Oper} {o : Oper} {a : Act} {w : World} {K : Act → World → Prop} {Q : Exit → Act → World → Prop} {E : Prop} (hgd : o.guard = none) (s x : Operand)
    (ho : o.op = .call { callee := .builtin .append, args := #[s, x], argTypes := #[33, 33] })
    {B : Nat} {v xv : Value} {xs ys : List El} (hs : a.eval s = v) (hx : a.eval x = xv) (hown : OwnEl B w v xs) (hsrc : SrcEl w xv ys) (hn : (xs.length + ys.length) * 88 ≤ 140737488355328) (hB : B ≤ w.heap.size)
    (h : ∀ v' w', OwnEl B w' v' (xs ++ ys) → w.grownBy w' v.ownBlock → Below B w w' → K (a.put o.dst v') w') :
    if Region.wanted o (yielded ops a.tmps) = true then Oper.wp Tryd.prog o a w K Q else E := by
  have hw : Region.wanted o (yielded ops a.tmps) = true := by simp [Region.wanted, hgd]
  rw [if_pos hw]
  obtain ⟨v', w', hr, h2, h3, h4⟩ := run_appEl w o.type hown hsrc hn hB
  unfold Oper.wp execOp
  simp only [ho, resolve, invoke, builtin, Sem.run_bind, Sem.run_pure, Result.andThen_ok, List.map_toArray, List.map_cons, List.map_nil, hs, hx, hr]
  refine h v' w' h2 h3 ?_
  exact (Below.refl B w).grown h3 hB (fun k hk => (World.ownsRow.lt hown k hk).1)
theorem OwnEl.empty {w : World} {B g : Nat} (hB : B ≤ g) (hh : w.heap[g]? = some (.cells #[] 26 (0, 0))) : OwnEl B w (.slice (some ⟨g, 0, none⟩) 0 0) [] :=
  ⟨by simp [flatFd], Or.inr ⟨g, 0, #[], rfl, hB, hh, Nat.le_refl _, by unfold maxLen; omega, by simp, by simp [flatFd]⟩⟩
theorem SrcEl.block {w : World} {g : Nat} {x : El} (hh : w.heap[g]? = some (.cells #[.int .i64 x.f.kind, .string x.f.pl.cls, .string x.f.pl.meth, .int .i64 x.f.pl.ins, .string x.f.what, .slice x.a x.f.path.length x.cp] 26 (0, 0))) : SrcEl w (.slice (some ⟨g, 0, none⟩) 1 1) [x] :=
  Or.inr ⟨⟨g, 0, none⟩, 1, rfl, World.news_of_block (cs := #[.int .i64 x.f.kind, .string x.f.pl.cls, .string x.f.pl.meth, .int .i64 x.f.pl.ins, .string x.f.what, .slice x.a x.f.path.length x.cp]) hh⟩
theorem drewHeap (w : World) : w.drew.heap = w.heap := rfl
theorem allocHeap (w : World) (o : Obj) : (w.alloc o).heap = w.heap.push o := rfl
theorem keepD {w w' : World} {B b o : Nat} {v : Value} (h : w.cell? ⟨b, o, none⟩ = some v) (hb : Below B w w') (hlt : b < B) : w'.cell? ⟨b, o, none⟩ = some v := by
  rw [hb.cell (p := ⟨b, o, none⟩) hlt]; exact h
theorem keepE {W w w' : World} {B : Nat} (h : Hid (Below B W w)) (hb : Below B w w') : Hid (Below B W w') := h.out.trans hb

theorem OwnEl.below {w w' : World} {B : Nat} {v : Value} {xs : List El} (h : OwnEl B w v xs) (hb : Below w.heap.size w w') : OwnEl B w' v xs := by
  obtain ⟨h1, h2 | ⟨g, cap, cur, a, b, c, d⟩⟩ := h
  · exact ⟨h1, Or.inl h2⟩
  · exact ⟨h1, Or.inr ⟨g, cap, cur, a, b, (hb.block g (Array.getElem?_eq_some_iff.1 c).1).trans c, d⟩⟩
theorem sixB_step {W w w' : World} {bl o : Nat} {x : El} (h : w.cell? ⟨bl, o, none⟩ = some (.int .i64 x.f.kind) ∧ w.cell? ⟨bl, o + 1, none⟩ = some (.string x.f.pl.cls) ∧ w.cell? ⟨bl, o + 2, none⟩ = some (.string x.f.pl.meth) ∧ w.cell? ⟨bl, o + 3, none⟩ = some (.int .i64 x.f.pl.ins) ∧ w.cell? ⟨bl, o + 4, none⟩ = some (.string x.f.what) ∧ w.cell? ⟨bl, o + 5, none⟩ = some (.slice x.a x.f.path.length x.cp) ∧ Hid (Below W.heap.size W w)) (hb : Below W.heap.size w w') (hbl : bl < W.heap.size) :
    w'.cell? ⟨bl, o, none⟩ = some (.int .i64 x.f.kind) ∧ w'.cell? ⟨bl, o + 1, none⟩ = some (.string x.f.pl.cls) ∧ w'.cell? ⟨bl, o + 2, none⟩ = some (.string x.f.pl.meth) ∧ w'.cell? ⟨bl, o + 3, none⟩ = some (.int .i64 x.f.pl.ins) ∧ w'.cell? ⟨bl, o + 4, none⟩ = some (.string x.f.what) ∧ w'.cell? ⟨bl, o + 5, none⟩ = some (.slice x.a x.f.path.length x.cp) ∧ Hid (Below W.heap.size W w') :=
  ⟨keepD h.1 hb hbl, keepD h.2.1 hb hbl, keepD h.2.2.1 hb hbl, keepD h.2.2.2.1 hb hbl, keepD h.2.2.2.2.1 hb hbl, keepD h.2.2.2.2.2.1 hb hbl, keepE h.2.2.2.2.2.2 hb⟩
theorem below_allocD {w : World} {B : Nat} (h : B ≤ w.heap.size) (o : Obj) : Below B w.drew (w.alloc o).drew :=
  have g := (Below.refl B w).alloc h o
  ⟨g.os, g.tape, g.output, g.size, g.block⟩
theorem sixB_allocD {W w : World} {bl o : Nat} {x : El} {ob : Obj} (h : w.drew.cell? ⟨bl, o, none⟩ = some (.int .i64 x.f.kind) ∧ w.drew.cell? ⟨bl, o + 1, none⟩ = some (.string x.f.pl.cls) ∧ w.drew.cell? ⟨bl, o + 2, none⟩ = some (.string x.f.pl.meth) ∧ w.drew.cell? ⟨bl, o + 3, none⟩ = some (.int .i64 x.f.pl.ins) ∧ w.drew.cell? ⟨bl, o + 4, none⟩ = some (.string x.f.what) ∧ w.drew.cell? ⟨bl, o + 5, none⟩ = some (.slice x.a x.f.path.length x.cp) ∧ Hid (Below W.heap.size W w.drew)) (hbl : bl < W.heap.size) :
    (w.alloc ob).drew.cell? ⟨bl, o, none⟩ = some (.int .i64 x.f.kind) ∧ (w.alloc ob).drew.cell? ⟨bl, o + 1, none⟩ = some (.string x.f.pl.cls) ∧ (w.alloc ob).drew.cell? ⟨bl, o + 2, none⟩ = some (.string x.f.pl.meth) ∧ (w.alloc ob).drew.cell? ⟨bl, o + 3, none⟩ = some (.int .i64 x.f.pl.ins) ∧ (w.alloc ob).drew.cell? ⟨bl, o + 4, none⟩ = some (.string x.f.what) ∧ (w.alloc ob).drew.cell? ⟨bl, o + 5, none⟩ = some (.slice x.a x.f.path.length x.cp) ∧ Hid (Below W.heap.size W (w.alloc ob).drew) := sixB_step h (below_allocD (w := w) h.2.2.2.2.2.2.out.size ob) hbl
theorem sixB_alloc {W w : World} {bl o : Nat} {x : El} {ob : Obj} (h : w.cell? ⟨bl, o, none⟩ = some (.int .i64 x.f.kind) ∧ w.cell? ⟨bl, o + 1, none⟩ = some (.string x.f.pl.cls) ∧ w.cell? ⟨bl, o + 2, none⟩ = some (.string x.f.pl.meth) ∧ w.cell? ⟨bl, o + 3, none⟩ = some (.int .i64 x.f.pl.ins) ∧ w.cell? ⟨bl, o + 4, none⟩ = some (.string x.f.what) ∧ w.cell? ⟨bl, o + 5, none⟩ = some (.slice x.a x.f.path.length x.cp) ∧ Hid (Below W.heap.size W w)) (hbl : bl < W.heap.size) :
    (w.alloc ob).cell? ⟨bl, o, none⟩ = some (.int .i64 x.f.kind) ∧ (w.alloc ob).cell? ⟨bl, o + 1, none⟩ = some (.string x.f.pl.cls) ∧ (w.alloc ob).cell? ⟨bl, o + 2, none⟩ = some (.string x.f.pl.meth) ∧ (w.alloc ob).cell? ⟨bl, o + 3, none⟩ = some (.int .i64 x.f.pl.ins) ∧ (w.alloc ob).cell? ⟨bl, o + 4, none⟩ = some (.string x.f.what) ∧ (w.alloc ob).cell? ⟨bl, o + 5, none⟩ = some (.slice x.a x.f.path.length x.cp) ∧ Hid (Below W.heap.size W (w.alloc ob)) := sixB_step h ((Below.refl _ w).alloc h.2.2.2.2.2.2.out.size ob) hbl
theorem sixB_bel {W w : World} {bl o : Nat} {x : El} (h : w.cell? ⟨bl, o, none⟩ = some (.int .i64 x.f.kind) ∧ w.cell? ⟨bl, o + 1, none⟩ = some (.string x.f.pl.cls) ∧ w.cell? ⟨bl, o + 2, none⟩ = some (.string x.f.pl.meth) ∧ w.cell? ⟨bl, o + 3, none⟩ = some (.int .i64 x.f.pl.ins) ∧ w.cell? ⟨bl, o + 4, none⟩ = some (.string x.f.what) ∧ w.cell? ⟨bl, o + 5, none⟩ = some (.slice x.a x.f.path.length x.cp) ∧ Hid (Below W.heap.size W w)) : Below W.heap.size W w := h.2.2.2.2.2.2.out
/-- where a part of a slice lies -/
theorem src_part {W : World} {a : Option Addr} {l : List El} {cap k m : Nat} (hm : k + m ≤ l.length) (h : ElsOf W a l) (a' : Option Addr) (c' : Nat) (ha : a' = a.map (·.add (k * 6)) ∨ m = 0) (hn : a' = none → m = 0) :
    ∀ w', Below W.heap.size W w' → SrcEl w' (.slice a' m c') ((l.drop k).take m) := fun w' hb => by
  have hl : ((l.drop k).take m).length = m := by simp; omega
  cases a' with
  | none =>
    have := hn rfl
    subst this
    exact Or.inl ⟨c', rfl, by simp⟩
  | some a' =>
    refine Or.inr ⟨a', c', by rw [hl], fun j u hj => ?_⟩
    by_cases hm0 : m = 0
    · subst hm0; simp [flatFd] at hj
    · rcases ha with ha | ha
      · rcases h.below hb with rfl | ⟨b, off, rfl, hlt, he⟩
        · simp at hm; omega
        · simp only [Option.map_some, Option.some.injEq] at ha
          have he2 : ElsAt w' b (off + k * 6) ((l.drop k).take m) := fun i hi => by
            have := he (k + i) (by rw [hl] at hi; omega)
            rw [show off + (k + i) * 6 = off + k * 6 + i * 6 by omega] at this
            rw [List.getElem_take, List.getElem_drop]
            exact this
          have := flatFd_cells he2 j u hj
          have h2 : a' = ⟨b, off + k * 6, none⟩ := by rw [ha]; unfold Addr.add; split <;> simp_all
          rw [h2]; exact this
      · exact absurd ha hm0

theorem elemTS : Tryd.prog.underlying 33 = some (.slice (Tryd.prog.elem 33)) := by kernel_rfl
theorem sizeElemTS (w : World) : (sizeOf (Tryd.prog.elem 33)).run Tryd.prog w = .ok 6 w := by kernel_rfl
theorem slice_head {W : World} {a : Option Addr} {l : List El} {cap k : Nat} (hk : k ≤ l.length) (hcap : l.length ≤ cap) (h : ElsOf W a l) (hnone : a = none → l = [] ∧ cap = 0) :
    ∃ x, (∀ w, (Instr.slice 33 (.slice a l.length cap) none (some (.int .i64 k)) none).run Tryd.prog w = .ok x w) ∧ ∀ w', Below W.heap.size W w' → SrcEl w' x (l.take k) := by
  refine ⟨sliced a 0 k cap 6, fun w => ?_, ?_⟩
  · rw [run_slice_h w 33 a l.length cap elemTS .i64 k (by omega) (by omega), sizeElemTS]; rfl
  · unfold sliced
    have := src_part (cap := cap) (k := 0) (m := k) (by omega) h (if cap = 0 then a else a.map (·.add (0 * 6))) (cap - 0) (by
      by_cases e : cap = 0
      · right; omega
      · left; rw [if_neg e]) (fun e => by
        cases a with
        | none => have := (hnone rfl).2; omega
        | some a => split at e <;> cases e)
    simpa using this
theorem slice_tail {W : World} {a : Option Addr} {l : List El} {cap k : Nat} (hk : k ≤ l.length) (hcap : l.length ≤ cap) (h : ElsOf W a l) (hnone : a = none → l = [] ∧ cap = 0) :
    ∃ x, (∀ w, (Instr.slice 33 (.slice a l.length cap) (some (.int .i64 k)) none none).run Tryd.prog w = .ok x w) ∧ ∀ w', Below W.heap.size W w' → SrcEl w' x (l.drop k) := by
  refine ⟨sliced a k l.length cap 6, fun w => ?_, ?_⟩
  · rw [run_slice_l w 33 a l.length cap elemTS .i64 k (by omega) (by omega), sizeElemTS]; rfl
  · unfold sliced
    have := src_part (cap := cap) (k := k) (m := l.length - k) (by omega) h (if cap = k then a else a.map (·.add (k * 6))) (cap - k) (by
      by_cases e : cap = k
      · right; omega
      · left; rw [if_neg e]) (fun e => by
        cases a with
        | none => have := (hnone rfl).1; subst this; simp
        | some a => split at e <;> cases e)
    have e2 : (l.drop k).take (l.length - k) = l.drop k := List.take_of_length_le (by simp)
    rw [e2] at this
    exact this

/-- what the reference's Sort returns -/
def RefFd (w : World) (xs : List El) (e : Ending) (w' : World) : Prop := ∃ v l, e = .returned v ∧ OwnEl w.heap.size w' v l ∧ RefS xs xs.length l ∧ Below w.heap.size w w'

set_option maxRecDepth 100000 in
set_option maxHeartbeats 8000000 in
theorem refSort_any (a : Option Addr) (cp : Nat) (xs : List El) (w : World) (hn : xs.length ≤ 1000000) (h : ElsOf w a xs) (hG : ∀ x ∈ xs, GoodIn w x) :
    Calls Tryd.prog 17 #[.slice a xs.length cp] w (RefFd w xs) := by
  have HX := Lib.hid h
  have HG := Lib.hid hG
  clear h hG
  go_enter Tryd.func17, Tryd.ntmps17
  go_wp2_with fail
  go_loopg [3, 4] xs.length (fun g v3 vi wr => ∃ (i : Nat), vi = .int .i64 i ∧ i ≤ xs.length ∧ xs.length - i ≤ g ∧ Hid (∃ l, OwnEl w.heap.size wr v3 l ∧ RefS xs i l) ∧ Hid (Below w.heap.size w wr))
  case atStart => exact ⟨0, rfl, by omega, by omega, ⟨[], OwnEl.nil _ _, RefS.start _⟩, Below.refl _ _⟩
  case round =>
    obtain ⟨i, rfl, hi, hg, HL, HB⟩ := hrel
    obtain ⟨l, own, R⟩ := HL.out
    obtain ⟨al, cap, rfl, hcap, hels, hnone, hat⟩ := own.form
    have hll := R.len
    have HO := Lib.hid own
    have HR := Lib.hid R
    have HEL := Lib.hid hels
    have HN := Lib.hid hnone
    have HAT := Lib.hid hat
    clear own R hels hnone hat HL
    by_cases hlt : i < xs.length
    · obtain ⟨bl, ol, rfl, hbl0, hA⟩ := HX.out.at hlt
      obtain ⟨wo, hwo⟩ : ∃ v, v = wr := ⟨wr, rfl⟩
      subst hwo
      have HS6 := Lib.hid ((hA i hlt).below hbl0 HB.out)
      have hblo : bl < wo.heap.size := Nat.lt_of_lt_of_le hbl0 HB.out.size
      have gx := Lib.hid ((HG.out _ (List.getElem_mem hlt)).below HB.out)
      have HXM := Lib.hid (show xs[i] ∈ xs from List.getElem_mem hlt)
      have HINS := Lib.hid (fun k (hk : k ≤ l.length) h1 h2 => HR.out.ins hlt (k := k) hk h1 h2)
      have HSAME := Lib.hid (fun k (hk : k < l.length) e => HR.out.same hlt (k := k) hk e)
      clear hA
      generalize xs[i] = x at *
      go_wp2_with fail
      go_loopg [5] l.length (fun g2 vk wr2 => ∃ (k : Nat), vk = .int .i64 k ∧ k ≤ l.length ∧ l.length - k ≤ g2 ∧ Hid (Below wo.heap.size wo wr2) ∧ Hid (∀ j (h : j < l.length), j < k → cmpEl l[j] x < 0))
      case atStart => exact ⟨0, rfl, by omega, by omega, Below.refl _ _, fun j h hj => by omega⟩
      case round =>
        obtain ⟨k, rfl, hk, hg2, HB2, HLT⟩ := hrel
        by_cases hkl : k < l.length
        · obtain ⟨bk, ok, rfl, hbk, hAk⟩ := HEL.out.at hkl
          have HSK := Lib.hid (hAk k hkl)
          have gk := Lib.hid ((HG.out _ (HR.out.sub _ (List.getElem_mem hkl))).below HB.out)
          clear hAk
          have hwp : (k : Int) < (l.length : Int) := by omega
          have hkd : decide ((k : Int) < (l.length : Int)) = true := decide_eq_true hwp
          have kz0 : (0 : Int) ≤ (k : Int) := by omega
          have iz : (i : Int) < (xs.length : Int) := by omega
          have iz0 : (0 : Int) ≤ (i : Int) := by omega
          obtain ⟨p0, p1, p2, p3, p4, p5⟩ := (HSK.out.below hbk HB2.out)
          obtain ⟨q0, q1, q2, q3, q4, q5⟩ := (HS6.out.below hblo HB2.out)
          have r0 := cell_regrown p0
          have r1 := cell_regrown p1
          have r2 := cell_regrown p2
          have r3 := cell_regrown p3
          have r4 := cell_regrown p4
          have r5 := cell_regrown p5
          have v0 := cell_regrown q0
          have v1 := cell_regrown q1
          have v2 := cell_regrown q2
          have v3 := cell_regrown q3
          have v4 := cell_regrown q4
          have v5 := cell_regrown q5
          clear p0 p1 p2 p3 p4 p5 q0 q1 q2 q3 q4 q5
          have HQ : Hid (∀ d os, Calls Tryd.prog 9 #[El.val l[k], x.val] (Sort.grow (redrawn wr d) os) fun e w'' => e = .returned (.int .i64 (cmpEl l[k] x)) ∧ ∃ p : Regrown, w'' = Sort.grow (redrawn wr p.d) p.os) := fun d os =>
            Calls.regrown_of (compareR_any _ _ _ _ _ _ (Sort.grow (redrawn wr d) os) gk.out.ok.n1 gx.out.ok.n1 ((gk.out.path.below HB2.out).below (below_regrown _ _ _)) ((gx.out.path.below HB2.out).below (below_regrown _ _ _)))
          go_wp2_with fail
          refine wp_region_below (by kernel_rfl) (by kernel_rfl) ?_
          repeat (quiet_step (exact HQ.out _ _))
          refine wpQuiet_nil ?_
          clear r0 r1 r2 r3 r4 r5 v0 v1 v2 v3 v4 v5 HQ
          intro wq hq
          have HB3 : Hid (Below wo.heap.size wo wq) := over hq.out HB2.out HB2.out.size
          by_cases hc : cmpEl l[k] x < 0
          · have HLT2 : Hid (∀ j (h : j < l.length), j < k + 1 → cmpEl l[j] x < 0) := fun j h hj => by
              by_cases e : j = k
              · subst e; exact hc
              · exact HLT.out j h (by omega)
            clear iz iz0 kz0 hwp hkd
            go_wp2_with fail
            go_roundg (l.length - (k + 1))
            case measure => omega
            case rel => exact ⟨k + 1, by go_num, by omega, by omega, HB3, HLT2⟩
          · have hcz : decide (cmpEl l[k] x < 0) = false := decide_eq_false hc
            obtain ⟨p0, p1, p2, p3, p4, p5⟩ := (HSK.out.below hbk HB3.out)
            obtain ⟨q0, q1, q2, q3, q4, q5⟩ := (HS6.out.below hblo HB3.out)
            have r0 := cell_regrown p0
            have r1 := cell_regrown p1
            have r2 := cell_regrown p2
            have r3 := cell_regrown p3
            have r4 := cell_regrown p4
            have r5 := cell_regrown p5
            have v0 := cell_regrown q0
            have v1 := cell_regrown q1
            have v2 := cell_regrown q2
            have v3 := cell_regrown q3
            have v4 := cell_regrown q4
            have v5 := cell_regrown q5
            clear p0 p1 p2 p3 p4 p5 q0 q1 q2 q3 q4 q5
            have HQ : Hid (∀ d os, Calls Tryd.prog 9 #[El.val l[k], x.val] (Sort.grow (redrawn wq d) os) fun e w'' => e = .returned (.int .i64 (cmpEl l[k] x)) ∧ ∃ p : Regrown, w'' = Sort.grow (redrawn wq p.d) p.os) := fun d os =>
              Calls.regrown_of (compareR_any _ _ _ _ _ _ (Sort.grow (redrawn wq d) os) gk.out.ok.n1 gx.out.ok.n1 ((gk.out.path.below HB3.out).below (below_regrown _ _ _)) ((gx.out.path.below HB3.out).below (below_regrown _ _ _)))
            go_wp2_with fail
            refine wp_region_below (by kernel_rfl) (by kernel_rfl) ?_
            repeat (quiet_step (exact HQ.out _ _))
            refine wpQuiet_nil ?_
            clear r0 r1 r2 r3 r4 r5 v0 v1 v2 v3 v4 v5 HQ
            intro wp hp
            have HB4 : Hid (Below wo.heap.size wo wp) := over hp.out HB3.out HB3.out.size
            by_cases hc0 : cmpEl l[k] x = 0
            · have HN9 : Hid (∃ l1, OwnEl w.heap.size wp (.slice (some ⟨bk, ok, none⟩) l.length cap) l1 ∧ RefS xs (i + 1) l1) := ⟨l, HO.out.below HB4.out, HSAME.out k hkl hc0⟩
              have HBF : Hid (Below w.heap.size w wp) := over HB4.out HB.out HB.out.size
              clear iz iz0 kz0 hwp hkd
              have hce : (cmpEl l[k] x == 0) = true := by simpa using hc0
              go_wp2_with fail
              go_roundg (xs.length - (i + 1))
              case measure => omega
              case rel => exact ⟨i + 1, by go_num, by omega, by omega, HN9, HBF⟩
            · have hce : (cmpEl l[k] x == 0) = false := by simpa using hc0
              have HGE : Hid (∀ h : k < l.length, 0 < cmpEl l[k] x) := fun _ => by omega
              clear iz iz0 kz0 hwp hkd hc hc0 hcz
              obtain ⟨W, hW⟩ : ∃ v, v = wp := ⟨wp, rfl⟩
              subst hW
              have hWs := HB4.out.size
              have hbl : bl < W.heap.size := by omega
              obtain ⟨x1, hs1, hx1⟩ := slice_head (W := W) hk hcap (HEL.out.below HB4.out) HN.out
              obtain ⟨x2, hs2, hx2⟩ := slice_tail (W := W) hk hcap (HEL.out.below HB4.out) HN.out
              have HS1 := Lib.hid hx1
              have HS2 := Lib.hid hx2
              obtain ⟨p0, p1, p2, p3, p4, p5⟩ := HS6.out.below hblo HB4.out
              have HINSK := Lib.hid (HINS.out k hk HLT.out HGE.out)
              have iz : (i : Int) < (xs.length : Int) := by omega
              have iz0 : (0 : Int) ≤ (i : Int) := by omega
              clear hx1 hx2
              go_wp2_with fail
              go_region_held3 (fun w' => w'.cell? ⟨bl, ol + i * 6, none⟩ = some (.int .i64 x.f.kind) ∧ w'.cell? ⟨bl, ol + i * 6 + 1, none⟩ = some (.string x.f.pl.cls) ∧ w'.cell? ⟨bl, ol + i * 6 + 2, none⟩ = some (.string x.f.pl.meth) ∧ w'.cell? ⟨bl, ol + i * 6 + 3, none⟩ = some (.int .i64 x.f.pl.ins) ∧ w'.cell? ⟨bl, ol + i * 6 + 4, none⟩ = some (.string x.f.what) ∧ w'.cell? ⟨bl, ol + i * 6 + 5, none⟩ = some (.slice x.a x.f.path.length x.cp) ∧ Hid (Below W.heap.size W w'))
                  (first
                    | exact ⟨p0, p1, p2, p3, p4, p5, (Below.refl _ _).drew⟩
                    | exact sixB_step (by assumption) hb3 hbl
                    | exact sixB_step (by assumption) hb2 hbl
                    | exact sixB_step (by assumption) hb1 hbl
                    | exact sixB_allocD (by assumption) hbl
                    | exact sixB_alloc (by assumption) hbl)
                  (first
                    | (refine step_appEl (by rfl) (.tmp 46) (.tmp 49) (by rfl) (B := W.heap.size) (ys := l.take k) (by rfl) (by rfl) (OwnEl.empty (by first | exact Nat.le_refl _ | omega | (simp only [drewHeap, allocHeap, Array.size_push]; omega)) (by simp only [drewHeap, allocHeap, Array.getElem?_push, Array.size_push]; simp)) (HS1.out _ (sixB_bel (by assumption))) (by simp only [List.length_append, List.length_take, List.length_drop, List.length_cons, List.length_nil]; omega) (Nat.le_trans (Nat.le_refl _) (sixB_bel (by assumption)).size) ?_; intro v1 w1 own1 grow1 hb1)
                    | (refine step_appEl (by rfl) (.tmp 50) (.tmp 55) (by rfl) (B := W.heap.size) (ys := [x]) (by rfl) (by rfl) (by first | exact own1 | exact own1.alloc _) (SrcEl.block (by first | exact heap_alloc_new _ _ | (rw [grow1.block _ (by first | omega | (simp only [drewHeap, allocHeap, Array.size_push]; omega)) (by simp [Value.ownBlock])]; simp only [drewHeap, allocHeap, Array.getElem?_push, Array.size_push]; simp))) (by simp only [List.length_append, List.length_take, List.length_drop, List.length_cons, List.length_nil]; omega) (Nat.le_trans (Nat.le_refl _) (sixB_bel (by assumption)).size) ?_; intro v2 w2 own2 grow2 hb2)
                    | (refine step_appEl (by rfl) (.tmp 56) (.tmp 59) (by rfl) (B := W.heap.size) (ys := l.drop k) (by rfl) (by rfl) own2 (HS2.out _ (sixB_bel (by assumption))) (by simp only [List.length_append, List.length_take, List.length_drop, List.length_cons, List.length_nil]; omega) (Nat.le_trans (Nat.le_refl _) (sixB_bel (by assumption)).size) ?_; intro v3 w3 own3 grow3 hb3))
              all_goals
                have HB9 : Hid (Below wo.heap.size wo w3) := Lib.hid (over (sixB_bel (by assumption)) HB4.out HB4.out.size)
                have HN9 : Hid (∃ l, OwnEl w.heap.size w3 v3 l ∧ RefS xs (i + 1) l) := ⟨_, own3.base (by have := HB.out.size; omega), HINSK.out⟩
                have HBF : Hid (Below w.heap.size w w3) := over HB9.out HB.out HB.out.size
                clear hs1 hs2 iz iz0 own1 own2 own3 grow1 grow2 grow3 hb1 hb2 hb3
                go_wp2_with fail
                go_roundg (xs.length - (i + 1))
                case measure => omega
                case rel => exact ⟨i + 1, by go_num, by omega, by omega, HN9, HBF⟩
        · have hkd : decide ((k : Int) < (l.length : Int)) = false := decide_eq_false (by omega)
          have HGE : Hid (∀ h : k < l.length, 0 < cmpEl l[k] x) := fun h => absurd h hkl
          have hkn : decide (k < l.length) = false := decide_eq_false hkl
          have hki : ¬ (k : Int) < (l.length : Int) := by omega
          go_wp2_with fail
          go_quiet (fail)
          generalize hwq : wr.drewN _ = wq at *
          have HB3 : Hid (Below wo.heap.size wo wq) := by rw [← hwq]; exact below_drewN HB2.out _
          clear hwq
          go_wp2_with fail
          go_quiet (fail)
          generalize hwp : wq.drewN _ = wp at *
          have HB4 : Hid (Below wo.heap.size wo wp) := by rw [← hwp]; exact below_drewN HB3.out _
          clear hwp
          obtain ⟨W, hW⟩ : ∃ v, v = wp := ⟨wp, rfl⟩
          subst hW
          have hWs := HB4.out.size
          have hbl : bl < W.heap.size := by omega
          obtain ⟨x1, hs1, hx1⟩ := slice_head (W := W) hk hcap (HEL.out.below HB4.out) HN.out
          obtain ⟨x2, hs2, hx2⟩ := slice_tail (W := W) hk hcap (HEL.out.below HB4.out) HN.out
          have HS1 := Lib.hid hx1
          have HS2 := Lib.hid hx2
          obtain ⟨p0, p1, p2, p3, p4, p5⟩ := HS6.out.below hblo HB4.out
          have HINSK := Lib.hid (HINS.out k hk HLT.out HGE.out)
          have iz : (i : Int) < (xs.length : Int) := by omega
          have iz0 : (0 : Int) ≤ (i : Int) := by omega
          clear hx1 hx2
          go_wp2_with fail
          go_region_held3 (fun w' => w'.cell? ⟨bl, ol + i * 6, none⟩ = some (.int .i64 x.f.kind) ∧ w'.cell? ⟨bl, ol + i * 6 + 1, none⟩ = some (.string x.f.pl.cls) ∧ w'.cell? ⟨bl, ol + i * 6 + 2, none⟩ = some (.string x.f.pl.meth) ∧ w'.cell? ⟨bl, ol + i * 6 + 3, none⟩ = some (.int .i64 x.f.pl.ins) ∧ w'.cell? ⟨bl, ol + i * 6 + 4, none⟩ = some (.string x.f.what) ∧ w'.cell? ⟨bl, ol + i * 6 + 5, none⟩ = some (.slice x.a x.f.path.length x.cp) ∧ Hid (Below W.heap.size W w'))
              (first
                | exact ⟨p0, p1, p2, p3, p4, p5, (Below.refl _ _).drew⟩
                | exact sixB_step (by assumption) hb3 hbl
                | exact sixB_step (by assumption) hb2 hbl
                | exact sixB_step (by assumption) hb1 hbl
                | exact sixB_allocD (by assumption) hbl
                | exact sixB_alloc (by assumption) hbl)
              (first
                | (refine step_appEl (by rfl) (.tmp 46) (.tmp 49) (by rfl) (B := W.heap.size) (ys := l.take k) (by rfl) (by rfl) (OwnEl.empty (by first | exact Nat.le_refl _ | omega | (simp only [drewHeap, allocHeap, Array.size_push]; omega)) (by simp only [drewHeap, allocHeap, Array.getElem?_push, Array.size_push]; simp)) (HS1.out _ (sixB_bel (by assumption))) (by simp only [List.length_append, List.length_take, List.length_drop, List.length_cons, List.length_nil]; omega) (Nat.le_trans (Nat.le_refl _) (sixB_bel (by assumption)).size) ?_; intro v1 w1 own1 grow1 hb1)
                | (refine step_appEl (by rfl) (.tmp 50) (.tmp 55) (by rfl) (B := W.heap.size) (ys := [x]) (by rfl) (by rfl) (by first | exact own1 | exact own1.alloc _) (SrcEl.block (by first | exact heap_alloc_new _ _ | (rw [grow1.block _ (by first | omega | (simp only [drewHeap, allocHeap, Array.size_push]; omega)) (by simp [Value.ownBlock])]; simp only [drewHeap, allocHeap, Array.getElem?_push, Array.size_push]; simp))) (by simp only [List.length_append, List.length_take, List.length_drop, List.length_cons, List.length_nil]; omega) (Nat.le_trans (Nat.le_refl _) (sixB_bel (by assumption)).size) ?_; intro v2 w2 own2 grow2 hb2)
                | (refine step_appEl (by rfl) (.tmp 56) (.tmp 59) (by rfl) (B := W.heap.size) (ys := l.drop k) (by rfl) (by rfl) own2 (HS2.out _ (sixB_bel (by assumption))) (by simp only [List.length_append, List.length_take, List.length_drop, List.length_cons, List.length_nil]; omega) (Nat.le_trans (Nat.le_refl _) (sixB_bel (by assumption)).size) ?_; intro v3 w3 own3 grow3 hb3))
          all_goals
            have HB9 : Hid (Below wo.heap.size wo w3) := Lib.hid (over (sixB_bel (by assumption)) HB4.out HB4.out.size)
            have HN9 : Hid (∃ l, OwnEl w.heap.size w3 v3 l ∧ RefS xs (i + 1) l) := ⟨_, own3.base (by have := HB.out.size; omega), HINSK.out⟩
            have HBF : Hid (Below w.heap.size w w3) := over HB9.out HB.out HB.out.size
            clear hs1 hs2 iz iz0 own1 own2 own3 grow1 grow2 grow3 hb1 hb2 hb3
            go_wp2_with fail
            go_roundg (xs.length - (i + 1))
            case measure => omega
            case rel => exact ⟨i + 1, by go_num, by omega, by omega, HN9, HBF⟩
    · have e : i = xs.length := by omega
      have HF : Hid (RefFd w xs (.returned (.slice al l.length cap)) wr) := ⟨_, l, rfl, HO.out, by have := HR.out; rw [e] at this; exact this, HB.out⟩
      go_wp2_with fail
      go_ret
      exact HF.out
end Go.Proofs.YtffmeglcakcpdaaDoor
