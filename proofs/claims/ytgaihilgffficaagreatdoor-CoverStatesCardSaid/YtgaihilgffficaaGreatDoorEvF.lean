/- CoverStates, part 4 -/
import Derived.Test.YtgaihilgffficaaGreatDoorEvP
import Derived.Deep.AppendSrc
import Derived.RangeFuncLeaves
import Derived.OrdersIn
set_option linter.all false
namespace Go.Proofs.YtgaihilgffficaaGreatDoor.Ev
open Go
variable {dr : Prop}
section
variable {P : Program} {ng : Nat} {o : Oper} {c : C} {sl : Tr AV} {h : H}
theorem qe {t : TypeId} (e : Dg P t = some none) (w : World) : (isAgg t).run P w = .ok false w := by
 unfold Dg at e
 split at e <;> try (cases e; done)
 rename_i d i h1 h2 hd hi
 simp only [isAgg, Sem.run_bind, run_underlying hd, Result.andThen_ok]
 cases d <;> first | rfl | exact absurd rfl (h1 _) | exact absurd rfl (h2 _ _)
theorem qf {t : TypeId} {n : Nat} (e : Dg P t = some (some n)) (w : World) : (isAgg t).run P w = .ok true w ∧ (sizeOf t).run P w = .ok n w := by
 unfold Dg at e
 split at e
 ·rename_i fs i h1 h2
  cases e
  exact ⟨by simp [isAgg, run_underlying h1], by simp [sizeOf, run_typeInfo w h2]⟩
 ·rename_i a b i h1 h2
  cases e
  exact ⟨by simp [isAgg, run_underlying h1], by simp [sizeOf, run_typeInfo w h2]⟩
 ·cases e
 ·cases e
theorem yX {β : cn} {w : World} {id off : Nat} {u : Value} {vs : List AV} (hr : HR c.floor β (view c h) w) (hv : VR β (.ptr id off) u) (hg : cT c h id = some (.cells vs)) :
    ∃ L, β id = some L ∧ u = .pointer (some ⟨L.cm, L.base + off, none⟩) ∧ BR β L w (.cells vs) := by
 simp only [VR] at hv
 obtain ⟨L, h1, h2⟩ := hv
 obtain ⟨L', h3, _, h4⟩ := hr.at_ id _ (dB hg)
 rw [h1] at h3; cases h3
 exact ⟨L, h1, h2, h4⟩
theorem FF {t : TypeId} {y : Operand} {x : XV} {id off : Nat} {vs : List AV} {v : AV} (ho : o.op = .load t y) (hx : cV y = some x) (ht : Dg P t = some none) (hv : bR sl x = .ptr id off)
    (hg : cT c h id = some (.cells vs)) (hn : vs[off]? = some v) (hw : WF h) : qc dr P ng o c sl h v h := by
 refine ba hw fun β a w hr hop => ?_
 have h1 := hop y (by simp [ho, Op.operands]) x hx
 rw [hv] at h1
 obtain ⟨L, hL, hu, hb⟩ := yX hr h1 hg
 obtain ⟨u, hc, hvr⟩ := uX hb hn
 refine ⟨u, ?_, hvr⟩
 simp [execOp, ho, Instr.loadAt, Instr.sureAddr, hu, loadVar, qe ht, hc]
theorem FG {t : TypeId} {y : Operand} {x : XV} {id off n : Nat} {vs : List AV} (ho : o.op = .load t y) (hx : cV y = some x) (ht : Dg P t = some (some n)) (hv : bR sl x = .ptr id off)
    (hg : cT c h id = some (.cells vs)) (hn : off + n ≤ vs.length) (hw : WF h) : qc dr P ng o c sl h (.agg ((vs.drop off).take n)) h := by
 refine ba hw fun β a w hr hop => ?_
 have h1 := hop y (by simp [ho, Op.operands]) x hx
 rw [hv] at h1
 obtain ⟨L, hL, hu, hb⟩ := yX hr h1 hg
 obtain ⟨cs, hvr, hc⟩ := kZ hb hn
 have hl : cs.length = n := by rw [← hvr.length]; simp; omega
 have hld := run_loadCells_list (P := P) w _ cs hc
 rw [hl] at hld
 refine ⟨.agg cs.toArray, ?_, ?_⟩
 ·simp [execOp, ho, Instr.loadAt, Instr.sureAddr, hu, loadVar, (qf ht w).1, (qf ht w).2, hld]
 ·simp only [VR]; exact ⟨_, rfl, by simpa using hvr⟩
/-! writing -/
theorem jl (b : Nat) (e : TypeId) (fr : Nat × Nat) : ∀ (vs : List Value) (o : Nat) (w : World) (cur : Array Value), w.heap[b]? = some (.cells cur e fr) → o + vs.length ≤ cur.size →
    ∃ cur', (w.setCells b o vs).heap[b]? = some (.cells cur' e fr) ∧ cur'.size = cur.size ∧ (∀ i, i < o ∨ o + vs.length ≤ i → cur'[i]? = cur[i]?) ∧ ∀ j, j < vs.length → cur'[o + j]? = vs[j]?
 | [], o, w, cur, h, _ => ⟨cur, h, rfl, fun _ _ => rfl, fun j hj => by simp at hj⟩
 | v :: vs, o, w, cur, h, hl => by
  have hl' : o + 1 + vs.length ≤ cur.size := by simp at hl; omega
  have h1 : (w.setCell ⟨b, o, none⟩ v).heap[b]? = some (.cells (cur.setIfInBounds o v) e fr) := by
   simp [World.setCell, Array.getElem?_modify, h]
  obtain ⟨cur', a1, a2, a3, a4⟩ := jl b e fr vs (o + 1) (w.setCell ⟨b, o, none⟩ v) (cur.setIfInBounds o v) h1 (by simpa using hl')
  refine ⟨cur', a1, by simpa using a2, fun i hi => ?_, fun j hj => ?_⟩
  ·rw [a3 i (by simp at hi; omega)]
   rw [Array.getElem?_setIfInBounds_ne (by simp at hi; omega)]
  ·cases j with
   | zero =>
    have := a3 o om
    rw [Nat.add_zero, this]
    simp [Array.getElem?_setIfInBounds]; omega
   | succ j =>
    have := a4 j (by simpa using hj)
    rw [show o + (j + 1) = o + 1 + j by omega, this]; simp
theorem jm (b k : Nat) (hk : k ≠ b) : ∀ (vs : List Value) (o : Nat) (w : World), (w.setCells b o vs).heap[k]? = w.heap[k]?
 | [], o, w => rfl
 | v :: vs, o, w => by
  have := jm b k hk vs (o + 1) (w.setCell ⟨b, o, none⟩ v)
  refine Eq.trans this ?_
  simp [World.setCell, Array.getElem?_modify, Ne.symm hk]
theorem jU (b : Nat) : ∀ (vs : List Value) (o : Nat) (w : World), (w.setCells b o vs).heap.size = w.heap.size ∧ (w.setCells b o vs).os = w.os ∧ ((w.setCells b o vs).tape = w.tape ∧ w.drawn ≤ (w.setCells b o vs).drawn) ∧ (w.setCells b o vs).output = w.output
 | [], o, w => ⟨rfl, rfl, ⟨rfl, Nat.le_refl _⟩, rfl⟩
 | v :: vs, o, w => by
  obtain ⟨h1, h2, h3, h4⟩ := jU b vs (o + 1) (w.setCell ⟨b, o, none⟩ v)
  exact ⟨Eq.trans h1 (by simp [World.setCell]), h2, h3, h4⟩
theorem NV {β : cn} {v : AV} {u : Value} (h : VR β v u) (ho : one v = true) : u.oneCell' = true := by
 cases v <;> simp only [one, Bool.false_eq_true] at ho <;> simp only [VR] at h <;> first
  | (subst h; rfl)
  | (obtain ⟨_, rfl, _⟩ := h; rfl)
  | (obtain ⟨_, _, rfl⟩ := h; rfl)
  | (obtain ⟨_, _, rfl, _⟩ := h; rfl)
  | (obtain ⟨_, _, _, _, rfl, _⟩ := h; rfl)
theorem yY {β : cn} : ∀ {vs : List AV} {cs : List Value}, bE β vs cs → cw vs = true → ∀ u ∈ cs, u.oneCell' = true
 | [], cs, h, _, u, hu => by simp only [bE] at h; subst h; cases hu
 | v :: vs, cs, h, ho, u, hu => by
  simp only [bE] at h
  obtain ⟨c', cs', rfl, h1, h2⟩ := h
  have hh : one v = true ∧ cw vs = true := by
   unfold cw at ho
   cases hv : one v with
   | true => rw [hv] at ho; exact ⟨rfl, ho⟩
   | false => rw [hv] at ho; cases ho
  rcases List.mem_cons.1 hu with rfl | hu
  ·exact NV h1 hh.1
  ·exact yY h2 hh.2 u hu
theorem FH {β : cn} {L : Loc} {w : World} {vs us : List AV} {cs : List Value} {off : Nat} (hb : BR β L w (.cells vs)) (hu : bE β us cs) (hn : off + us.length ≤ vs.length) :
    BR β L (w.setCells L.cm (L.base + off) cs) (.cells (vs.take off ++ (us ++ vs.drop (off + us.length)))) ∧ L.base + off + cs.length ≤ L.size ∨ us = [] := by
 by_cases hz : us = []
 ·exact Or.inr hz
 left
 obtain ⟨cur, e, h1, h2, h3⟩ := hb
 have hlen := hu.length
 have hpos : 0 < us.length := List.length_pos_iff.2 hz
 have hsz : L.base + off + cs.length ≤ cur.size := by
  have e1 : vs[off + us.length - 1]? = some (vs[off + us.length - 1]'om) := by simp
  obtain ⟨u, a, _⟩ := h3 _ _ e1
  have := (Array.getElem?_eq_some_iff.1 a).1
  omega
 obtain ⟨cur', a1, a2, a3, a4⟩ := jl L.cm e.1 e.2 cs (L.base + off) w cur h1 hsz
 have hfit := h2.fit
 refine ⟨⟨cur', e, a1, ⟨by rw [a2]; exact h2.le, by simp; omega, h2.nf⟩, fun i v hi => ?_⟩, om⟩
 by_cases x : i < off
 ·rw [List.getElem?_append_left (by simp; omega), List.getElem?_take_of_lt x] at hi
  obtain ⟨u, b1, b2⟩ := h3 i v hi
  exact ⟨u, by rw [a3 _ (by omega)]; exact b1, b2⟩
 ·have e0 : (vs.take off).length = off := by simp; omega
  rw [List.getElem?_append_right (by omega), e0] at hi
  by_cases y : i - off < us.length
  ·rw [List.getElem?_append_left y] at hi
   obtain ⟨u, b1, b2⟩ := hu.get hi
   refine ⟨u, ?_, b2⟩
   rw [show L.base + i = L.base + off + (i - off) by omega, a4 _ (by omega)]; exact b1
  ·rw [List.getElem?_append_right (by omega), List.getElem?_drop] at hi
   obtain ⟨u, b1, b2⟩ := h3 _ v hi
   refine ⟨u, ?_, b2⟩
   rw [a3 _ (by omega), ← b1]; congr 1; omega
theorem jn {t : TypeId} {n : Nat} (e : te P t = some n) (w : World) : (sizeOf t).run P w = .ok n w := by
 unfold te at e
 cases hi : P.info? t with
 | none => rw [hi] at e; cases e
 | some i => rw [hi] at e; cases e; simp [sizeOf, run_typeInfo w hi]
theorem FI {t : TypeId} {y z : Operand} {x xz : XV} {id off n : Nat} {vs : List AV} (ho : o.op = .store t y z) (hx : cV y = some x) (hxz : cV z = some xz) (ht : te P t = some n) (hv : bR sl x = .ptr id off)
    (hg : cT c h id = some (.cells vs)) (hl : (bR sl xz).cells.length = n) (h1 : cw (bR sl xz).cells = true) (hn : off + n ≤ vs.length) (hf : c.floor ≤ id) (hw : WF h) :
    qc dr P ng o c sl h (.bO []) ⟨Tr.set depth h.t id (.cells (vs.take off ++ ((bR sl xz).cells ++ vs.drop (off + (bR sl xz).cells.length)))), h.n⟩ := by
 obtain ⟨g1, g2⟩ := dQ hg
 have bV : id < id + 1 := Nat.lt_succ_self _
 refine ⟨mq hw g1 hf g2, fun β a w hgb hr hop hfr K Q hK => ?_⟩
 have k1 := hop y (by simp [ho, Op.operands]) x hx
 have k2 := hop z (by simp [ho, Op.operands]) xz hxz
 rw [hv] at k1
 obtain ⟨L, hL, hu, hb⟩ := yX hr k1 hg
 have hcs := k2.cells (fun q => by rw [q] at h1; cases h1)
 have hlen := hcs.length
 have hblk : L.cm < w.heap.size := by
  obtain ⟨L', h3, h4, _⟩ := hr.at_ id _ (dB hg)
  rw [hL] at h3; cases h3; exact h4
 have hrun : (execOp a.eval o).run P w = .ok .skip (w.setCells L.cm (L.base + off) (a.eval z).cells.toList) := by
  obtain ⟨cur, e, b1, b2, b3⟩ := hb
  have hst := run_storeCells_cells (P := P) L.cm (L.base + off) (a.eval z).cells.toList 0 w (fun j hj => by
      have e1 : vs[off + j]? = some (vs[off + j]'om) := by simp
      obtain ⟨u, d1, _⟩ := b3 _ _ e1
      simp [World.cell?, b1, Nat.add_assoc, d1]) (fun j hj => by unfold World.frozen?; simp only [b1]; exact b2.nf _ om (by have := b2.fit; omega)) (yY hcs h1)
  simp only [Nat.add_zero] at hst
  have hsz : (a.eval z).cells.size = n := by rw [← hl, hlen]; simp
  simp [execOp, ho, Instr.storeAt, Instr.sureAddr, hu, storeVar, jn ht, hsz, hst]
 unfold Oper.wp
 rw [hrun]
 obtain ⟨r1, r2, r3, r4⟩ := jU L.cm (a.eval z).cells.toList (L.base + off) w
 refine hK β undef _ (kX hr (dB hg) hL hf (fun B hB => jm L.cm B hB _ _ _) r1 r2 ⟨r3.1, fun _ => r3.2⟩ r4 ?_ (fun j d e => mr bV e)) (by simp [VR, bE, undef])
 rcases FH hb hcs (by rw [hl]; exact hn) with h5 | h5
 ·exact h5.1
 ·have e2 : (a.eval z).cells.toList = [] := by rw [← List.length_eq_zero_iff, ← hlen, h5]; rfl
  rw [h5, e2]
  simpa [World.setCells] using hb
end
section
variable {P : Program} {ng : Nat} {o : Oper} {c : C} {sl : Tr AV} {h : H}
theorem y4 {y : Operand} {x : XV} {id off : Nat} (ho : o.op = .nilCheck y) (hx : cV y = some x) (hv : bR sl x = .ptr id off) (hw : WF h) : qc dr P ng o c sl h (.ptr id off) h := by
 refine ba hw fun β a w hr hop => ?_
 have h1 := hop y (by simp [ho, Op.operands]) x hx
 rw [hv] at h1
 have h2 := h1
 simp only [VR] at h2
 obtain ⟨L, hL, hu⟩ := h2
 exact ⟨a.eval y, by simp [execOp, ho, hu], h1⟩
theorem Bl {y : Operand} {x : XV} {f : Nat} {cs : List AV} (ho : o.op = .nilCheck y) (hx : cV y = some x) (hv : bR sl x = .fn f cs) (hw : WF h) : qc dr P ng o c sl h (.fn f cs) h := by
 refine ba hw fun β a w hr hop => ?_
 have h1 := hop y (by simp [ho, Op.operands]) x hx
 rw [hv] at h1
 have h2 := h1
 simp only [VR] at h2
 obtain ⟨ds, hu, hd⟩ := h2
 exact ⟨a.eval y, by simp [execOp, ho, hu], h1⟩
theorem FN {s : TypeId} {y : Operand} {x : XV} {id off k : Nat} {fs : Array Field} {f : Field} (ho : o.op = .fieldAddr s y k) (hx : cV y = some x) (hs : P.underlying s = some (.struct fs)) (hf : fs[k]? = some f) {m : Nat} (hm : te P f.type = some (m + 1)) (hv : bR sl x = .ptr id off) (hw : WF h) :
    qc dr P ng o c sl h (.ptr id (off + f.offset)) h := by
 refine ba hw fun β a w hr hop => ?_
 have h1 := hop y (by simp [ho, Op.operands]) x hx
 rw [hv] at h1
 simp only [VR] at h1
 obtain ⟨L, hL, hu⟩ := h1
 refine ⟨.pointer (some ⟨L.cm, L.base + (off + f.offset), none⟩), ?_, by simp only [VR]; exact ⟨L, hL, rfl⟩⟩
 simp [execOp, ho, Instr.fieldAt, Instr.sureAddr, hu, run_underlying hs, hf, fieldPlace, jn hm, add_lit, Nat.add_assoc]
theorem Io {y : Operand} {x : XV} {i : Nat} {vs : List AV} {v : AV} (ho : o.op = .extract y i) (hx : cV y = some x) (hv : bR sl x = .bO vs) (hn : vs[i]? = some v) (hw : WF h) : qc dr P ng o c sl h v h := by
 refine ba hw fun β a w hr hop => ?_
 have h1 := hop y (by simp [ho, Op.operands]) x hx
 rw [hv] at h1
 simp only [VR] at h1
 obtain ⟨cs, hu, hcs⟩ := h1
 obtain ⟨u, k1, k2⟩ := hcs.get hn
 refine ⟨u, ?_, k2⟩
 have k3 : cs[i]? = some u := by simpa using k1
 simp [execOp, ho, Instr.extract, hu, k3]
theorem mQ {k : IntKind} {n : Int} {K : dH} {r : Tr AV × H} (e : Dc k n h K = some r) : k.wrap n = n ∧ K (.int k n) h = some r := by
 unfold Dc at e
 cases hb : w8 k n with
 | true => rw [hb] at e; simp only [cond, eh] at e; exact ⟨Bn hb, e⟩
 | false => rw [hb] at e; cases e
theorem rn {k : IntKind} {n : Int} {K : dH} {r : Tr AV × H} (e : yP k n h K = some r) : K (.int k (k.wrap n)) h = some r := by
 unfold yP at e
 cases hb : w8 k n with
 | true => rw [hb] at e; simp only [cond, eh] at e; rw [Bn hb]; exact e
 | false => rw [hb] at e; exact e
theorem Ip {m : Nat} (hm : m ≤ 18446744073709551615) : IntKind.wrap .u64 (Int.negSucc m) = Int.ofNat (Nat.sub 18446744073709551615 m) := by
 show (if (false && decide (Int.negSucc m % (2 ^ 64 : Int) ≥ 2 ^ 63)) = true then Int.negSucc m % (2 ^ 64 : Int) - 2 ^ 64 else Int.negSucc m % (2 ^ 64 : Int)) = Int.ofNat (18446744073709551615 - m)
 rw [Bool.false_and, if_neg (by decide)]
 have h2 : ((2 : Int) ^ 64) = ((18446744073709551616 : Nat) : Int) := by decide
 rw [h2]
 have e1 : Int.negSucc m = ((18446744073709551615 - m : Nat) : Int) + ((18446744073709551616 : Nat) : Int) * (-1) := by
  rw [Int.negSucc_eq]
  omega
 rw [e1, Int.add_mul_emod_self_left]
 rw [Int.ofNat_eq_natCast]
 have h3 : ((18446744073709551615 - m : Nat) : Int) % ((18446744073709551616 : Nat) : Int) = ((18446744073709551615 - m : Nat) : Int) := Int.emod_eq_of_lt om om
 exact h3
theorem FO {k : IntKind} {n : Int} {K : dH} {r : Tr AV × H} (e : NO k n h K = some r) : K (.int k (k.wrap n)) h = some r := by
 unfold NO at e
 split at e
 ·rename_i m
  cases hb : Nat.ble m 18446744073709551615 with
  | false => rw [hb] at e; cases e
  | true =>
   rw [hb] at e
   simp only [cond, bn] at e
   have hm := Nat.le_of_ble_eq_true hb
   rw [Ip hm]; exact e
 ·obtain ⟨h1, h2⟩ := mQ e
  rw [h1]; exact h2
theorem fF {b : Bool} {K : dH} {r : Tr AV × H} (e : fb b h K = some r) : K (.bool b) h = some r := by
 unfold fb at e; rw [bU] at e; exact e
theorem Iq {op : BinOp} {t t' : TypeId} {y z : Operand} {xy xz : XV} {k : IntKind} {a b : Int} {v : AV} (ho : o.op = .binOp op t y z t') (hy : cV y = some xy) (hz : cV z = some xz) (h1 : bR sl xy = .int k a) (h2 : bR sl xz = .int k b)
    (hg : op ≠ .eql ∧ op ≠ .neq) (hw : WF h) (hrun : ∀ w : World, ∃ u, (binOp op t (.int k a) (.int k b)).run P w = .ok u w ∧ ∀ β, VR β v u) : qc dr P ng o c sl h v h := by
 refine ba hw fun β A w hr hop => ?_
 have k1 := hop y (by simp [ho, Op.operands]) xy hy
 have k2 := hop z (by simp [ho, Op.operands]) xz hz
 rw [h1] at k1
 rw [h2] at k2
 simp only [VR] at k1 k2
 obtain ⟨u, hu, hv⟩ := hrun w
 refine ⟨u, ?_, hv β⟩
 have he : (eqGuard op t y z (.int k a) (.int k b)).run P w = .ok () w := by
  unfold eqGuard
  cases op <;> first | rfl | (exact absurd rfl hg.1) | (exact absurd rfl hg.2)
 simp [execOp, ho, k1, k2, he, hu]
theorem Ir {s : TypeId} {y : Operand} {x : XV} {k : Nat} {fs : Array Field} {f : Field} {vs : List AV} {v : AV} (ho : o.op = .field s y k) (hx : cV y = some x) (hs : P.underlying s = some (.struct fs)) (hf : fs[k]? = some f) (ht : Dg P f.type = some none)
    (hv : bR sl x = .agg vs) (hn : vs[f.offset]? = some v) (hw : WF h) : qc dr P ng o c sl h v h := by
 refine ba hw fun β a w hr hop => ?_
 have h1 := hop y (by simp [ho, Op.operands]) x hx
 rw [hv] at h1
 simp only [VR] at h1
 obtain ⟨cs, hu, hcs⟩ := h1
 obtain ⟨u, k1, k2⟩ := hcs.get hn
 have k3 : cs[f.offset]? = some u := by simpa using k1
 exact ⟨u, by simp [execOp, ho, Instr.field, run_underlying hs, hf, hu, asAgg, part, qe ht, k3], k2⟩
theorem KU {t : TypeId} {y : Operand} {x : XV} {b : Bool} (ho : o.op = .unOp .not t y) (hx : cV y = some x) (hv : bR sl x = .bool b) (hw : WF h) : qc dr P ng o c sl h (.bool (!b)) h := by
 refine ba hw fun β a w hr hop => ?_
 have h1 := hop y (by simp [ho, Op.operands]) x hx
 rw [hv] at h1
 simp only [VR] at h1
 exact ⟨.bool (!b), by simp [execOp, ho, Op.unary, h1], by simp [VR]⟩
end
section
variable {P : Program} {ng : Nat} {o : Oper} {c : C} {sl : Tr AV} {h : H}
theorem FP {t e : TypeId} {y z : Operand} {xy xz : XV} {id off len es esz i : Nat} {cap : Option Nat} {k : IntKind} (ho : o.op = .indexAddr t y z) (hy : cV y = some xy) (hz : cV z = some xz) (ht : P.underlying t = some (.slice e)) (hs : te P e = some esz)
    (h1 : bR sl xy = .sl id off len es cap) (h2 : bR sl xz = .int k (.ofNat i)) (hi : i < len) (hw : WF h) : qc dr P ng o c sl h (.ptr id (off + i * esz)) h := by
 refine ba hw fun β a w hr hop => ?_
 have k1 := hop y (by simp [ho, Op.operands]) xy hy
 have k2 := hop z (by simp [ho, Op.operands]) xz hz
 rw [h1] at k1
 rw [h2] at k2
 simp only [VR] at k1 k2
 obtain ⟨L, o', cp, hL, hu, hle, hsz, hoo, hcap⟩ := k1
 have ho' : o' = L.base + off := by
  rcases hoo with e | ⟨e, _⟩
  ·exact e
  ·omega
 subst ho'
 have hi' : ((i : Nat) : Int) < ((len : Nat) : Int) := by omega
 refine ⟨.pointer (some ⟨L.cm, L.base + (off + i * esz), none⟩), ?_, by simp only [VR]; exact ⟨L, hL, rfl⟩⟩
 simp [execOp, ho, Instr.indexAt, k2, hu, asIntOf, run_underlying ht, jn hs, hi', hi, add_lit, Nat.add_assoc]
theorem It {t : TypeId} {y z : Operand} {xy xz : XV} {s : List Nat} {i b : Nat} {k : IntKind} (ho : o.op = .index t y z) (hy : cV y = some xy) (hz : cV z = some xz) (ht : P.underlying t = some .string)
    (h1 : bR sl xy = .str s) (h2 : bR sl xz = .int k (.ofNat i)) (hi : s[i]? = some b) (hw : WF h) : qc dr P ng o c sl h (.int .u8 (.ofNat b)) h := by
 refine ba hw fun β a w hr hop => ?_
 have k1 := hop y (by simp [ho, Op.operands]) xy hy
 have k2 := hop z (by simp [ho, Op.operands]) xz hz
 rw [h1] at k1
 rw [h2] at k2
 simp only [VR] at k1 k2
 obtain ⟨bs, hu, hbs⟩ := k1
 subst hbs
 rw [List.getElem?_map] at hi
 obtain ⟨c0, BY, rfl⟩ := Option.map_eq_some_iff.1 hi
 have hc1 : bs[i]? = some c0 := by
  have : bs.data[i]? = some c0 := by simpa using BY
  obtain ⟨hlt, he⟩ := Array.getElem?_eq_some_iff.1 this
  exact (getElem?_pos bs i hlt).trans (congrArg some he)
 refine ⟨.int .u8 c0.toNat, ?_, by simp [VR]⟩
 simp [execOp, ho, Instr.index, k2, hu, asIntOf, run_underlying ht, hc1]
theorem FQ {β : cn} {id off len esz l u cp : Nat} {cap : Option Nat} {L : Loc} {oo : Nat} (hL : β id = some L) (hle : len ≤ cp) (hsz : oo + cp * esz ≤ L.size) (hoo : oo = L.base + off ∨ (len = 0 ∧ cp = 0)) (hcap : ∀ c, cap = some c → cp = c)
    (hlu : l ≤ u) (hun : u ≤ len) : VR β (.sl id (off + l * esz) (u - l) esz (cap.map (· - l))) (.slice (if cp = l then some ⟨L.cm, oo, none⟩ else (some (⟨L.cm, oo, none⟩ : Addr)).map (·.add (l * esz))) (u - l) (cp - l)) := by
 simp only [VR]
 have hc : ∀ d, cap.map (· - l) = some d → cp - l = d := fun d hd => by
  cases cap with
  | none => cases hd
  | some c => cases hd; rw [hcap c rfl]
 by_cases e : cp = l
 ·rw [if_pos e]
  refine ⟨L, oo, cp - l, hL, rfl, om, ?_, Or.inr ⟨om, om⟩, hc⟩
  have : cp - l = 0 := by omega
  rw [this, Nat.zero_mul]; omega
 ·rw [if_neg e]
  refine ⟨L, oo + l * esz, cp - l, hL, by simp [add_lit], om, ?_, Or.inl ?_, hc⟩
  ·have : oo + l * esz + (cp - l) * esz = oo + cp * esz := by rw [Nat.add_assoc, ← Nat.add_mul]; congr 2; omega
   omega
  ·rcases hoo with h1 | ⟨h1, h2⟩
   ·omega
   ·omega
theorem rq {β : cn} {a : Act} {d n : Nat} {y : Option Operand} {x : Option XV} (hx : rm y = some x) (hop : ∀ z, y = some z → ∀ q, cV z = some q → VR β (bR sl q) (a.eval z)) (hn : cU sl d x = some n) :
    (y = none ∧ n = d) ∨ ∃ z k, y = some z ∧ a.eval z = .int k (n : Int) := by
 cases y with
 | none => simp [rm] at hx; subst hx; simp [cU] at hn; exact Or.inl ⟨rfl, hn.symm⟩
 | some z =>
  simp only [rm, Option.map_eq_some_iff] at hx
  obtain ⟨q, hq, rfl⟩ := hx
  have h1 := hop z rfl q hq
  simp only [cU] at hn
  cases hv : bR sl q with
  | int k m =>
   rw [hv] at hn h1
   cases m with
   | ofNat m => simp [asNat] at hn; subst hn; simp only [VR] at h1; exact Or.inr ⟨z, k, rfl, h1⟩
   | negSucc m => simp [asNat] at hn
  | _ => rw [hv] at hn; simp [asNat] at hn
theorem FR {t e : TypeId} {y : Operand} {lo hi : Option Operand} {xy : XV} {xl xh : Option XV} {id off len esz l u : Nat} {cap : Option Nat} (ho : o.op = .slice t y lo hi none) (hy : cV y = some xy) (hl : rm lo = some xl) (hh : rm hi = some xh)
    (ht : P.underlying t = some (.slice e)) (hs : te P e = some esz) (h1 : bR sl xy = .sl id off len esz cap) (h2 : cU sl 0 xl = some l) (h3 : cU sl len xh = some u) (hlu : l ≤ u) (hun : u ≤ len) (hw : WF h) :
    qc dr P ng o c sl h (.sl id (off + l * esz) (u - l) esz (cap.map (· - l))) h := by
 refine ba hw fun β a w hr hop => ?_
 have k1 := hop y (by simp [ho, Op.operands]) xy hy
 rw [h1] at k1
 simp only [VR] at k1
 obtain ⟨L, oo, cp, hL, hu, hle, hsz, hoo, hcap⟩ := k1
 have b1 := rq (β := β) (a := a) hl (fun z hz q hq => hop z (by subst hz; simp [ho, Op.operands]) q hq) h2
 have b2 := rq (β := β) (a := a) hh (fun z hz q hq => hop z (by subst hz; simp [ho, Op.operands]) q hq) h3
 refine ⟨_, ?_, FQ hL hle hsz hoo hcap hlu hun⟩
 have hlz : ((l : Nat) : Int) ≤ ((u : Nat) : Int) := by omega
 have huz : ((u : Nat) : Int) ≤ ((cp : Nat) : Int) := by omega
 have hucp : u ≤ cp := by omega
 have hnu : ¬ cp < u := by omega
 have hnl : ¬ u < l := by omega
 rcases b1 with ⟨rfl, rfl⟩ | ⟨z1, q1, rfl, e1⟩ <;> rcases b2 with ⟨rfl, rfl⟩ | ⟨z2, q2, rfl, e2⟩ <;>
  simp [execOp, ho, Instr.sliceAt, Instr.slice, Instr.sliceBounds, Instr.sliceBound, asIntOf, run_underlying ht, hu, jn hs, *]
end
section
variable {P : Program} {ng : Nat} {o : Oper} {c : C} {sl : Tr AV} {h : H}
theorem Iu {f : Nat} {ys : Array Operand} {xs : List XV} (ho : o.op = .makeFunc (.func f) #[] ys) (hx : ys.toList.mapM cV = some xs) (hw : WF h) : qc dr P ng o c sl h (.fn f (xs.map (bR sl))) h := by
 refine ba hw fun β a w hr hop => ?_
 refine ⟨.func (.func f) #[] (ys.map a.eval), by simp [execOp, ho, Instr.makeFunc], ?_⟩
 simp only [VR]
 refine ⟨_, rfl, ?_⟩
 have key : ∀ (l : List Operand) (xs : List XV), l.mapM cV = some xs → (∀ y ∈ l, y ∈ o.op.operands.toList) → bE β (xs.map (bR sl)) (l.map a.eval) := by
  intro l
  induction l with
  | nil => intro xs hxs _; simp at hxs; subst hxs; simp [bE]
  | cons y l ih =>
   intro xs hxs hm
   simp only [List.mapM_cons, Option.bind_eq_bind, Option.bind_eq_some_iff, Option.pure_def, Option.some.injEq] at hxs
   obtain ⟨x, h1, xs', h2, rfl⟩ := hxs
   simp only [List.map_cons, bE]
   exact ⟨_, _, rfl, hop y (hm y (by simp)) x h1, ih xs' h2 fun z hz => hm z (by simp [hz])⟩
 have := key ys.toList xs hx (fun y hy => by simp [ho, Op.operands]; simpa using hy)
 simpa using this
def isLen (o : Oper) (y : Operand) (t : TypeId) : Prop := o.op = .call { callee := .builtin .len, args := #[y], argTypes := #[t] }
theorem mR {y : Operand} {t : TypeId} (ho : isLen o y t) (a : Act) (w : World) {u : Value} (hr : (Builtin.len_ #[t] o.type #[a.eval y]).run P w = .ok u w) : (execOp a.eval o).run P w = .ok (.value u) w := by
 unfold isLen at ho
 simp [execOp, ho, resolve, invoke, builtin, hr]
theorem Dm {y : Operand} {x : XV} {t e : TypeId} {id off len es : Nat} {cap : Option Nat} (ho : isLen o y t) (hx : cV y = some x) (ht : P.underlying t = some (.slice e)) (hv : bR sl x = .sl id off len es cap) (hw : WF h) :
    qc dr P ng o c sl h (.int .i64 (.ofNat len)) h := by
 refine ba hw fun β a w hr hop => ?_
 have h1 := hop y (by unfold isLen at ho; simp [ho, Op.operands, Call.operands]) x hx
 rw [hv] at h1
 simp only [VR] at h1
 obtain ⟨L, oo, cp, hL, hu, _⟩ := h1
 exact ⟨.int .i64 len, mR ho a w (by simp [Builtin.len_, hu, run_underlying ht, goInt]), by simp [VR]⟩
theorem y5 {y : Operand} {x : XV} {t e : TypeId} (ho : isLen o y t) (hx : cV y = some x) (ht : P.underlying t = some (.slice e)) (hv : bR sl x = .aO) (hw : WF h) : qc dr P ng o c sl h (.int .i64 (.ofNat 0)) h := by
 refine ba hw fun β a w hr hop => ?_
 have h1 := hop y (by unfold isLen at ho; simp [ho, Op.operands, Call.operands]) x hx
 rw [hv] at h1
 simp only [VR] at h1
 exact ⟨.int .i64 (0 : Nat), mR ho a w (by simp [Builtin.len_, h1, run_underlying ht, goInt]), by simp [VR]⟩
theorem Bp {y : Operand} {x : XV} {t e : TypeId} {oa : Option Addr} {len cp : Nat} (ho : isLen o y t) (hx : cV y = some x) (ht : P.underlying t = some (.slice e)) (hv : bR sl x = .raw oa len cp) (hw : WF h) : qc dr P ng o c sl h (.int .i64 (.ofNat len)) h := by
 refine ba hw fun β a w hr hop => ?_
 have h1 := hop y (by unfold isLen at ho; simp [ho, Op.operands, Call.operands]) x hx
 rw [hv] at h1
 simp only [VR] at h1
 have hu := h1
 exact ⟨.int .i64 len, mR ho a w (by simp [Builtin.len_, hu, run_underlying ht, goInt]), by simp [VR]⟩
theorem Bq {y : Operand} {x : XV} {t : TypeId} {s : List Nat} (ho : isLen o y t) (hx : cV y = some x) (ht : P.underlying t = some .string) (hv : bR sl x = .str s) (hw : WF h) : qc dr P ng o c sl h (.int .i64 (.ofNat s.length)) h := by
 refine ba hw fun β a w hr hop => ?_
 have h1 := hop y (by unfold isLen at ho; simp [ho, Op.operands, Call.operands]) x hx
 rw [hv] at h1
 simp only [VR] at h1
 obtain ⟨b, hu, hb⟩ := h1
 have hl : s.length = b.size := by rw [← hb]; simp
 exact ⟨.int .i64 b.size, mR ho a w (by simp [Builtin.len_, hu, run_underlying ht, goInt]), by simp [VR, hl]⟩
end
section
variable {P : Program} {ng : Nat} {o : Oper} {c : C} {sl : Tr AV} {h : H}
theorem gq {id : Nat} {k : List AV → Out} {r : Tr AV × H} (e : dD c h id k = some r) : ∃ vs, cT c h id = some (.cells vs) ∧ k vs = some r := by
 unfold dD at e
 split at e
 ·exact ⟨_, am, e⟩
 ·cases e
theorem FT {esz : Nat} {x : AV} {k : Nat → List AV → Out} {r : Tr AV × H} (e : wC c h esz x k = some r) :
    ∃ n news, k n news = some r ∧ news.length = n * esz ∧ ∀ (t2 e' : TypeId), P.underlying t2 = some (.slice e') → ∀ β w u, HR c.floor β (view c h) w → VR β x u → cw news = true → ∃ cs, Src P esz t2 u n cs w ∧ bE β news cs := by
 unfold wC at e
 split at e
 ·refine ⟨0, [], e, by simp, fun t2 e' ht β w u hr hv _ => ?_⟩
  simp only [VR] at hv
  subst hv
  exact ⟨[], Src.ofNil w ht 0, by simp [bE]⟩
 ·rename_i id off n es cap
  cases hb : Nat.beq es esz with
  | false => rw [hb] at e; cases e
  | true =>
   rw [hb] at e
   simp only [cond] at e
   obtain ⟨vs, hg, e⟩ := gq e
   obtain ⟨h1, e⟩ := gM e
   obtain ⟨h2, e⟩ := gN e
   have hl : ((vs.drop off).take (Nat.mul n esz)).length = n * esz := by
    rw [List.length_take]; exact Nat.min_eq_left h2
   refine ⟨n, _, e, hl, fun t2 e' ht β w u hr hv ho => ?_⟩
   simp only [VR] at hv
   obtain ⟨L, oo, cp, hL, hu, hle, hsz, hoo, hcap⟩ := hv
   obtain ⟨L', h3, _, h4⟩ := hr.at_ id _ (dB hg)
   rw [hL] at h3; cases h3
   have hn2 : off + n * esz ≤ vs.length := by
    have : n * esz ≤ (vs.drop off).length := h2
    simp at this; omega
   obtain ⟨cs, k1, k2⟩ := kZ h4 hn2
   refine ⟨cs, ?_, k1⟩
   subst hu
   refine Src.ofSlice w ht _ n cp cs (by rw [← k1.length]; exact hl) (fun j u hj => ?_) (yY k1 ho)
   rcases hoo with rfl | ⟨z1, z2⟩
   ·exact k2 j u hj
   ·have : cs = [] := by rw [← List.length_eq_zero_iff, ← k1.length]; simp; left; rw [z1]; simp
    subst this; simp at hj
 ·rename_i oa n cp
  cases hb : Nat.beq n 0 with
  | false => rw [hb] at e; cases e
  | true =>
   rw [hb] at e
   have hn := Nat.eq_of_beq_eq_true hb
   subst hn
   refine ⟨0, [], e, by simp, fun t2 e' ht β w u hr hv _ => ?_⟩
   simp only [VR] at hv
   subst hv
   cases oa with
   | none => exact ⟨[], Src.ofNil w ht cp, by simp [bE]⟩
   | some a => exact ⟨[], Src.ofSlice w ht a 0 cp [] (by simp) (fun j u hj => by simp at hj) (fun u hu => absurd hu (by simp)), by simp [bE]⟩
 ·cases e
theorem Dn {f : Nat} {β : cn} {w : World} {vs : List AV} {cs : List Value} {e : TypeId} {rest : Array Value} (hr : HR f β (view c h) w) (hlt : h.n < h.n + 1) (hn : β h.n = none) (hv : bE β vs cs) :
    cI dr f h.n (h.n + 1) β (view c h) w (nK β h.n ⟨w.heap.size, 0, cs.length + rest.size, dv⟩) (view c ⟨Tr.set depth h.t h.n (.cells vs), h.n + 1⟩) (w.drew.alloc (.cells (cs.toArray ++ rest) e)) := by
 refine uW hr hn rfl (fun B hB => ?_) ?_ rfl ⟨rfl, fun _ => Nat.le_succ _⟩ rfl ?_ (fun id d e => pV hlt e)
 ·show (w.heap.push _)[B]? = _
  simp [Array.getElem?_push, Nat.ne_of_lt hB]
 ·show (w.heap.push _).size = _
  simp
 ·refine ⟨cs.toArray ++ rest, (e, (0, 0)), ?_, ⟨by simp, by have := hv.length; show 0 + vs.length ≤ cs.length + rest.size; omega, fun i _ _ => by simp⟩, fun i v hi => ?_⟩
  ·show (w.heap.push _)[w.heap.size]? = _
   simp
  ·obtain ⟨u, h1, h2⟩ := hv.get hi
   have hlt' := (List.getElem?_eq_some_iff.1 h1).1
   refine ⟨u, ?_, VR.mono (gg _ hn) _ _ h2⟩
   rw [Nat.zero_add, Array.getElem?_append_left (by simpa using hlt')]
   simpa using h1
def isApp (o : Oper) (y z : Operand) (t t2 : TypeId) : Prop := o.op = .call { callee := .builtin .append, args := #[y, z], argTypes := #[t, t2] }
theorem tv {y z : Operand} {t t2 : TypeId} (ho : isApp o y z t t2) (a : Act) (w : World) {u : Value} {w' : World} (hr : (Builtin.append_ #[t, t2] o.type #[a.eval y, a.eval z]).run P w = .ok u w') : (execOp a.eval o).run P w = .ok (.value u) w' := by
 unfold isApp at ho
 simp [execOp, ho, resolve, invoke, builtin, hr]
theorem Br {f : Nat} {β : cn} {a : Act} {w : World} {y z : Operand} {t t2 e : TypeId} {i : TypeInfo} {zv : Value} {esz n m cp : Nat} {base : Option Addr} {ovs news : List AV} {olds cs : List Value} (ho : isApp o y z t t2) (ht : P.underlying t = some (.slice e)) (hi : P.info? e = some i) (hz : i.zero = some zv)
    (hsz : i.size = esz) (hzs : zv.cells.size = esz) (hby : 0 < i.bytes) (hr : HR f β (view c h) w) (hlt : h.n < h.n + 1) (hn : β h.n = none) (hy : a.eval y = .slice base m cp)
    (hold : (Builtin.firstCells i.size m (.slice base m cp)).run P w.drew = .ok olds.toArray w.drew) (hov : bE β ovs olds) (hol : olds.length = m * esz) (hs : Src P esz t2 (a.eval z) n cs w) (hnv : bE β news cs) (hg : cp < m + n) (hb : (m + n) * i.bytes ≤ 140737488355328) :
    ∃ val w' β', (execOp a.eval o).run P w = .ok (.value val) w' ∧ VR β' (.sl h.n 0 (m + n) esz none) val ∧ cI dr f h.n (h.n + 1) β (view c h) w β' (view c ⟨Tr.set depth h.t h.n (.cells (ovs ++ news)), h.n + 1⟩) w' := by
 have hfit : Builtin.nextslicecap (m + n) cp * i.bytes ≤ 281474976710656 := by
  have := nextslicecap_le hg
  have h2 := Nat.mul_le_mul_right i.bytes this
  rw [Nat.mul_assoc] at h2
  omega
 have hmn : m + n ≤ 140737488355328 := Nat.le_trans (Nat.le_mul_of_pos_right _ hby) hb
 subst hsz
 have hrun := run_append_grow_src (P := P) w t t2 o.type e i zv ht hi hz base m cp olds hold (a.eval z) n cs hs hg om hfit
 rw [← hy] at hrun
 have hp := Dn (dr := dr) (f := f) (e := e) (rest := Builtin.zeroCells zv.cells (grownCap w (m + n) cp e - (m + n))) hr hlt hn (hov.append hnv)
 refine ⟨_, _, _, tv ho a w hrun, ?_, hp⟩
 have hge := grownCap_ge w (m + n) cp e
 simp only [VR]
 refine ⟨_, 0, _, bM _ _ _, rfl, hge, ?_, Or.inl rfl, fun d hd => by cases hd⟩
 have hnl := hs.newsLen
 simp only [List.length_append, size_zeroCells, hzs, hol, hnl, ← Nat.add_mul]
 rw [Nat.zero_add]
 apply Nat.mul_le_mul_right
 omega
theorem Iv {f : Nat} {β : cn} {a : Act} {w : World} {y z : Operand} {t t2 e : TypeId} {i : TypeInfo} {esz n m cp id oo off : Nat} {vs news : List AV} {cs : List Value} {L : Loc} (ho : isApp o y z t t2) (ht : P.underlying t = some (.slice e)) (hi : P.info? e = some i)
    (hsz : i.size = esz) (hw : WF h) (hr : HR f β (view c h) w) (hlt : h.n < h.n + 1) (hn : β h.n = none) (hg : cT c h id = some (.cells vs)) (hL : β id = some L) (hf : f ≤ id) (hy : a.eval y = .slice (some ⟨L.cm, oo, none⟩) m cp)
    (hoo : oo = L.base + off) (hbd : oo + cp * esz ≤ L.size) (hov : off + m * esz ≤ vs.length) (hs : Src P esz t2 (a.eval z) n cs w) (hnv : bE β news cs) (hroom : m + n ≤ cp) :
    ∃ val w' β', (execOp a.eval o).run P w = .ok (.value val) w' ∧ VR β' (.sl h.n 0 (m + n) esz none) val ∧
     cI dr f h.n (h.n + 1) β (view c h) w β' (view c ⟨Tr.set depth (Tr.set depth h.t id .dead) h.n (.cells ((vs.drop off).take (m * esz) ++ news)), h.n + 1⟩) w' := by
 subst hsz
 subst hoo
 obtain ⟨g1, g2⟩ := dQ hg
 have bV := fO hw g1
 obtain ⟨L', h3, h4, hb⟩ := hr.at_ id _ (dB hg)
 rw [hL] at h3; cases h3
 obtain ⟨cur, et, b1, b2, b3⟩ := hb
 have hle2 := b2.le
 have hnl := hs.newsLen
 have hmul : m * i.size + n * i.size ≤ cp * i.size := by rw [← Nat.add_mul]; exact Nat.mul_le_mul_right _ hroom
 have hrun := run_append_room_src (P := P) w t t2 o.type e i ht hi L.cm (L.base + off) m cp (a.eval z) n cs hs hroom (fun j hj => by
     have : L.base + off + m * i.size + j < cur.size := by omega
     simp [World.cell?, b1, this]) (fun j hj => by unfold World.frozen?; simp only [b1]; exact b2.nf _ om om)
 rw [← hy] at hrun
 obtain ⟨cur', c1, c2, c3, c4⟩ := jl L.cm et.1 et.2 cs (L.base + off + m * i.size) w cur b1 om
 obtain ⟨r1, r2, r3, r4⟩ := jU L.cm cs (L.base + off + m * i.size) w
 have hp : cI dr f h.n (h.n + 1) β (view c h) w (nK β h.n ⟨L.cm, L.base + off, L.size, dv⟩) (view c ⟨Tr.set depth (Tr.set depth h.t id .dead) h.n (.cells ((vs.drop off).take (m * i.size) ++ news)), h.n + 1⟩) (w.setCells L.cm (L.base + off + m * i.size) cs) := by
  refine FD (b := .cells ((vs.drop off).take (m * i.size) ++ news)) hr (dB hg) hL hf hn rfl (fun B hB => jm L.cm B hB _ _ _) r1 r2 ⟨r3.1, fun _ => r3.2⟩ r4 ?_ (fun j d ej => ?_)
  ·refine ⟨cur', et, c1, ⟨by rw [c2]; exact hle2, by (show L.base + off + ((vs.drop off).take (m * i.size) ++ news).length ≤ L.size; rw [List.length_append, List.length_take]; have := hnv.length; omega), fun k q1 q2 => b2.nf k (Nat.le_trans (Nat.le_add_right _ _) q1) q2⟩, fun k v hk => ?_⟩
   have e0 : ((vs.drop off).take (m * i.size)).length = m * i.size := by simp; omega
   by_cases x : k < m * i.size
   ·rw [List.getElem?_append_left (by omega), List.getElem?_take_of_lt x, List.getElem?_drop] at hk
    obtain ⟨u, d1, d2⟩ := b3 _ v hk
    refine ⟨u, ?_, VR.mono (gg _ hn) _ _ d2⟩
    rw [c3 _ (by simp; omega), ← d1, Nat.add_assoc]
   ·rw [List.getElem?_append_right (by omega), e0] at hk
    obtain ⟨u, d1, d2⟩ := hnv.get hk
    refine ⟨u, ?_, VR.mono (gg _ hn) _ _ d2⟩
    have := c4 (k - m * i.size) (List.getElem?_eq_some_iff.1 d1).1
    rw [← d1, ← this]; congr 1; simp; omega
  ·have hlt2 : (⟨Tr.set depth h.t id .dead, h.n⟩ : H).n < h.n + 1 := hlt
   rcases pV (h := ⟨Tr.set depth h.t id .dead, h.n⟩) hlt2 ej with ⟨q1, q2⟩ | ⟨q1, q2⟩
   ·exact Or.inl ⟨q1, q2⟩
   ·rcases mr (h := h) om q2 with ⟨p1, p2⟩ | ⟨p1, p2⟩
    ·subst p2
     have := jk q2
     unfold view at q2
     rw [this] at q2; cases q2
    ·exact Or.inr ⟨q1, p1, p2⟩
 refine ⟨_, _, _, tv ho a w hrun, ?_, hp⟩
 simp only [VR]
 exact ⟨_, L.base + off, cp, bM _ _ _, rfl, hroom, hbd, Or.inl rfl, fun d hd => by cases hd⟩
end
def W (r : Option Nat) : Fence := { Fence.wide with round := r }
theorem ko {r : Option Nat} {n : Nat} {P : Program} {f : FuncId} {args : Array Value} {w : World} {R : Ending → World → Prop} : CallsIn (W r) n P f args w R ↔ Calls P f args w R := callsIn_wide (n := n)
def KV (dr : Prop) (P : Program) (ng : Nat) (o : Oper) (c : C) (sl : Tr AV) (h : H) (v : AV) (h' : H) : Prop :=
 Step c h h' ∧ ∀ β a w, GB ng β → HR c.floor β (view c h) w → yV β sl a o.op.operands.toList → (∀ id, h.n ≤ id → id < h'.n → β id = none) → ∀ (r : Option Nat) (n : Nat) (K : Act → World → Prop) (Q : Exit → Act → World → Prop),
  (∀ β' val w', cI dr c.floor h.n h'.n β (view c h) w β' (view c h') w' → VR β' v val → K (a.put o.dst val) w') → Oper.wpIn (W r) n P o a w K Q
section
variable {P : Program} {ng : Nat} {o : Oper} {c : C} {sl : Tr AV} {h : H}
theorem KW {r : Option Nat} {n : Nat} {a : Act} {K : Act → World → Prop} {Q : Exit → Act → World → Prop} {res : Result Next} (h : o.upon P a K Q res) : o.uponIn (W r) n P a K Q res := by
 cases res with
 | ok x w' =>
  cases x <;> simp only [Oper.upon, Oper.uponIn] at h ⊢ <;> first
   | exact h
   | exact ⟨fun q => (by cases q), ko.2 h⟩
   | exact ⟨fun q => (by cases q), fun c cs _ => let ⟨v, w', r, s⟩ := h c cs; ⟨v, w', r, stepsIn_wide.2 s⟩⟩
 | halt x w' => cases x <;> simp only [Oper.upon, Oper.uponIn] at h ⊢ <;> exact h
theorem qc.jZ {v : AV} {h' : H} (hd : ∀ q, o.op ≠ .defer q) (d : qc dr P ng o c sl h v h') : KV dr P ng o c sl h v h' :=
 ⟨d.1, fun β a w hgb hr hop hfr r n K Q hK => ⟨fun _ _ => trivial, by
  rw [Oper.semAt_eq _ _ _ hd]
  exact KW (d.2 β a w hgb hr hop hfr K Q hK)⟩⟩
def lu (dr : Prop) (P : Program) (ng : Nat) (f : Nat) (args : List AV) (c : C) (h : H) (v : AV) (h' : H) : Prop :=
 Step c h h' ∧ (∃ fn, P.funcs[f]? = some fn ∧ fn.body.isNone = false ∧ (fn.name == "runtime.NumGoroutine") = false) ∧
 ∀ β w cargs, GB ng β → HR c.floor β (view c h) w → bE β args cargs → (∀ id, h.n ≤ id → id < h'.n → β id = none) → ∀ (R : Ending → World → Prop),
  (∀ β' val w', cI dr c.floor h.n h'.n β (view c h) w β' (view c h') w' → VR β' v val → R (.returned val) w') → Calls P f cargs.toArray w R
def R4 (β : cn) : NN → List Value → Sem Next → Prop
 | .fn f, cargs, S => S = callFunc f cargs.toArray
 | .Kx _, _, _ => False
 | .B0 id, cargs, S => ∃ L, β id = some L ∧ S = Instr.yield L.cm cargs.toArray
def uY (dr : Prop) (P : Program) (ng : Nat) (f : NN) (args : List AV) (c : C) (h : H) (v : AV) (h' : H) : Prop :=
 Step c h h' ∧ ∀ β w cargs, GB ng β → HR c.floor β (view c h) w → bE β args cargs → (∀ id, h.n ≤ id → id < h'.n → β id = none) → ∀ S, R4 β f cargs S → ∀ (r : Option Nat) (n : Nat) (o : Oper) (a : Act) (K : Act → World → Prop) (Q : Exit → Act → World → Prop),
  (∀ β' val w', cI dr c.floor h.n h'.n β (view c h) w β' (view c h') w' → VR β' v val → K (a.put o.dst val) w') → o.uponIn (W r) n P a K Q (S.run P w)
def KX (dr : Prop) (P : Program) (ng : Nat) (f : NN) (args : List AV) (c : C) (h : H) (v : AV) (h' : H) : Prop :=
 match f with
 | .Kx f => lu dr P ng f args c h v h'
 | f => uY dr P ng f args c h v h'
theorem lu.up {f : Nat} {args : List AV} {v : AV} {h' : H} (d : lu dr P ng f args c h v h') : uY dr P ng (.fn f) args c h v h' := by
 obtain ⟨hst, ⟨fn, f1, f2, f3⟩, hd⟩ := d
 refine ⟨hst, fun β w cargs hgb hr hv hfr S hS r n o a K Q hK => ?_⟩
 have hS' : S = callFunc f cargs.toArray := hS
 subst hS'
 have f3' : ¬ fn.name = "runtime.NumGoroutine" := by simpa using f3
 have f2' : ¬ fn.body = none := fun q => by rw [q] at f2; cases f2
 have hrun : (callFunc f cargs.toArray).run P w = .ok (.enter f cargs.toArray) w := by simp [callFunc, f1, f2', f3']
 rw [hrun, Oper.uponIn_enter]
 exact ⟨fun q => (by cases q), ko.2 (hd β w cargs hgb hr hv hfr _ fun β' val w' hP hvr => hK β' val w' hP hvr)⟩
theorem tw {β : cn} {a : Act} : ∀ (l : List Operand) (xs : List XV), l.mapM cV = some xs → (∀ y ∈ l, ∀ x, cV y = some x → VR β (bR sl x) (a.eval y)) → bE β (xs.map (bR sl)) (l.map a.eval)
 | [], xs, hxs, _ => by simp at hxs; subst hxs; simp [bE]
 | y :: l, xs, hxs, hm => by
  simp only [List.mapM_cons, Option.bind_eq_bind, Option.bind_eq_some_iff, Option.pure_def, Option.some.injEq] at hxs
  obtain ⟨x, h1, xs', h2, rfl⟩ := hxs
  simp only [List.map_cons, bE]
  exact ⟨_, _, rfl, hm y (by simp) x h1, tw l xs' h2 fun z hz => hm z (by simp [hz])⟩
end
end Go.Proofs.YtgaihilgffficaaGreatDoor.Ev
