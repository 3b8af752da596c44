/- Soundness of the operations: reading and writing. -/
import Derived.Test.YtfoahdpnalbbgaaGreatDoorEvE
set_option linter.unusedVariables false
set_option linter.unusedSimpArgs false
namespace Go.Proofs.YtfoahdpnalbbgaaGreatDoor.Ev
open Go
section
variable {P : Program} {ng : Nat} {o : Oper} {c : C} {sl : Tr AV} {h : H}
theorem isA_none {t : TypeId} (e : isA P t = some none) (w : World) : (isAgg t).run P w = .ok false w := by
  unfold isA at e
  split at e <;> try (cases e; done)
  rename_i d i h1 h2 hd hi
  simp only [isAgg, Sem.run_bind, run_underlying hd, Result.andThen_ok]
  cases d <;> first | rfl | exact absurd rfl (h1 _) | exact absurd rfl (h2 _ _)
theorem isA_some {t : TypeId} {n : Nat} (e : isA P t = some (some n)) (w : World) : (isAgg t).run P w = .ok true w ∧ (sizeOf t).run P w = .ok n w := by
  unfold isA at e
  split at e
  · rename_i fs i h1 h2
    cases e
    exact ⟨by simp [isAgg, run_underlying h1], by simp [sizeOf, run_typeInfo w h2]⟩
  · rename_i a b i h1 h2
    cases e
    exact ⟨by simp [isAgg, run_underlying h1], by simp [sizeOf, run_typeInfo w h2]⟩
  · cases e
  · cases e
theorem ptr_of {β : Bet} {w : World} {id off : Nat} {u : Value} {vs : List AV} (hr : HR β (view c h) w) (hv : VR β (.ptr id off) u) (hg : getB c h id = some (.cells vs)) :
    ∃ L, β id = some L ∧ u = .pointer (some ⟨L.blk, L.base + off, none⟩) ∧ BR β L w (.cells vs) := by
  simp only [VR] at hv
  obtain ⟨L, h1, h2⟩ := hv
  obtain ⟨L', h3, _, h4⟩ := hr.at_ id _ (view_cells hg)
  rw [h1] at h3; cases h3
  exact ⟨L, h1, h2, h4⟩
theorem did_load1 {t : TypeId} {y : Operand} {x : XV} {id off : Nat} {vs : List AV} {v : AV} (ho : o.op = .load t y) (hx : cV y = some x) (ht : isA P t = some none) (hv : evV sl x = .ptr id off)
    (hg : getB c h id = some (.cells vs)) (hn : vs[off]? = some v) (hw : WF h) : Did P ng o c sl h v h := by
  refine did_pure hw fun β a w hr hop => ?_
  have h1 := hop y (by simp [ho, Op.operands]) x hx
  rw [hv] at h1
  obtain ⟨L, hL, hu, hb⟩ := ptr_of hr h1 hg
  obtain ⟨u, hc, hvr⟩ := cell_of_br hb hn
  refine ⟨u, ?_, hvr⟩
  simp [execOp, ho, Instr.loadAt, Instr.sureAddr, hu, loadVar, isA_none ht, hc]
theorem did_loadN {t : TypeId} {y : Operand} {x : XV} {id off n : Nat} {vs : List AV} (ho : o.op = .load t y) (hx : cV y = some x) (ht : isA P t = some (some n)) (hv : evV sl x = .ptr id off)
    (hg : getB c h id = some (.cells vs)) (hn : off + n ≤ vs.length) (hw : WF h) : Did P ng o c sl h (.agg ((vs.drop off).take n)) h := by
  refine did_pure hw fun β a w hr hop => ?_
  have h1 := hop y (by simp [ho, Op.operands]) x hx
  rw [hv] at h1
  obtain ⟨L, hL, hu, hb⟩ := ptr_of hr h1 hg
  obtain ⟨cs, hvr, hc⟩ := part_of_br hb hn
  have hl : cs.length = n := by rw [← hvr.length]; simp; omega
  have hld := run_loadCells_list (P := P) w _ cs hc
  rw [hl] at hld
  refine ⟨.agg cs.toArray, ?_, ?_⟩
  · simp [execOp, ho, Instr.loadAt, Instr.sureAddr, hu, loadVar, (isA_some ht w).1, (isA_some ht w).2, hld]
  · simp only [VR]; exact ⟨_, rfl, by simpa using hvr⟩

/-! writing -/
theorem setCells_block (b : Nat) (e : TypeId) (fr : Nat × Nat) : ∀ (vs : List Value) (o : Nat) (w : World) (cur : Array Value), w.heap[b]? = some (.cells cur e fr) → o + vs.length ≤ cur.size →
    ∃ cur', (w.setCells b o vs).heap[b]? = some (.cells cur' e fr) ∧ cur'.size = cur.size ∧ (∀ i, i < o ∨ o + vs.length ≤ i → cur'[i]? = cur[i]?) ∧ ∀ j, j < vs.length → cur'[o + j]? = vs[j]?
  | [], o, w, cur, h, _ => ⟨cur, h, rfl, fun _ _ => rfl, fun j hj => by simp at hj⟩
  | v :: vs, o, w, cur, h, hl => by
    have hl' : o + 1 + vs.length ≤ cur.size := by simp at hl; omega
    have h1 : (w.setCell ⟨b, o, none⟩ v).heap[b]? = some (.cells (cur.setIfInBounds o v) e fr) := by
      simp [World.setCell, Array.getElem?_modify, h]
    obtain ⟨cur', a1, a2, a3, a4⟩ := setCells_block b e fr vs (o + 1) (w.setCell ⟨b, o, none⟩ v) (cur.setIfInBounds o v) h1 (by simpa using hl')
    refine ⟨cur', a1, by simpa using a2, fun i hi => ?_, fun j hj => ?_⟩
    · rw [a3 i (by simp at hi; omega)]
      rw [Array.getElem?_setIfInBounds_ne (by simp at hi; omega)]
    · cases j with
      | zero =>
        have := a3 o (by omega)
        rw [Nat.add_zero, this]
        simp [Array.getElem?_setIfInBounds]; omega
      | succ j =>
        have := a4 j (by simpa using hj)
        rw [show o + (j + 1) = o + 1 + j by omega, this]; simp
theorem setCells_other (b k : Nat) (hk : k ≠ b) : ∀ (vs : List Value) (o : Nat) (w : World), (w.setCells b o vs).heap[k]? = w.heap[k]?
  | [], o, w => rfl
  | v :: vs, o, w => by
    have := setCells_other b k hk vs (o + 1) (w.setCell ⟨b, o, none⟩ v)
    refine Eq.trans this ?_
    simp [World.setCell, Array.getElem?_modify, Ne.symm hk]
theorem setCells_rest (b : Nat) : ∀ (vs : List Value) (o : Nat) (w : World), (w.setCells b o vs).heap.size = w.heap.size ∧ (w.setCells b o vs).os = w.os ∧ (w.setCells b o vs).tape = w.tape ∧ (w.setCells b o vs).output = w.output
  | [], o, w => ⟨rfl, rfl, rfl, rfl⟩
  | v :: vs, o, w => by
    obtain ⟨h1, h2, h3, h4⟩ := setCells_rest b vs (o + 1) (w.setCell ⟨b, o, none⟩ v)
    exact ⟨Eq.trans h1 (by simp [World.setCell]), h2, h3, h4⟩
theorem one_of {β : Bet} {v : AV} {u : Value} (h : VR β v u) (ho : one v = true) : u.oneCell' = true := by
  cases v <;> simp only [one, Bool.false_eq_true] at ho <;> simp only [VR] at h <;> first
    | (subst h; rfl)
    | (obtain ⟨_, rfl, _⟩ := h; rfl)
    | (obtain ⟨_, _, rfl⟩ := h; rfl)
    | (obtain ⟨_, _, _, _, rfl, _⟩ := h; rfl)
theorem ones_of {β : Bet} : ∀ {vs : List AV} {cs : List Value}, VRs β vs cs → ones vs = true → ∀ u ∈ cs, u.oneCell' = true
  | [], cs, h, _, u, hu => by simp only [VRs] at h; subst h; cases hu
  | v :: vs, cs, h, ho, u, hu => by
    simp only [VRs] at h
    obtain ⟨c', cs', rfl, h1, h2⟩ := h
    have hh : one v = true ∧ ones vs = true := by
      unfold ones at ho
      cases hv : one v with
      | true => rw [hv] at ho; exact ⟨rfl, ho⟩
      | false => rw [hv] at ho; cases ho
    rcases List.mem_cons.1 hu with rfl | hu
    · exact one_of h1 hh.1
    · exact ones_of h2 hh.2 u hu
/-- what a splice leaves -/
theorem br_splice {β : Bet} {L : Loc} {w : World} {vs us : List AV} {cs : List Value} {off : Nat} (hb : BR β L w (.cells vs)) (hu : VRs β us cs) (hn : off + us.length ≤ vs.length) :
    BR β L (w.setCells L.blk (L.base + off) cs) (.cells (vs.take off ++ (us ++ vs.drop (off + us.length)))) ∧ L.base + off + cs.length ≤ L.size ∨ us = [] := by
  by_cases hz : us = []
  · exact Or.inr hz
  left
  obtain ⟨cur, e, h1, h2, h3⟩ := hb
  have hlen := hu.length
  have hpos : 0 < us.length := List.length_pos_iff.2 hz
  have hsz : L.base + off + cs.length ≤ cur.size := by
    have e1 : vs[off + us.length - 1]? = some (vs[off + us.length - 1]'(by omega)) := by simp
    obtain ⟨u, a, _⟩ := h3 _ _ e1
    have := (Array.getElem?_eq_some_iff.1 a).1
    omega
  obtain ⟨cur', a1, a2, a3, a4⟩ := setCells_block L.blk e (0, 0) cs (L.base + off) w cur h1 hsz
  refine ⟨⟨cur', e, a1, a2.trans h2, fun i v hi => ?_⟩, by omega⟩
  by_cases x : i < off
  · rw [List.getElem?_append_left (by simp; omega), List.getElem?_take_of_lt x] at hi
    obtain ⟨u, b1, b2⟩ := h3 i v hi
    exact ⟨u, by rw [a3 _ (by omega)]; exact b1, b2⟩
  · have e0 : (vs.take off).length = off := by simp; omega
    rw [List.getElem?_append_right (by omega), e0] at hi
    by_cases y : i - off < us.length
    · rw [List.getElem?_append_left y] at hi
      obtain ⟨u, b1, b2⟩ := hu.get hi
      refine ⟨u, ?_, b2⟩
      rw [show L.base + i = L.base + off + (i - off) by omega, a4 _ (by omega)]; exact b1
    · rw [List.getElem?_append_right (by omega), List.getElem?_drop] at hi
      obtain ⟨u, b1, b2⟩ := h3 _ v hi
      refine ⟨u, ?_, b2⟩
      rw [a3 _ (by omega), ← b1]; congr 1; omega
theorem szA_some {t : TypeId} {n : Nat} (e : szA P t = some n) (w : World) : (sizeOf t).run P w = .ok n w := by
  unfold szA at e
  cases hi : P.info? t with
  | none => rw [hi] at e; cases e
  | some i => rw [hi] at e; cases e; simp [sizeOf, run_typeInfo w hi]
theorem did_store {t : TypeId} {y z : Operand} {x xz : XV} {id off n : Nat} {vs : List AV} (ho : o.op = .store t y z) (hx : cV y = some x) (hxz : cV z = some xz) (ht : szA P t = some n) (hv : evV sl x = .ptr id off)
    (hg : getB c h id = some (.cells vs)) (hl : (evV sl xz).cells.length = n) (h1 : ones (evV sl xz).cells = true) (hn : off + n ≤ vs.length) (hf : c.floor ≤ id) (hw : WF h) :
    Did P ng o c sl h (.tup []) ⟨Tr.set depth h.t id (.cells (vs.take off ++ ((evV sl xz).cells ++ vs.drop (off + (evV sl xz).cells.length)))), h.n⟩ := by
  obtain ⟨g1, g2⟩ := getB_get hg
  have hid : id < 10000000 := Nat.lt_of_lt_of_le (lt_of_get hw g1) hw.small
  refine ⟨step_set hw g1 hf g2, fun β a w hgb hr hop hfr K Q hK => ?_⟩
  have k1 := hop y (by simp [ho, Op.operands]) x hx
  have k2 := hop z (by simp [ho, Op.operands]) xz hxz
  rw [hv] at k1
  obtain ⟨L, hL, hu, hb⟩ := ptr_of hr k1 hg
  have hcs := k2.cells
  have hlen := hcs.length
  have hblk : L.blk < w.heap.size := by
    obtain ⟨L', h3, h4, _⟩ := hr.at_ id _ (view_cells hg)
    rw [hL] at h3; cases h3; exact h4
  have hrun : (execOp a.eval o).run P w = .ok .skip (w.setCells L.blk (L.base + off) (a.eval z).cells.toList) := by
    obtain ⟨cur, e, b1, b2, b3⟩ := hb
    have hst := run_storeCells_cells (P := P) L.blk (L.base + off) (a.eval z).cells.toList 0 w (fun j hj => by
        have e1 : vs[off + j]? = some (vs[off + j]'(by omega)) := by simp
        obtain ⟨u, d1, _⟩ := b3 _ _ e1
        simp [World.cell?, b1, Nat.add_assoc, d1]) (fun j hj => by simp [World.frozen?, b1]) (ones_of hcs h1)
    simp only [Nat.add_zero] at hst
    have hsz : (a.eval z).cells.size = n := by rw [← hl, hlen]; simp
    simp [execOp, ho, Instr.storeAt, Instr.sureAddr, hu, storeVar, szA_some ht, hsz, hst]
  unfold Oper.wp
  rw [hrun]
  obtain ⟨r1, r2, r3, r4⟩ := setCells_rest L.blk (a.eval z).cells.toList (L.base + off) w
  refine hK β undef _ (post_write hr (view_cells hg) hL hf (fun B hB => setCells_other L.blk B hB _ _ _) r1 r2 r3 r4 ?_ (fun j d e => view_set hid e)) (by simp [VR, VRs, undef])
  rcases br_splice hb hcs (by rw [hl]; exact hn) with h5 | h5
  · exact h5.1
  · have e2 : (a.eval z).cells.toList = [] := by rw [← List.length_eq_zero_iff, ← hlen, h5]; rfl
    rw [h5, e2]
    simpa [World.setCells] using hb
end
end Go.Proofs.YtfoahdpnalbbgaaGreatDoor.Ev
