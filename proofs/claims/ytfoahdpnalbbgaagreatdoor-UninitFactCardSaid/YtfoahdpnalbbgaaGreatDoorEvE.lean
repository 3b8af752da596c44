/- Soundness of the operations, first part. -/
import Derived.Test.YtfoahdpnalbbgaaGreatDoorEvD
import Derived.Laws.Cells
import Derived.Laws.IdiomCopy
import Derived.ChangeKeysEq
set_option linter.unusedVariables false
set_option linter.unusedSimpArgs false
namespace Go.Proofs.YtfoahdpnalbbgaaGreatDoor.Ev
open Go

def OpsR (β : Bet) (sl : Tr AV) (a : Act) (ys : List Operand) : Prop := ∀ y ∈ ys, ∀ x, cV y = some x → VR β (evV sl x) (a.eval y)
/-- an operation does what the evaluator says -/
def Did (P : Program) (ng : Nat) (o : Oper) (c : C) (sl : Tr AV) (h : H) (v : AV) (h' : H) : Prop :=
  Step c h h' ∧ ∀ β a w, GB ng β → HR β (view c h) w → OpsR β sl a o.op.operands.toList → (∀ id, h.n ≤ id → id < h'.n → β id = none) → ∀ (K : Act → World → Prop) (Q : Exit → Act → World → Prop),
    (∀ β' val w', Post c.floor h.n h'.n β (view c h) w β' (view c h') w' → VR β' v val → K (a.put o.dst val) w') → Oper.wp P o a w K Q
section
variable {P : Program} {ng : Nat} {o : Oper} {c : C} {sl : Tr AV} {h : H}
theorem did_pure {v : AV} (hw : WF h) (hrun : ∀ β a w, HR β (view c h) w → OpsR β sl a o.op.operands.toList → ∃ val, (execOp a.eval o).run P w = .ok (.value val) w ∧ VR β v val) : Did P ng o c sl h v h := by
  refine ⟨Step.refl hw, fun β a w _ hr ho _ K Q hK => ?_⟩
  obtain ⟨val, h1, h2⟩ := hrun β a w hr ho
  unfold Oper.wp
  rw [h1]
  exact hK β val w (Post.refl hr) h2
theorem did_move {y : Operand} {x : XV} (ho : o.op = .move y ∨ o.op = .assign y) (hx : cV y = some x) (hw : WF h) : Did P ng o c sl h (evV sl x) h := by
  refine did_pure hw fun β a w hr hop => ⟨a.eval y, ?_, hop y ?_ x hx⟩
  · rcases ho with ho | ho <;> simp [execOp, ho]
  · rcases ho with ho | ho <;> simp [ho, Op.operands]
theorem did_pick {b y z : Operand} {xb xy xz : XV} {t : Bool} (ho : o.op = .pick b y z) (hb : cV b = some xb) (hy : cV y = some xy) (hz : cV z = some xz) (ht : evV sl xb = .bool t) (hw : WF h) : Did P ng o c sl h (if t then evV sl xy else evV sl xz) h := by
  refine did_pure hw fun β a w hr hop => ?_
  have h1 := hop b (by simp [ho, Op.operands]) xb hb
  have h2 := hop y (by simp [ho, Op.operands]) xy hy
  have h3 := hop z (by simp [ho, Op.operands]) xz hz
  rw [ht] at h1
  simp only [VR] at h1
  refine ⟨if t then a.eval y else a.eval z, ?_, ?_⟩
  · simp [execOp, ho, h1, asBool]
  · cases t
    · exact h3
    · exact h2
theorem VR.cells {β : Bet} {v : AV} {u : Value} (h : VR β v u) : VRs β v.cells u.cells.toList := by
  cases v with
  | agg vs =>
    simp only [VR] at h
    obtain ⟨cs, rfl, h⟩ := h
    exact h
  | bool b => simp only [VR] at h; subst h; simp [AV.cells, Value.cells, VRs, VR]
  | int k n => simp only [VR] at h; subst h; simp [AV.cells, Value.cells, VRs, VR]
  | str s => 
    simp only [VR] at h
    obtain ⟨b, rfl, h⟩ := h
    simp [AV.cells, Value.cells, VRs, VR, h]
  | nilp => simp only [VR] at h; subst h; simp [AV.cells, Value.cells, VRs, VR]
  | ptr id off =>
    have h' := h
    simp only [VR] at h
    obtain ⟨L, _, rfl⟩ := h
    simp only [AV.cells, Value.cells, VRs]
    exact ⟨_, _, rfl, h', rfl⟩
  | nils => simp only [VR] at h; subst h; simp [AV.cells, Value.cells, VRs, VR]
  | sl id off len esz cap =>
    have h' := h
    simp only [VR] at h
    obtain ⟨L, o, cp, _, rfl, _⟩ := h
    simp only [AV.cells, Value.cells, VRs]
    exact ⟨_, _, rfl, h', rfl⟩
  | nilm => simp only [VR] at h; subst h; simp [AV.cells, Value.cells, VRs, VR]
  | mp id =>
    have h' := h
    simp only [VR] at h
    obtain ⟨L, _, rfl⟩ := h
    simp only [AV.cells, Value.cells, VRs]
    exact ⟨_, _, rfl, h', rfl⟩
  | nilf => simp only [VR] at h; subst h; simp [AV.cells, Value.cells, VRs, VR]
  | fn f caps =>
    have h' := h
    simp only [VR] at h
    obtain ⟨cs, rfl, _⟩ := h
    simp only [AV.cells, Value.cells, VRs]
    exact ⟨_, _, rfl, h', rfl⟩
  | nili => simp only [VR] at h; subst h; simp [AV.cells, Value.cells, VRs, VR]
  | iface t x =>
    have h' := h
    simp only [VR] at h
    obtain ⟨c, rfl, _⟩ := h
    simp only [AV.cells, Value.cells, VRs]
    exact ⟨_, _, rfl, h', rfl⟩
  | yld id =>
    have h' := h
    simp only [VR] at h
    obtain ⟨L, _, rfl⟩ := h
    simp only [AV.cells, Value.cells, VRs]
    exact ⟨_, _, rfl, h', rfl⟩
  | tup vs =>
    have h' := h
    simp only [VR] at h
    obtain ⟨cs, rfl, _⟩ := h
    simp only [AV.cells, Value.cells, VRs]
    exact ⟨_, _, rfl, h', rfl⟩

/-! new blocks -/
theorem br_new {β : Bet} {n : Nat} {w w' : World} {vs : List AV} {cs : List Value} {e : TypeId} (hv : VRs β vs cs) (hn : β n = none) (hw : w'.heap[w.heap.size]? = some (.cells cs.toArray e (0, 0))) :
    BR (upd β n ⟨w.heap.size, 0, cs.length⟩) ⟨w.heap.size, 0, cs.length⟩ w' (.cells vs) :=
  ⟨cs.toArray, e, hw, by simp, fun i v hi => by
    obtain ⟨u, h1, h2⟩ := hv.get hi
    exact ⟨u, by simpa using h1, VR.mono (upd_sub _ hn) _ _ h2⟩⟩
theorem post_push {f : Nat} {β : Bet} {c : C} {h : H} {w : World} {b : AB} {L : Loc} {ob : Obj} (hr : HR β (view c h) w) (hlt : h.n < 10000000) (hn : β h.n = none) (hblk : L.blk = w.heap.size)
    (hb : BR (upd β h.n L) L { w with heap := w.heap.push ob } b) :
    Post f h.n (h.n + 1) β (view c h) w (upd β h.n L) (view c ⟨Tr.set depth h.t h.n b, h.n + 1⟩) { w with heap := w.heap.push ob } :=
  post_alloc hr hn hblk (fun B hB => by simp [Array.getElem?_push, Nat.ne_of_lt hB]) (by simp) rfl rfl rfl hb (fun id d e => view_new hlt e)
theorem did_box {e : TypeId} {y : Operand} {x : XV} (ho : o.op = .box e y) (hx : cV y = some x) (hw : WF h) (hlt : h.n < 10000000) :
    Did P ng o c sl h (.ptr h.n 0) ⟨Tr.set depth h.t h.n (.cells (evV sl x).cells), h.n + 1⟩ := by
  refine ⟨step_new hw hlt, fun β a w hgb hr hop hfr K Q hK => ?_⟩
  have hv := (hop y (by simp [ho, Op.operands]) x hx).cells
  have hn := hfr h.n (Nat.le_refl _) (by simp)
  unfold Oper.wp
  have hrun : (execOp a.eval o).run P w = .ok (.value (.pointer (some ⟨w.heap.size, 0, none⟩))) { w with heap := w.heap.push (.cells (a.eval y).cells e) } := by
    simp [execOp, ho, Instr.box, newVar, newRow]
  rw [hrun]
  refine hK _ _ _ (post_push (L := ⟨w.heap.size, 0, (a.eval y).cells.toList.length⟩) hr hlt hn rfl (br_new (e := e) hv hn (by simp))) ?_
  simp only [VR]
  exact ⟨_, upd_same _ _ _, rfl⟩
theorem did_alloc {e : TypeId} {z : Value} {az : AV} {i : TypeInfo} (ho : o.op = .alloc e) (hi : P.info? e = some i) (hz : i.zero = some z) (hv : ∀ β, VR β az z) (hw : WF h) (hlt : h.n < 10000000) :
    Did P ng o c sl h (.ptr h.n 0) ⟨Tr.set depth h.t h.n (.cells az.cells), h.n + 1⟩ := by
  refine ⟨step_new hw hlt, fun β a w hgb hr hop hfr K Q hK => ?_⟩
  have hn := hfr h.n (Nat.le_refl _) (by simp)
  unfold Oper.wp
  have hrun : (execOp a.eval o).run P w = .ok (.value (.pointer (some ⟨w.heap.size, 0, none⟩))) { w with heap := w.heap.push (.cells z.cells e) } := by
    simp [execOp, ho, Instr.alloc, newVar, newRow, zeroValue, run_typeInfo w hi, hz]
  rw [hrun]
  refine hK _ _ _ (post_push (L := ⟨w.heap.size, 0, z.cells.toList.length⟩) hr hlt hn rfl (br_new (e := e) (hv β).cells hn (by simp))) ?_
  simp only [VR]
  exact ⟨_, upd_same _ _ _, rfl⟩

/-! reading -/
theorem cell_of_br {β : Bet} {L : Loc} {w : World} {vs : List AV} (hb : BR β L w (.cells vs)) {i : Nat} {v : AV} (hi : vs[i]? = some v) : ∃ u, w.cell? ⟨L.blk, L.base + i, none⟩ = some u ∧ VR β v u := by
  obtain ⟨cur, e, h1, h2, h3⟩ := hb
  obtain ⟨u, h4, h5⟩ := h3 i v hi
  exact ⟨u, by simp [World.cell?, h1, h4], h5⟩
theorem add_lit (b off n : Nat) : (⟨b, off, none⟩ : Addr).add n = ⟨b, off + n, none⟩ := by unfold Addr.add; split <;> simp_all
/-- the cells of a part of a block -/
theorem part_of_br {β : Bet} {L : Loc} {w : World} {vs : List AV} (hb : BR β L w (.cells vs)) {off n : Nat} (hn : off + n ≤ vs.length) :
    ∃ cs : List Value, VRs β ((vs.drop off).take n) cs ∧ ∀ j u, cs[j]? = some u → w.cell? ((⟨L.blk, L.base + off, none⟩ : Addr).add j) = some u := by
  obtain ⟨cur, e, h1, h2, h3⟩ := hb
  have hc : ∀ i, i < n → ∃ u, cur[L.base + (off + i)]? = some u ∧ ∀ v, vs[off + i]? = some v → VR β v u := fun i hi => by
    have e1 : vs[off + i]? = some (vs[off + i]'(by omega)) := by simp
    obtain ⟨u, a, b⟩ := h3 _ _ e1
    exact ⟨u, a, fun v hv => by rw [e1] at hv; cases hv; exact b⟩
  have hsz : 0 < n → L.base + (off + n) ≤ cur.size := fun hp => by
    obtain ⟨u, a, _⟩ := hc (n - 1) (by omega)
    have := (Array.getElem?_eq_some_iff.1 a).1
    omega
  have hl : ((cur.toList.drop (L.base + off)).take n).length = n := by
    rcases Nat.eq_zero_or_pos n with z | z
    · subst z; simp
    · have := hsz z; simp; omega
  have hget : ∀ j, j < n → ((cur.toList.drop (L.base + off)).take n)[j]? = cur[L.base + (off + j)]? := fun j hj => by
    rw [List.getElem?_take_of_lt hj, List.getElem?_drop, Array.getElem?_toList, Nat.add_assoc]
  refine ⟨(cur.toList.drop (L.base + off)).take n, VRs.of (by rw [hl]; simp; omega) ?_, fun j u hj => ?_⟩
  · intro i v u h4 h5
    have hi : i < n := by
      have := (List.getElem?_eq_some_iff.1 h5).1
      rwa [hl] at this
    rw [hget i hi] at h5
    rw [List.getElem?_take_of_lt hi, List.getElem?_drop] at h4
    obtain ⟨u', a, b⟩ := hc i hi
    rw [a] at h5; cases h5
    exact b v h4
  · have hi : j < n := by
      have := (List.getElem?_eq_some_iff.1 hj).1
      rwa [hl] at this
    rw [hget j hi] at hj
    rw [add_lit]
    simp only [World.cell?, h1, Option.isSome_none, Bool.false_eq_true, if_false]
    rw [Nat.add_assoc]; exact hj
end
end Go.Proofs.YtfoahdpnalbbgaaGreatDoor.Ev
