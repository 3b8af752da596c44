/- Soundness of the operations: plain ones. -/
import Derived.Test.YtfoahdpnalbbgaaGreatDoorEvF
set_option linter.unusedVariables false
set_option linter.unusedSimpArgs false
namespace Go.Proofs.YtfoahdpnalbbgaaGreatDoor.Ev
open Go
section
variable {P : Program} {ng : Nat} {o : Oper} {c : C} {sl : Tr AV} {h : H}
theorem did_nilc_ptr {y : Operand} {x : XV} {id off : Nat} (ho : o.op = .nilCheck y) (hx : cV y = some x) (hv : evV sl x = .ptr id off) (hw : WF h) : Did P ng o c sl h (.ptr id off) h := by
  refine did_pure hw fun β a w hr hop => ?_
  have h1 := hop y (by simp [ho, Op.operands]) x hx
  rw [hv] at h1
  have h2 := h1
  simp only [VR] at h2
  obtain ⟨L, hL, hu⟩ := h2
  exact ⟨a.eval y, by simp [execOp, ho, hu], h1⟩
theorem did_nilc_fn {y : Operand} {x : XV} {f : Nat} {cs : List AV} (ho : o.op = .nilCheck y) (hx : cV y = some x) (hv : evV sl x = .fn f cs) (hw : WF h) : Did P ng o c sl h (.fn f cs) h := by
  refine did_pure hw fun β a w hr hop => ?_
  have h1 := hop y (by simp [ho, Op.operands]) x hx
  rw [hv] at h1
  have h2 := h1
  simp only [VR] at h2
  obtain ⟨ds, hu, hd⟩ := h2
  exact ⟨a.eval y, by simp [execOp, ho, hu], h1⟩
theorem did_faddr {s : TypeId} {y : Operand} {x : XV} {id off k : Nat} {fs : Array Field} {f : Field} (ho : o.op = .fieldAddr s y k) (hx : cV y = some x) (hs : P.underlying s = some (.struct fs)) (hf : fs[k]? = some f) {m : Nat} (hm : szA P f.type = some (m + 1)) (hv : evV sl x = .ptr id off) (hw : WF h) :
    Did P ng o c sl h (.ptr id (off + f.offset)) h := by
  refine did_pure hw fun β a w hr hop => ?_
  have h1 := hop y (by simp [ho, Op.operands]) x hx
  rw [hv] at h1
  simp only [VR] at h1
  obtain ⟨L, hL, hu⟩ := h1
  refine ⟨.pointer (some ⟨L.blk, L.base + (off + f.offset), none⟩), ?_, by simp only [VR]; exact ⟨L, hL, rfl⟩⟩
  simp [execOp, ho, Instr.fieldAt, Instr.sureAddr, hu, run_underlying hs, hf, fieldPlace, szA_some hm, add_lit, Nat.add_assoc]
theorem did_extr {y : Operand} {x : XV} {i : Nat} {vs : List AV} {v : AV} (ho : o.op = .extract y i) (hx : cV y = some x) (hv : evV sl x = .tup vs) (hn : vs[i]? = some v) (hw : WF h) : Did P ng o c sl h v h := by
  refine did_pure hw fun β a w hr hop => ?_
  have h1 := hop y (by simp [ho, Op.operands]) x hx
  rw [hv] at h1
  simp only [VR] at h1
  obtain ⟨cs, hu, hcs⟩ := h1
  obtain ⟨u, k1, k2⟩ := hcs.get hn
  refine ⟨u, ?_, k2⟩
  have k3 : cs[i]? = some u := by simpa using k1
  simp [execOp, ho, Instr.extract, hu, k3]
theorem intK_some {k : IntKind} {n : Int} {K : Kont} {r : Tr AV × H} (e : intK k n h K = some r) : k.wrap n = n ∧ K (.int k n) h = some r := by
  unfold intK at e
  cases hb : inR k n with
  | true => rw [hb] at e; simp only [cond, forceInt_eq] at e; exact ⟨inR_wrap hb, e⟩
  | false => rw [hb] at e; cases e
theorem boolK_some {b : Bool} {K : Kont} {r : Tr AV × H} (e : boolK b h K = some r) : K (.bool b) h = some r := by
  unfold boolK at e; rw [forceBool_eq] at e; exact e
/-- an operation on two numbers -/
theorem did_int2 {op : BinOp} {t t' : TypeId} {y z : Operand} {xy xz : XV} {k : IntKind} {a b : Int} {v : AV} (ho : o.op = .binOp op t y z t') (hy : cV y = some xy) (hz : cV z = some xz) (h1 : evV sl xy = .int k a) (h2 : evV sl xz = .int k b)
    (hg : op ≠ .eql ∧ op ≠ .neq) (hw : WF h) (hrun : ∀ w : World, ∃ u, (binOp op t (.int k a) (.int k b)).run P w = .ok u w ∧ ∀ β, VR β v u) : Did P ng o c sl h v h := by
  refine did_pure hw fun β A w hr hop => ?_
  have k1 := hop y (by simp [ho, Op.operands]) xy hy
  have k2 := hop z (by simp [ho, Op.operands]) xz hz
  rw [h1] at k1
  rw [h2] at k2
  simp only [VR] at k1 k2
  obtain ⟨u, hu, hv⟩ := hrun w
  refine ⟨u, ?_, hv β⟩
  have he : (eqGuard op t y z (.int k a) (.int k b)).run P w = .ok () w := by
    unfold eqGuard
    cases op <;> first | rfl | (exact absurd rfl hg.1) | (exact absurd rfl hg.2)
  simp [execOp, ho, k1, k2, he, hu]
theorem did_fld1 {s : TypeId} {y : Operand} {x : XV} {k : Nat} {fs : Array Field} {f : Field} {vs : List AV} {v : AV} (ho : o.op = .field s y k) (hx : cV y = some x) (hs : P.underlying s = some (.struct fs)) (hf : fs[k]? = some f) (ht : isA P f.type = some none)
    (hv : evV sl x = .agg vs) (hn : vs[f.offset]? = some v) (hw : WF h) : Did P ng o c sl h v h := by
  refine did_pure hw fun β a w hr hop => ?_
  have h1 := hop y (by simp [ho, Op.operands]) x hx
  rw [hv] at h1
  simp only [VR] at h1
  obtain ⟨cs, hu, hcs⟩ := h1
  obtain ⟨u, k1, k2⟩ := hcs.get hn
  have k3 : cs[f.offset]? = some u := by simpa using k1
  exact ⟨u, by simp [execOp, ho, Instr.field, run_underlying hs, hf, hu, asAgg, part, isA_none ht, k3], k2⟩
theorem did_fldN {s : TypeId} {y : Operand} {x : XV} {k n : Nat} {fs : Array Field} {f : Field} {vs : List AV} (ho : o.op = .field s y k) (hx : cV y = some x) (hs : P.underlying s = some (.struct fs)) (hf : fs[k]? = some f) (ht : isA P f.type = some (some n))
    (hv : evV sl x = .agg vs) (hn : f.offset + n ≤ vs.length) (hw : WF h) : Did P ng o c sl h (.agg ((vs.drop f.offset).take n)) h := by
  refine did_pure hw fun β a w hr hop => ?_
  have h1 := hop y (by simp [ho, Op.operands]) x hx
  rw [hv] at h1
  simp only [VR] at h1
  obtain ⟨cs, hu, hcs⟩ := h1
  refine ⟨.agg (cs.extract f.offset (f.offset + n)), ?_, ?_⟩
  · simp [execOp, ho, Instr.field, run_underlying hs, hf, hu, asAgg, part, (isA_some ht w).1, (isA_some ht w).2]
  · simp only [VR]
    refine ⟨_, rfl, ?_⟩
    have := (hcs.drop f.offset).take n
    simpa [Array.toList_extract, List.extract_eq_take_drop] using this
theorem did_not {t : TypeId} {y : Operand} {x : XV} {b : Bool} (ho : o.op = .unOp .not t y) (hx : cV y = some x) (hv : evV sl x = .bool b) (hw : WF h) : Did P ng o c sl h (.bool (!b)) h := by
  refine did_pure hw fun β a w hr hop => ?_
  have h1 := hop y (by simp [ho, Op.operands]) x hx
  rw [hv] at h1
  simp only [VR] at h1
  exact ⟨.bool (!b), by simp [execOp, ho, Op.unary, h1], by simp [VR]⟩
end
end Go.Proofs.YtfoahdpnalbbgaaGreatDoor.Ev
