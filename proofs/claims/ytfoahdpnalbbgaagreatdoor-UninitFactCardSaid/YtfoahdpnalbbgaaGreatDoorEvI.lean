/- Soundness of the operations: len, maps, functions. -/
import Derived.Test.YtfoahdpnalbbgaaGreatDoorEvH
import Derived.MapKept
set_option linter.unusedVariables false
set_option linter.unusedSimpArgs false
namespace Go.Proofs.YtfoahdpnalbbgaaGreatDoor.Ev
open Go
section
variable {P : Program} {ng : Nat} {o : Oper} {c : C} {sl : Tr AV} {h : H}
theorem did_mkmap {t : TypeId} (ho : o.op = .makeMap t none) (hw : WF h) (hlt : h.n < 10000000) : Did P ng o c sl h (.mp h.n) ⟨Tr.set depth h.t h.n (.map [] 0), h.n + 1⟩ := by
  refine ⟨step_new hw hlt, fun β a w hgb hr hop hfr K Q hK => ?_⟩
  have hn := hfr h.n (Nat.le_refl _) (by simp)
  unfold Oper.wp
  have hrun : (execOp a.eval o).run P w = .ok (.value (.map (some w.heap.size))) { w with heap := w.heap.push (.map #[] 0) } := by
    simp [execOp, ho, Instr.makeMap]
  rw [hrun]
  refine hK _ _ _ (post_push (L := ⟨w.heap.size, 0, 0⟩) hr hlt hn rfl ⟨#[], by simp, by simp [ER]⟩) ?_
  simp only [VR]
  exact ⟨_, upd_same _ _ _, rfl⟩
theorem did_mkfn {f : Nat} {ys : Array Operand} {xs : List XV} (ho : o.op = .makeFunc (.func f) #[] ys) (hx : ys.toList.mapM cV = some xs) (hw : WF h) : Did P ng o c sl h (.fn f (xs.map (evV sl))) h := by
  refine did_pure hw fun β a w hr hop => ?_
  refine ⟨.func (.func f) #[] (ys.map a.eval), by simp [execOp, ho, Instr.makeFunc], ?_⟩
  simp only [VR]
  refine ⟨_, rfl, ?_⟩
  have key : ∀ (l : List Operand) (xs : List XV), l.mapM cV = some xs → (∀ y ∈ l, y ∈ o.op.operands.toList) → VRs β (xs.map (evV sl)) (l.map a.eval) := by
    intro l
    induction l with
    | nil => intro xs hxs _; simp at hxs; subst hxs; simp [VRs]
    | cons y l ih =>
      intro xs hxs hm
      simp only [List.mapM_cons, Option.bind_eq_bind, Option.bind_eq_some_iff, Option.pure_def, Option.some.injEq] at hxs
      obtain ⟨x, h1, xs', h2, rfl⟩ := hxs
      simp only [List.map_cons, VRs]
      exact ⟨_, _, rfl, hop y (hm y (by simp)) x h1, ih xs' h2 fun z hz => hm z (by simp [hz])⟩
  have := key ys.toList xs hx (fun y hy => by simp [ho, Op.operands]; simpa using hy)
  simpa using this
/-- len -/
def isLen (o : Oper) (y : Operand) (t : TypeId) : Prop := o.op = .call { callee := .builtin .len, args := #[y], argTypes := #[t] }
theorem len_run {y : Operand} {t : TypeId} (ho : isLen o y t) (a : Act) (w : World) {u : Value} (hr : (Builtin.len_ #[t] o.type #[a.eval y]).run P w = .ok u w) : (execOp a.eval o).run P w = .ok (.value u) w := by
  unfold isLen at ho
  simp [execOp, ho, resolve, invoke, builtin, hr]
theorem did_len_sl {y : Operand} {x : XV} {t e : TypeId} {id off len es : Nat} {cap : Option Nat} (ho : isLen o y t) (hx : cV y = some x) (ht : P.underlying t = some (.slice e)) (hv : evV sl x = .sl id off len es cap) (hw : WF h) :
    Did P ng o c sl h (.int .i64 (.ofNat len)) h := by
  refine did_pure hw fun β a w hr hop => ?_
  have h1 := hop y (by unfold isLen at ho; simp [ho, Op.operands, Call.operands]) x hx
  rw [hv] at h1
  simp only [VR] at h1
  obtain ⟨L, oo, cp, hL, hu, _⟩ := h1
  exact ⟨.int .i64 len, len_run ho a w (by simp [Builtin.len_, hu, run_underlying ht, goInt]), by simp [VR]⟩
theorem did_len_nils {y : Operand} {x : XV} {t e : TypeId} (ho : isLen o y t) (hx : cV y = some x) (ht : P.underlying t = some (.slice e)) (hv : evV sl x = .nils) (hw : WF h) : Did P ng o c sl h (.int .i64 (.ofNat 0)) h := by
  refine did_pure hw fun β a w hr hop => ?_
  have h1 := hop y (by unfold isLen at ho; simp [ho, Op.operands, Call.operands]) x hx
  rw [hv] at h1
  simp only [VR] at h1
  exact ⟨.int .i64 (0 : Nat), len_run ho a w (by simp [Builtin.len_, h1, run_underlying ht, goInt]), by simp [VR]⟩
theorem did_len_str {y : Operand} {x : XV} {t : TypeId} {s : List Nat} (ho : isLen o y t) (hx : cV y = some x) (ht : P.underlying t = some .string) (hv : evV sl x = .str s) (hw : WF h) : Did P ng o c sl h (.int .i64 (.ofNat s.length)) h := by
  refine did_pure hw fun β a w hr hop => ?_
  have h1 := hop y (by unfold isLen at ho; simp [ho, Op.operands, Call.operands]) x hx
  rw [hv] at h1
  simp only [VR] at h1
  obtain ⟨b, hu, hb⟩ := h1
  have hl : s.length = b.size := by rw [← hb]; simp
  exact ⟨.int .i64 b.size, len_run ho a w (by simp [Builtin.len_, hu, run_underlying ht, goInt]), by simp [VR, hl]⟩
end
end Go.Proofs.YtfoahdpnalbbgaaGreatDoor.Ev
