/- Soundness of the operations: calls of functions, rounds. -/
import Derived.Test.YtfoahdpnalbbgaaGreatDoorEvJ
import Derived.RangeFuncLeaves
import Derived.OrdersIn
set_option linter.unusedVariables false
set_option linter.unusedSimpArgs false
namespace Go.Proofs.YtfoahdpnalbbgaaGreatDoor.Ev
open Go
/-- every function, every depth; in a round or not -/
def W (r : Option Nat) : Fence := { Fence.wide with round := r }
theorem callsIn_w {r : Option Nat} {n : Nat} {P : Program} {f : FuncId} {args : Array Value} {w : World} {R : Ending → World → Prop} : CallsIn (W r) n P f args w R ↔ Calls P f args w R := callsIn_wide (n := n)
/-- an operation does what the evaluator says, in a round or not -/
def DidR (P : Program) (ng : Nat) (o : Oper) (c : C) (sl : Tr AV) (h : H) (v : AV) (h' : H) : Prop :=
  Step c h h' ∧ ∀ β a w, GB ng β → HR β (view c h) w → OpsR β sl a o.op.operands.toList → (∀ id, h.n ≤ id → id < h'.n → β id = none) → ∀ (r : Option Nat) (n : Nat) (K : Act → World → Prop) (Q : Exit → Act → World → Prop),
    (∀ β' val w', Post c.floor h.n h'.n β (view c h) w β' (view c h') w' → VR β' v val → K (a.put o.dst val) w') → Oper.wpIn (W r) n P o a w K Q
section
variable {P : Program} {ng : Nat} {o : Oper} {c : C} {sl : Tr AV} {h : H}
theorem upon_in {r : Option Nat} {n : Nat} {a : Act} {K : Act → World → Prop} {Q : Exit → Act → World → Prop} {res : Result Next} (h : o.upon P a K Q res) : o.uponIn (W r) n P a K Q res := by
  cases res with
  | ok x w' =>
    cases x <;> simp only [Oper.upon, Oper.uponIn] at h ⊢ <;> first
      | exact h
      | exact ⟨fun q => (by cases q), callsIn_w.2 h⟩
      | exact ⟨fun q => (by cases q), fun c cs _ => let ⟨v, w', r, s⟩ := h c cs; ⟨v, w', r, stepsIn_wide.2 s⟩⟩
  | halt x w' => cases x <;> simp only [Oper.upon, Oper.uponIn] at h ⊢ <;> exact h
theorem Did.toR {v : AV} {h' : H} (hd : ∀ q, o.op ≠ .defer q) (d : Did P ng o c sl h v h') : DidR P ng o c sl h v h' :=
  ⟨d.1, fun β a w hgb hr hop hfr r n K Q hK => ⟨fun _ _ => trivial, by
    rw [Oper.semAt_eq _ _ _ hd]
    exact upon_in (d.2 β a w hgb hr hop hfr K Q hK)⟩⟩
/-- a function does what the evaluator says -/
def FnDid (P : Program) (ng : Nat) (f : Nat) (args : List AV) (c : C) (h : H) (v : AV) (h' : H) : Prop :=
  Step c h h' ∧ (∃ fn, P.funcs[f]? = some fn ∧ fn.body.isNone = false ∧ (fn.name == "runtime.NumGoroutine") = false) ∧
  ∀ β w cargs, GB ng β → HR β (view c h) w → VRs β args cargs → (∀ id, h.n ≤ id → id < h'.n → β id = none) → ∀ (R : Ending → World → Prop),
    (∀ β' val w', Post c.floor h.n h'.n β (view c h) w β' (view c h') w' → VR β' v val → R (.returned val) w') → Calls P f cargs.toArray w R
/-- what a call runs -/
def SemR (β : Bet) : Cee → List Value → Sem Next → Prop
  | .fn f, cargs, S => S = callFunc f cargs.toArray
  | .fnB _, _, _ => False
  | .yld id, cargs, S => ∃ L, β id = some L ∧ S = Instr.yield L.blk cargs.toArray
def UpDid (P : Program) (ng : Nat) (f : Cee) (args : List AV) (c : C) (h : H) (v : AV) (h' : H) : Prop :=
  Step c h h' ∧ ∀ β w cargs, GB ng β → HR β (view c h) w → VRs β args cargs → (∀ id, h.n ≤ id → id < h'.n → β id = none) → ∀ S, SemR β f cargs S → ∀ (r : Option Nat) (n : Nat) (o : Oper) (a : Act) (K : Act → World → Prop) (Q : Exit → Act → World → Prop),
    (∀ β' val w', Post c.floor h.n h'.n β (view c h) w β' (view c h') w' → VR β' v val → K (a.put o.dst val) w') → o.uponIn (W r) n P a K Q (S.run P w)
/-- a call does what the evaluator says -/
def CallDid (P : Program) (ng : Nat) (f : Cee) (args : List AV) (c : C) (h : H) (v : AV) (h' : H) : Prop :=
  match f with
  | .fnB f => FnDid P ng f args c h v h'
  | f => UpDid P ng f args c h v h'
theorem FnDid.up {f : Nat} {args : List AV} {v : AV} {h' : H} (d : FnDid P ng f args c h v h') : UpDid P ng (.fn f) args c h v h' := by
  obtain ⟨hst, ⟨fn, f1, f2, f3⟩, hd⟩ := d
  refine ⟨hst, fun β w cargs hgb hr hv hfr S hS r n o a K Q hK => ?_⟩
  have hS' : S = callFunc f cargs.toArray := hS
  subst hS'
  have f3' : ¬ fn.name = "runtime.NumGoroutine" := by simpa using f3
  have f2' : ¬ fn.body = none := fun q => by rw [q] at f2; cases f2
  have hrun : (callFunc f cargs.toArray).run P w = .ok (.enter f cargs.toArray) w := by simp [callFunc, f1, f2', f3']
  rw [hrun, Oper.uponIn_enter]
  exact ⟨fun q => (by cases q), callsIn_w.2 (hd β w cargs hgb hr hv hfr _ fun β' val w' hP hvr => hK β' val w' hP hvr)⟩
theorem mapM_cV {β : Bet} {a : Act} : ∀ (l : List Operand) (xs : List XV), l.mapM cV = some xs → (∀ y ∈ l, ∀ x, cV y = some x → VR β (evV sl x) (a.eval y)) → VRs β (xs.map (evV sl)) (l.map a.eval)
  | [], xs, hxs, _ => by simp at hxs; subst hxs; simp [VRs]
  | y :: l, xs, hxs, hm => by
    simp only [List.mapM_cons, Option.bind_eq_bind, Option.bind_eq_some_iff, Option.pure_def, Option.some.injEq] at hxs
    obtain ⟨x, h1, xs', h2, rfl⟩ := hxs
    simp only [List.map_cons, VRs]
    exact ⟨_, _, rfl, hm y (by simp) x h1, mapM_cV l xs' h2 fun z hz => hm z (by simp [hz])⟩
end
end Go.Proofs.YtfoahdpnalbbgaaGreatDoor.Ev
