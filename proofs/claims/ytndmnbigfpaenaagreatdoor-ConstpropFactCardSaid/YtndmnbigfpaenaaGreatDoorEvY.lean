/- The evaluator's answer as a contract. -/
import Derived.Test.YtndmnbigfpaenaaGreatDoorEvFin
import Derived.Test.YtndmnbigfpaenaaGreatDoorEvX
set_option linter.unusedVariables false
set_option linter.unusedSimpArgs false
namespace Go.Proofs.YtndmnbigfpaenaaGreatDoor.Ev
open Go Go.RowKit
def top (n : Nat) : C := ⟨n, [(0, big)]⟩
theorem ev_top {P : Program} {X : Exts} {M : Mf} (hmx : P.follows .mixedOrders = true) (hNG : ∀ (f : Nat) (fn : Func), P.funcs[f]? = some fn → (fn.name == "runtime.NumGoroutine") = false) (hX : ExtOk P X) (hM : MemoOk P P.globals.size M) {fuel f : Nat} {args : List AV} {v : AV} {h0 h' : H}
    (hev : ev (cC P) (tblX P X) M fuel (top h0.n) (.call (.fnB f) args) h0 = .call v h') (hwf : WF h0) {β : Bet} {w : World} (hgb : GB P.globals.size β) (hr : HR (top h0.n).floor β (view (top h0.n) h0) w) (hdom : ∀ id, h0.n ≤ id → β id = none) {cargs : List Value} (hv : VRs β args cargs) :
    Calls P f cargs.toArray w fun e w' => ∃ β' val, e = .returned val ∧ VR β' v val ∧ Sub β β' ∧ Below w.heap.size w w' := by
  have hC := (ev_sound (ng := P.globals.size) hmx (opOk P _) (Nat.le_refl _) hNG hX hM fuel).2
  have hctx : Ctx (top h0.n) h0 := ⟨Nat.le_refl _, fun id _ h2 => by
    show seen [(0, big)] id = true
    simp only [seen]
    have : Nat.ble 0 id = true := by simp
    rw [this]
    simpa [Nat.blt_eq] using h2⟩
  have hfd : FnDid P P.globals.size f args (top h0.n) h0 v h' := hC (.fnB f) args (top h0.n) h0 v h' hctx hwf (by unfold callOf; rw [hev])
  obtain ⟨hst, _, hd⟩ := hfd
  refine hd β w cargs hgb hr hv (fun id h1 _ => hdom id h1) _ fun β' val w' hP hvr => ⟨β', val, rfl, hvr, hP.sub, hP.os, hP.tape, hP.output, hP.size, fun B hB => hP.frame B hB fun id b L hid hg _ => ?_⟩
  have h1 := lt_of_get hwf (getB_get (view_get hg)).1
  have h2 : h0.n ≤ id := hid
  omega
def isTrue : Res → Bool
  | .call (.bool true) _ => true
  | _ => false
theorem isTrue_some {x : Res} (h : isTrue x = true) : ∃ h', x = .call (.bool true) h' := by
  unfold isTrue at h
  split at h
  · exact ⟨_, rfl⟩
  · cases h
end Go.Proofs.YtndmnbigfpaenaaGreatDoor.Ev
