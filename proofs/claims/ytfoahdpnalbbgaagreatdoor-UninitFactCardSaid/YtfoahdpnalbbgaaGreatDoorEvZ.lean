/- The evaluator's answer holds: all code, all calls, all rounds. -/
import Derived.Test.YtfoahdpnalbbgaaGreatDoorEvS
set_option linter.unusedVariables false
set_option linter.unusedSimpArgs false
namespace Go.Proofs.YtfoahdpnalbbgaaGreatDoor.Ev
open Go
section
variable {P : Program} {ng : Nat} {X : Exts}
/-- what stands for a function answers as it does -/
def ExtOk (P : Program) (X : Exts) : Prop := ∀ (f : Nat) (g : List AV → Option AV), extOf X f = some g → ∀ args v, g args = some v → ∀ β cargs (w : World), VRs β args cargs → ∃ u, (callFunc f cargs.toArray).run P w = .ok (.value u) w ∧ VR β v u
theorem rf_next {c : C} {nt : Nat} {f : Operand} {xf : XV} {ps : Array Nat} {assign body : Code} {ih : Runner} {sl : Tr AV} {ds : List Nat} {h : H} {e : Ex} {sl' : Tr AV} {ds' : List Nat} {h' : H} (hng : P.globals.size ≤ ng) (ihf : CallOk P ng (callOf ih)) (hc : Ctx c h) (hw : WF h)
    (hf : cV f = some xf) (hg : gOk P f = true) (hev : rfRes ih c nt ps.toList assign body sl ds h (evV sl xf) = .code e sl' ds' h') : CodeDid P ng nt false (.rangeFunc f ps assign body) c sl ds h e sl' ds' h' := by
  unfold rfRes at hev
  split at hev
  · rename_i fid caps hv
    have e0 := thenR_some (fun q => by cases q) hev
    obtain ⟨n1, e0⟩ := newB_some e0
    obtain ⟨n2, e0⟩ := newB_some e0
    simp only [Option.some.injEq] at e0
    cases hcall : ih c (.call (.fnB fid) (.yld (h.n + 1) :: caps)) ⟨Tr.set depth (Tr.set depth h.t h.n .defd) (h.n + 1) (.loop 0 none nt sl ps.toList assign body h.n), h.n + 1 + 1⟩ with
    | bad => rw [hcall] at e0; cases e0
    | code _ _ _ _ => rw [hcall] at e0; cases e0
    | call v3 h3 =>
      rw [hcall] at e0
      simp only at e0
      have st1 : Step c h ⟨Tr.set depth h.t h.n .defd, h.n + 1⟩ := step_new hw n1
      have st2 : Step c ⟨Tr.set depth h.t h.n .defd, h.n + 1⟩ ⟨Tr.set depth (Tr.set depth h.t h.n .defd) (h.n + 1) (.loop 0 none nt sl ps.toList assign body h.n), h.n + 1 + 1⟩ := step_new st1.wf n2
      have hfd : FnDid P ng fid (.yld (h.n + 1) :: caps) c ⟨Tr.set depth (Tr.set depth h.t h.n .defd) (h.n + 1) (.loop 0 none nt sl ps.toList assign body h.n), h.n + 1 + 1⟩ v3 h3 :=
        ihf (.fnB fid) _ c _ v3 h3 (hc.mono (st1.trans st2).le) st2.wf (by unfold callOf; rw [hcall])
      obtain ⟨st3, ⟨fn, f1, f2, f3⟩, hd⟩ := hfd
      unfold rfEnd at e0
      split at e0
      · rename_i st pend nt' sl0 ps0 as0 bo0 d0 hgl
        cases hst : Nat.beq st 2 with
        | true => rw [hst] at e0; cases e0
        | false =>
          rw [hst] at e0
          simp only [cond] at e0
          have hst' : st ≠ 2 := fun q => by subst q; simp at hst
          have e0 := thenR_some (fun q => by cases q) e0
          obtain ⟨hfl, hsn, e0⟩ := setB_some e0
          have hwf3 := st3.wf
          have st4 : Step c h3 ⟨Tr.set depth h3.t (h.n + 1) .dead, h3.n⟩ := step_set hwf3 (getB_get hgl).1 hfl hsn
          have key : sl = sl' ∧ h.n :: ds = ds' ∧ (⟨Tr.set depth h3.t (h.n + 1) .dead, h3.n⟩ : H) = h' ∧ pend.getD .normal = e := by
            cases pend with
            | none => simp only [Option.some.injEq, Res.code.injEq] at e0; obtain ⟨a1, a2, a3, a4⟩ := e0; exact ⟨a2, a3, a4, a1⟩
            | some e1 => simp only [Option.some.injEq, Res.code.injEq] at e0; obtain ⟨a1, a2, a3, a4⟩ := e0; exact ⟨a2, a3, a4, a1⟩
          obtain ⟨k1, k2, k3, k4⟩ := key
          subst k1 k2 k3 k4
          refine ⟨((st1.trans st2).trans st3).trans st4, fun β a w df hgb hr hdf hsl hfr ro m hro Q hQ => ?_⟩
          have hro' := hro rfl
          subst hro'
          have hn3 : h.n + 1 + 1 ≤ h3.n := st3.le
          have b0 : β h.n = none := hfr h.n (Nat.le_refl _) (by show h.n < h3.n; omega)
          have b1 : β (h.n + 1) = none := hfr (h.n + 1) (by omega) (by show h.n + 1 < h3.n; omega)
          have hfv := opsR_of (P := P) (sl := sl) (a := a) (ys := [f]) hng hgb (by simp [hg]) (fun t _ => hsl.at_ t) f (by simp) xf hf
          rw [hv] at hfv
          simp only [VR] at hfv
          obtain ⟨cds, hu, hcds⟩ := hfv
          -- the two new blocks
          have P1 : Post c.floor h.n (h.n + 1) β (view c h) w (upd β h.n ⟨w.heap.size, 0, 0⟩) (view c ⟨Tr.set depth h.t h.n .defd, h.n + 1⟩) { w with heap := w.heap.push (.deferred (some [])) } :=
            post_push (L := ⟨w.heap.size, 0, 0⟩) (b := .defd) hr n1 b0 rfl (by show (w.heap.push _)[w.heap.size]? = _; simp)
          have b1' : upd β h.n ⟨w.heap.size, 0, 0⟩ (h.n + 1) = none := by rw [upd_other (by omega)]; exact b1
          have hS12 : Sub (upd β h.n ⟨w.heap.size, 0, 0⟩) (upd (upd β h.n ⟨w.heap.size, 0, 0⟩) (h.n + 1) ⟨w.heap.size + 1, 0, 0⟩) := upd_sub _ b1'
          have hlen : ({ w with heap := w.heap.push (.deferred (some [])) } : World).heap.size = w.heap.size + 1 := by simp
          refine wpIn_rangeFunc fun fn0 _ => ?_
          let rec0 : Loop := { state := .ready, pending := none, fn := fn0, tmps := a.tmps, params := ps, assign := assign, body := body, defers := w.heap.size }
          have P2 : Post c.floor (h.n + 1) (h.n + 1 + 1) (upd β h.n ⟨w.heap.size, 0, 0⟩) (view c ⟨Tr.set depth h.t h.n .defd, h.n + 1⟩) { w with heap := w.heap.push (.deferred (some [])) } (upd (upd β h.n ⟨w.heap.size, 0, 0⟩) (h.n + 1) ⟨w.heap.size + 1, 0, 0⟩) (view c ⟨Tr.set depth (Tr.set depth h.t h.n .defd) (h.n + 1) (.loop 0 none nt sl ps.toList assign body h.n), h.n + 1 + 1⟩) { w with heap := (w.heap.push (.deferred (some []))).push (.loop rec0) } :=
            post_push (h := ⟨Tr.set depth h.t h.n .defd, h.n + 1⟩) (L := ⟨w.heap.size + 1, 0, 0⟩) (b := .loop 0 none nt sl ps.toList assign body h.n) P1.hr n2 b1' hlen.symm (by
              refine ⟨rec0, ?_, rfl, rfl, hsl.size, fun t => VR.mono (P1.sub.trans hS12) _ _ (hsl.at_ t), rfl, rfl, rfl, ⟨w.heap.size, 0, 0⟩, hS12 _ _ (upd_same _ _ _), rfl⟩
              show ((w.heap.push (.deferred (some []))).push (.loop rec0))[w.heap.size + 1]? = _
              rw [Array.getElem?_push, if_pos (by simp)])
          have f3' : ¬ fn.name = "runtime.NumGoroutine" := by simpa using f3
          have f2' : ¬ fn.body = none := fun q => by rw [q] at f2; cases f2
          refine ⟨w.heap.size + 1, [{ target := .collected w.heap.size, args := #[] }], { w with heap := (w.heap.push (.deferred (some []))).push (.loop rec0) }, { target := .fn (.func fid) cds, args := #[.func (.yield (w.heap.size + 1)) #[] #[]] }, { w with heap := (w.heap.push (.deferred (some []))).push (.loop rec0) }, fid, #[.func (.yield (w.heap.size + 1)) #[] #[]] ++ cds, { w with heap := (w.heap.push (.deferred (some []))).push (.loop rec0) }, ?_, ?_, fun _ _ => trivial, ?_, fun q => (by cases q), callsIn_w.2 ?_⟩
          · show (Instr.enterLoop fn0 a.tmps ps assign body none).run P w = _
            simp [Instr.enterLoop, rec0]
            rfl
          · have ec : a.eval (.const (.func (.yield (w.heap.size + 1)) #[] #[])) = .func (.yield (w.heap.size + 1)) #[] #[] := rfl
            simp [resolve, rangeCall, Deferred.ofValue, hu, ec]
          · simp [invoke, callFunc, f1, f2', f3']
          · have earr : #[Value.func (.yield (w.heap.size + 1)) #[] #[]] ++ cds = (Value.func (.yield (w.heap.size + 1)) #[] #[] :: cds.toList).toArray := by apply Array.ext'; simp
            rw [earr]
            have hS : Sub β (upd (upd β h.n ⟨w.heap.size, 0, 0⟩) (h.n + 1) ⟨w.heap.size + 1, 0, 0⟩) := P1.sub.trans hS12
            refine hd _ _ _ (hgb.mono hS) P2.hr (by simp only [VRs, VR]; exact ⟨_, _, rfl, ⟨_, upd_same _ _ _, rfl⟩, VRs.mono hS _ _ hcds⟩) (fun id q1 q2 => ?_) _ fun β3 val w3 hP3 hvr => ?_
            · have q1' : h.n + 1 + 1 ≤ id := q1
              rw [upd_other (by omega), upd_other (by omega)]
              exact hfr id (by omega) q2
            · have hL3 : β3 (h.n + 1) = some ⟨w.heap.size + 1, 0, 0⟩ := hP3.sub _ _ (upd_same _ _ _)
              obtain ⟨L', p1, p2, p3⟩ := live_place hgl (fun q => by cases q) hP3.hr
              rw [hL3] at p1; cases p1
              obtain ⟨r3, r1, r2, r3', r4, r5, r6, r7, r8, _⟩ := p3
              have P4 := post_put (b' := .dead) (ob := .loop { r3 with state := .exhausted }) hwf3 hgl (fun q => by cases q) hfl hP3.hr hL3 trivial
              have hall := ((P1.trans P2).trans hP3).trans P4
              have hbusy : ¬ r3.state = LoopState.busy := by
                rw [r2]
                match st, hst' with
                | 0, _ => exact fun q => by cases q
                | 1, _ => exact fun q => by cases q
                | 2, q => exact absurd rfl q
                | n + 3, _ => exact fun q => by cases q
              have r1' : w3.heap[w.heap.size + 1]? = some (.loop r3) := r1
              refine ⟨pend.map exCode, { w3 with heap := w3.heap.setIfInBounds (w.heap.size + 1) (.loop { r3 with state := .exhausted }) }, ?_, ?_⟩
              · rw [← r3']
                simp [Instr.endLoop, Instr.getLoop, getObj, setObj, Sem.run, r1', hbusy]
              · have hqd : ∀ β' (a' : Act) (hs : a' = { a with defers := { target := .collected w.heap.size, args := #[] } :: a.defers }), β' = β3 → DfR β' (h.n :: ds) a'.defers ∧ SlR nt a'.defers β' sl a' := fun β' a' hs hb => by
                  subst hs hb
                  refine ⟨⟨⟨w.heap.size, 0, 0⟩, a.defers, rfl, hP3.sub _ _ (hS12 _ _ (upd_same _ _ _)), ?_⟩, ⟨hsl.size, rfl, fun t => VR.mono (hS.trans hP3.sub) _ _ (hsl.at_ t)⟩⟩
                  rw [hsl.defers]; exact hdf.mono (hS.trans hP3.sub)
                cases pend with
                | none =>
                  obtain ⟨q1, q2⟩ := hqd β3 _ rfl rfl
                  exact hQ β3 _ _ _ hall q1 q2
                | some e1 =>
                  obtain ⟨q1, q2⟩ := hqd β3 _ rfl rfl
                  cases e1 with
                  | normal => exact wpIn_skip (hQ β3 _ _ _ hall q1 q2)
                  | exit id => exact wpIn_exit (hQ β3 _ _ _ hall q1 q2)
                  | ret => exact wpIn_ret (hQ β3 _ _ _ hall q1 q2)
      · cases e0
  · cases hev
end
end Go.Proofs.YtfoahdpnalbbgaaGreatDoor.Ev
