/- Code and calls: the evaluator's answer holds. -/
import Derived.Test.YtfoahdpnalbbgaaGreatDoorEvQ
import Derived.Laws.Sem
import Derived.RangeFuncLeaves
set_option linter.unusedVariables false
set_option linter.unusedSimpArgs false
namespace Go.Proofs.YtfoahdpnalbbgaaGreatDoor.Ev
open Go
def LoopWp (F : Fence) (m : Nat) (P : Program) (x : Code) (Q : Exit → Act → World → Prop) (a : Act) (w : World) : Prop :=
  ∀ (b : Frame) (k : List Item) (cs : List Frame), b.roundOf = F.round → F.fn b.fn → F.room (cs.length + 1 + m) → ∃ e a' w', Q e a' w' ∧ ArrivesIn (Machine.fenced P F) P (lone (b.atR a (.code x :: .inLoop x :: k)) cs w) b k cs e a' w'
theorem loop_unroll {F : Fence} {m : Nat} {P : Program} {x : Code} {Q : Exit → Act → World → Prop} {a : Act} {w : World} (h : x.wpIn F m P (Exit.then (LoopWp F m P x Q) Q) a w) : LoopWp F m P x Q a w := by
  intro b k cs hro hb hr
  obtain ⟨e, a₁, w₁, hq, harr⟩ := h b (.inLoop x :: k) cs hro hb hr
  cases e with
  | normal =>
    obtain ⟨e₂, a₂, w₂, hq₂, harr₂⟩ := hq b k cs hro hb hr
    exact ⟨e₂, a₂, w₂, hq₂, .of_steps (StepsIn.trans harr (.one (fenced_calm hb hr rfl) stepR_inLoop)) harr₂⟩
  | exit id => exact ⟨_, a₁, w₁, hq, .pass (x := .inLoop x) rfl (fun _ _ => .inl (by simp)) harr⟩
  | goto l => exact ⟨_, a₁, w₁, hq, .pass (x := .inLoop x) rfl (fun _ _ => .inl (by simp)) harr⟩
  | ret => exact ⟨_, a₁, w₁, hq, .pass (x := .inLoop x) rfl (fun _ _ => .inl (by simp)) harr⟩
  | panic ch => exact ⟨_, a₁, w₁, hq, .pass (x := .inLoop x) rfl (fun _ _ => .inl (by simp)) harr⟩
  | outgrown => exact ⟨_, a₁, w₁, hq, .pass (x := .inLoop x) rfl (fun _ _ => .inl (by simp)) harr⟩
def WPx (F : Fence) (m : Nat) (P : Program) (code : Code) (Q : Exit → Act → World → Prop) (a : Act) (w : World) : Prop :=
  match code with
  | .loop x => LoopWp F m P x Q a w
  | x => x.wpIn F m P Q a w
theorem WPx.wp {F : Fence} {m : Nat} {P : Program} {code : Code} {Q : Exit → Act → World → Prop} {a : Act} {w : World} (h : WPx F m P code Q a w) : code.wpIn F m P Q a w := by
  unfold WPx at h
  split at h
  · rename_i x
    intro b k cs hro hb hr
    obtain ⟨e, a', w', hq, harr⟩ := h b k cs hro hb hr
    exact ⟨e, a', w', hq, .of_steps (.one (fenced_calm hb hr rfl) stepR_loop) harr⟩
  · exact h
def Ex.toExit : Ex → Exit
  | .normal => .normal
  | .exit id => .exit id
  | .ret => .ret
/-- the marks among the deferred calls -/
def DfR (β : Bet) : List Nat → List Deferred → Prop
  | [], df => df = []
  | d :: ds, df => ∃ D df', df = { target := .collected D.blk, args := #[] } :: df' ∧ β d = some D ∧ DfR β ds df'
theorem DfR.mono {β β' : Bet} (h : Sub β β') : ∀ {ds : List Nat} {df : List Deferred}, DfR β ds df → DfR β' ds df
  | [], df, e => e
  | d :: ds, df, ⟨D, df', h1, h2, h3⟩ => ⟨D, df', h1, h _ _ h2, h3.mono h⟩
def CodeDid (P : Program) (ng nt : Nat) (rd : Bool) (code : Code) (c : C) (sl : Tr AV) (ds : List Nat) (h : H) (e : Ex) (sl' : Tr AV) (ds' : List Nat) (h' : H) : Prop :=
  Step c h h' ∧ ∀ β a w df, GB ng β → HR β (view c h) w → DfR β ds df → SlR nt df β sl a → (∀ id, h.n ≤ id → id < h'.n → β id = none) → ∀ (r : Option Nat) (m : Nat), (rd = false → r = none) → ∀ Q : Exit → Act → World → Prop,
    (∀ β' a' w' df', Post c.floor h.n h'.n β (view c h) w β' (view c h') w' → DfR β' ds' df' → SlR nt df' β' sl' a' → Q e.toExit a' w') → WPx (W r) m P code Q a w
section
variable {P : Program} {ng : Nat} {c : C} {call : Caller} {nt : Nat} {ops : Array Oper}
theorem foot_none {o : Oper} (h : memO o = true) : footO P o = none := by
  unfold memO at h
  unfold footO
  cases ho : o.op <;> rw [ho] at h <;> first | rfl | (cases h; done) | skip
  rename_i q
  obtain ⟨cal, args, ts⟩ := q
  cases cal with
  | builtin b => cases b <;> first | rfl | (cases h; done)
  | value f => rfl
  | invoke y n => rfl
theorem dreg_sound {rd : Bool} {ds : List Nat} {sl : Tr AV} {h : H} {r : Tr AV × H} {id : Nat} (hmx : P.follows .mixedOrders = true) (hO : OpOk P ng) (hC : CallOk P ng call) (hng : P.globals.size ≤ ng) (hnt : nt ≤ 1000000) (hok : okD ops (Region.before ops) = true) (hw : WF h) (hc : Ctx c h)
    (e : evDreg c call nt (cutBase h.n c.vis) (cDs P ops) 0 [] [] [] sl h = some r) : CodeDid P ng nt rd (.region id ops true) c sl ds h .normal r.1 ds r.2 := by
  obtain ⟨T, t1, t2, t3, t4, t5⟩ := evDreg_trace (D := DD P ng ops) (fun j c sl h v h' hd => by obtain ⟨o, _, hd, _⟩ := hd; exact hd.1) (cDs P ops) 0 [] [] [] sl h r hw hc.low (fun j x hx c' sl h k r hctx hw' ex => by
    obtain ⟨hlt, rfl⟩ := cDs_lt hx
    obtain ⟨o, ho⟩ := oper_at hlt
    rw [Nat.zero_add]
    have hop : (cD P ops (Region.before ops) j).op = (cR P ops ((Region.before ops).getD j 0) o).op := by
      show (cR P ops _ (ops.getD j default)).op = _
      rw [getD_of ho]
    have hme : (cD P ops (Region.before ops) j).mem = memO o := by
      show memO (ops.getD j default) = memO o
      rw [getD_of ho]
    have hfo : (cD P ops (Region.before ops) j).foot = (footO P o).bind cV := by
      show (footO P (ops.getD j default)).bind cV = _
      rw [getD_of ho]
    have hctx' : memO o = true → Ctx c' h := fun q => hctx (by rw [hme]; exact q) (by rw [hfo, foot_none q]; rfl)
    rw [hop] at ex
    rcases cR_spec (P := P) (ops := ops) ((Region.before ops).getD j 0) o with q | ⟨q1, q2⟩
    · have q' := q
      obtain ⟨xo, g, q1, q2, q3, q4⟩ := q
      rw [q4] at ex
      obtain ⟨v, h', e1, e2⟩ := hO o xo q1 c' call sl h k r hctx' hw' hC ex
      exact ⟨v, h', e1, o, ho, e2, q'⟩
    · rw [q1] at ex; cases ex) e
  have hlen : (cDs P ops).length = ops.size := by simp [cDs]
  rw [hlen] at t3 t4
  have F := dreg_tf (ng := ng) hok hnt hw t2 t5
  have hst : Step c h r.2 := by
    have := tf_step F (fun j hj => (t5 j _ (cDs_get hj)).step)
    rw [t2, t4] at this; exact this
  refine ⟨hst, fun β a w df hgb hr hdf hsl hfr ro m hro Q hQ => ?_⟩
  show (Code.region id ops true).wpIn (W ro) m P Q a w
  refine wpIn_region_any hmx ?_
  refine dreg_any (β0 := β) (w0 := { w with drawn := w.drawn + 1 }) hng hok hnt hw t2 hc t5 F hgb (by rw [t2, t4]; exact hfr) (fun β' a' w' hP hs => ?_) ops.size (Array.replicate ops.size false) β a _ (by simp) (by
      refine Nat.le_trans List.countP_le_length ?_
      simp) (inv_start F (fun i hi => by
        rcases Nat.lt_or_ge i ops.size with x | x
        · simp [Array.getD_eq_getD_getElem?, x] at hi
        · simp [Array.getD_eq_getD_getElem?, Nat.not_lt.2 x] at hi) (by show HR β (view c (T 0).h) _; rw [t2]; exact hr.drew _) (by show SlR nt df β (T 0).sl a; rw [t1]; exact hsl))
  · rw [t2, t4] at hP
    rw [t3] at hs
    exact hQ β' a' w' df hP.drew (hdf.mono hP.sub) hs
theorem reg_sound {rd : Bool} {ds : List Nat} {sl : Tr AV} {h : H} {r : Tr AV × H} {id : Nat} (hO : OpOk P ng) (hC : CallOk P ng call) (hng : P.globals.size ≤ ng) (hnt : nt ≤ 1000000) (hw : WF h) (hc : Ctx c h)
    (e : evReg c call nt (cRs P ops) sl h = some r) : CodeDid P ng nt rd (.region id ops false) c sl ds h .normal r.1 ds r.2 := by
  refine ⟨(evReg_sound (df := []) (rd := none) (m := 0) (c := c) (ops := ops) hO hC hng hnt ops.toList 0 sl h r (by simp) hw hc e).1, fun β a w df hgb hr hdf hsl hfr ro m hro Q hQ => ?_⟩
  obtain ⟨h1, h2⟩ := evReg_sound (df := df) (rd := ro) (m := m) (c := c) (ops := ops) hO hC hng hnt ops.toList 0 sl h r (by simp) hw hc e
  show (Code.region id ops false).wpIn (W ro) m P Q a w
  refine wpIn_region ?_
  have := h2 β a w hgb hr hsl hfr Q fun β' a' w' hP hs => hQ β' a' w' df hP (hdf.mono hP.sub) hs
  rw [List.range_eq_range']
  simpa using this
/-- one behind the other -/
theorem fresh_next {h h1 h2 : H} {β β1 : Bet} {g g1 : View} {w w1 : World} {f : Nat} (hP : Post f h.n h1.n β g w β1 g1 w1) (hfr : ∀ id, h.n ≤ id → id < h2.n → β id = none) : ∀ id, h1.n ≤ id → id < h2.n → β1 id = none := fun id q1 q2 => by
  cases hb : β1 id with
  | none => rfl
  | some L =>
    have h0 := hfr id (Nat.le_trans hP.le q1) q2
    have := hP.fresh id L hb h0
    omega

/-! results -/
theorem run_mapM_list {α β : Type} {f : α → Sem β} {w : World} : ∀ (l : List α) (ys : List β), l.length = ys.length → (∀ (i : Nat) (x : α) (y : β), l[i]? = some x → ys[i]? = some y → (f x).run P w = .ok y w) → (l.mapM f).run P w = .ok ys w
  | [], [], _, _ => by simp
  | [], _ :: _, h, _ => by simp at h
  | _ :: _, [], h, _ => by simp at h
  | x :: l, y :: ys, h, hh => by
    have h1 := hh 0 x y (by simp) (by simp)
    have h2 := run_mapM_list l ys (by simpa using h) fun i x y e1 e2 => hh (i + 1) x y (by simpa using e1) (by simpa using e2)
    simp [List.mapM_cons, h1, h2]
def resF (tmps : Array Value) : ResultVar → Sem Value
  | .tmp t => pure (tmps.getD t undef)
  | .cell a t => do loadVar t (← asAddr (tmps.getD a undef))
theorem resOf_some {df : List Deferred} {sl : Tr AV} {h : H} {r : Res} (hr : r ≠ .bad) : ∀ (l : List ResultVar) (rs : List (Nat × Option (Option Nat))) (k : List AV → Res), l.mapM (cRes P) = some rs → resOf c h sl rs k = r →
    ∃ vs, k vs = r ∧ ∀ β a w, HR β (view c h) w → SlR nt df β sl a → ∃ us, VRs β vs us ∧ us.length = l.length ∧ ∀ (i : Nat) (x : ResultVar) (y : Value), l[i]? = some x → us[i]? = some y → (resF a.tmps x).run P w = .ok y w
  | [], rs, k, hm, e => by
    simp at hm; subst hm
    exact ⟨[], e, fun β a w _ _ => ⟨[], by simp [VRs], rfl, fun i x y h1 => by simp at h1⟩⟩
  | x :: l, rs, k, hm, e => by
    simp only [List.mapM_cons, Option.bind_eq_bind, Option.bind_eq_some_iff, Option.pure_def, Option.some.injEq] at hm
    obtain ⟨q, h1, rs', h2, rfl⟩ := hm
    have glue : ∀ (v : AV), resOf c h sl rs' (fun vs => k (v :: vs)) = r → (∀ β a w, HR β (view c h) w → SlR nt df β sl a → ∃ u, VR β v u ∧ (resF a.tmps x).run P w = .ok u w) →
        ∃ vs, k vs = r ∧ ∀ β a w, HR β (view c h) w → SlR nt df β sl a → ∃ us, VRs β vs us ∧ us.length = (x :: l).length ∧ ∀ (i : Nat) (x' : ResultVar) (y : Value), (x :: l)[i]? = some x' → us[i]? = some y → (resF a.tmps x').run P w = .ok y w := fun v e' hv => by
      obtain ⟨vs, k1, k2⟩ := resOf_some hr l rs' _ h2 e'
      refine ⟨v :: vs, k1, fun β a w hrr hsl => ?_⟩
      obtain ⟨u, u1, u2⟩ := hv β a w hrr hsl
      obtain ⟨us, w1, w2, w3⟩ := k2 β a w hrr hsl
      refine ⟨u :: us, by simp only [VRs]; exact ⟨u, us, rfl, u1, w1⟩, by simp [w2], fun i x' y e1 e2 => ?_⟩
      cases i with
      | zero => simp at e1 e2; subst e1 e2; exact u2
      | succ i => exact w3 i x' y (by simpa using e1) (by simpa using e2)
    cases x with
    | tmp t =>
      simp [cRes] at h1; subst h1
      simp only [resOf] at e
      exact glue _ e fun β a w hrr hsl => ⟨_, hsl.at_ t, by simp [resF]⟩
    | cell at_ t =>
      simp only [cRes, Option.bind_eq_bind, Option.bind_eq_some_iff, Option.pure_def, Option.some.injEq] at h1
      obtain ⟨n, h3, rfl⟩ := h1
      simp only [resOf] at e
      cases hs : slot sl at_ <;> rw [hs] at e <;> try (exact absurd e.symm hr)
      rename_i id off
      simp only at e
      cases hg : getB c h id with
      | none => rw [hg] at e; exact absurd e.symm hr
      | some b =>
        rw [hg] at e
        cases b with
        | map _ _ => exact absurd e.symm hr
        | iter _ _ _ _ => exact absurd e.symm hr
        | defd => exact absurd e.symm hr
        | loop _ _ _ _ _ _ _ _ => exact absurd e.symm hr
        | dead => exact absurd e.symm hr
        | cells vs =>
          simp only at e
          have pt : ∀ β a w, HR β (view c h) w → SlR nt df β sl a → ∃ L, β id = some L ∧ a.tmps.getD at_ undef = .pointer (some ⟨L.blk, L.base + off, none⟩) ∧ BR β L w (.cells vs) := fun β a w hrr hsl => by
            have := hsl.at_ at_
            rw [hs] at this
            exact ptr_of hrr this hg
          cases n with
          | none =>
            simp only at e
            cases hn : nth off vs with
            | none => rw [hn] at e; exact absurd e.symm hr
            | some v =>
              rw [hn] at e
              rw [nth_eq] at hn
              refine glue v e fun β a w hrr hsl => ?_
              obtain ⟨L, hL, hu, hb⟩ := pt β a w hrr hsl
              obtain ⟨u, hc, hvr⟩ := cell_of_br hb hn
              exact ⟨u, hvr, by simp only [resF]; rw [hu]; simp [asAddr, loadVar, isA_none h3, hc]⟩
          | some n =>
            simp only at e
            cases hn : (dropK off vs fun vs => takeK n vs fun vs => some vs) with
            | none => rw [hn] at e; exact absurd e.symm hr
            | some cs =>
              rw [hn] at e
              obtain ⟨q1, hn⟩ := dropK_some hn
              obtain ⟨q2, hn⟩ := takeK_some hn
              cases hn
              refine glue _ e fun β a w hrr hsl => ?_
              obtain ⟨L, hL, hu, hb⟩ := pt β a w hrr hsl
              obtain ⟨cs, hvr, hc⟩ := part_of_br hb (off := off) (n := n) (by simp at q2; omega)
              have hl : cs.length = n := by rw [← hvr.length]; simp; simp at q2; omega
              have hld := run_loadCells_list (P := P) w _ cs hc
              rw [hl] at hld
              refine ⟨.agg cs.toArray, by simp only [VR]; exact ⟨_, rfl, by simpa using hvr⟩, ?_⟩
              simp only [resF]; rw [hu]
              simp [asAddr, loadVar, (isA_some h3 w).1, (isA_some h3 w).2, hld]
def resV : List Value → Value
  | [u] => u
  | us => .tuple us.toArray
theorem run_results {fn : Func} {tmps : Array Value} {w : World} {us : List Value} (hl : us.length = fn.results.toList.length) (h : ∀ (i : Nat) (x : ResultVar) (y : Value), fn.results.toList[i]? = some x → us[i]? = some y → (resF tmps x).run P w = .ok y w) :
    (results fn tmps).run P w = .ok (resV us) w := by
  have h1 := run_mapM_list (P := P) (f := resF tmps) fn.results.toList us hl.symm h
  have e : results fn tmps = (do
      let vs ← fn.results.mapM (resF tmps)
      pure (if h : vs.size = 1 then vs[0] else .tuple vs)) := by
    unfold results
    rfl
  rw [e, Array.mapM_eq_mapM_toList]
  simp only [Sem.run_bind, map_eq_pure_bind, bind_assoc, pure_bind, h1, Result.andThen_ok]
  cases us with
  | nil => simp [resV]
  | cons u us =>
    cases us with
    | nil => simp [resV]
    | cons u' us => simp [resV]
end
end Go.Proofs.YtfoahdpnalbbgaaGreatDoor.Ev
