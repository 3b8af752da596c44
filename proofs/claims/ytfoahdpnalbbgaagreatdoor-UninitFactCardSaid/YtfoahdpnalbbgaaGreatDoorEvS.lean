/- The evaluator's answer holds: all code, all calls. -/
import Derived.Test.YtfoahdpnalbbgaaGreatDoorEvR
set_option linter.unusedVariables false
set_option linter.unusedSimpArgs false
namespace Go.Proofs.YtfoahdpnalbbgaaGreatDoor.Ev
open Go
def setAll : List AV → Nat → Tr AV → Tr AV
  | [], _, sl => sl
  | v :: vs, i, sl => setAll vs (i + 1) (Tr.set depth sl i v)
theorem slotsOf_eq : ∀ (vs : List AV) (i : Nat) (sl : Tr AV) (k : Tr AV → Res), slotsOf vs i sl k = k (setAll vs i sl)
  | [], _, _, _ => rfl
  | v :: vs, i, sl, k => by
    unfold slotsOf setAll
    rw [Tr.setK_eq]
    exact slotsOf_eq vs (i + 1) _ k
theorem slot_setAll : ∀ (vs : List AV) (i : Nat) (sl : Tr AV) (t : Nat), i + vs.length ≤ 1000000 → slot (setAll vs i sl) t = if i ≤ t ∧ t < i + vs.length then vs.getD (t - i) (.tup []) else slot sl t
  | [], i, sl, t, _ => by
    unfold setAll
    rw [if_neg]; simp
  | v :: vs, i, sl, t, h => by
    unfold setAll
    simp only [List.length_cons] at h ⊢
    rw [slot_setAll vs (i + 1) _ t (by omega), slot_set (by omega)]
    by_cases e : i = t
    · subst e
      rw [if_neg (by omega), if_pos rfl, if_pos (by omega)]; simp
    · by_cases q : i + 1 ≤ t ∧ t < i + 1 + vs.length
      · rw [if_pos q, if_pos (by omega), show t - i = (t - (i + 1)) + 1 by omega]; simp
      · rw [if_neg q, if_neg e, if_neg (by omega)]
section
variable {P : Program} {ng : Nat}
theorem start_slots {β : Bet} {args : List AV} {cargs : List Value} {nt : Nat} (hv : VRs β args cargs) (hl : args.length ≤ nt) (hnt : nt ≤ 1000000) :
    SlR nt [] β (setAll args 0 .nil) { tmps := cargs.toArray ++ Array.replicate (nt - cargs.toArray.size) undef, defers := [] } := by
  have hlen := hv.length
  refine ⟨by simp; omega, rfl, fun t => ?_⟩
  rw [slot_setAll args 0 _ t (by omega)]
  by_cases q : t < args.length
  · rw [if_pos (by omega)]
    have e1 : args[t]? = some args[t] := by simp
    obtain ⟨u, h1, h2⟩ := hv.get e1
    have hlt := (List.getElem?_eq_some_iff.1 h1).1
    have e2 : (cargs.toArray ++ Array.replicate (nt - cargs.toArray.size) undef).getD t undef = u := by
      rw [Array.getD_eq_getD_getElem?, Array.getElem?_append_left (by simpa using hlt)]
      simp [h1]
    have e3 : args.getD (t - 0) (.tup []) = args[t] := by simp [q]
    show VR β _ ((cargs.toArray ++ Array.replicate (nt - cargs.toArray.size) undef).getD t undef)
    rw [e2, e3]; exact h2
  · rw [if_neg (by omega)]
    have e2 : (cargs.toArray ++ Array.replicate (nt - cargs.toArray.size) undef).getD t undef = undef := by
      rw [Array.getD_eq_getD_getElem?, Array.getElem?_append_right (by simp; omega)]
      rw [Array.getElem?_replicate]
      split <;> rfl
    show VR β _ ((cargs.toArray ++ Array.replicate (nt - cargs.toArray.size) undef).getD t undef)
    rw [e2]
    have : slot (Tr.nil : Tr AV) t = .tup [] := by unfold slot; rw [Tr.get_nil]
    rw [this]; exact vr_undef
theorem outRes_some {o : Out} {e : Ex} {ds ds' : List Nat} {sl' : Tr AV} {h' : H} (x : outRes ds o = .code e sl' ds' h') : e = .normal ∧ ds' = ds ∧ o = some (sl', h') := by
  unfold outRes at x
  split at x
  · cases x; exact ⟨rfl, rfl, rfl⟩
  · cases x
theorem thenR_some {x : Option Res} {r : Res} (hr : r ≠ .bad) (e : thenR x = r) : x = some r := by
  unfold thenR at e
  split at e
  · rw [e]
  · exact absurd e.symm hr
def CodeOk (P : Program) (ng : Nat) (ih : Runner) : Prop := ∀ (c : C) (nt : Nat) (rd : Bool) (code : Code) (sl : Tr AV) (ds : List Nat) (h : H) (e : Ex) (sl' : Tr AV) (ds' : List Nat) (h' : H), nt ≤ 1000000 → Ctx c h → WF h → ih c (.code nt rd (cC P code) sl ds) h = .code e sl' ds' h' → CodeDid P ng nt rd code c sl ds h e sl' ds' h'
section
variable {c : C} {nt : Nat} {rd : Bool} {x y : Code} {sl sl1 sl2 : Tr AV} {ds ds1 ds2 : List Nat} {h h1 h2 : H} {e : Ex}
theorem CodeDid.seq (d1 : CodeDid P ng nt rd x c sl ds h .normal sl1 ds1 h1) (d2 : CodeDid P ng nt rd y c sl1 ds1 h1 e sl2 ds2 h2) : CodeDid P ng nt rd (.seq x y) c sl ds h e sl2 ds2 h2 := by
  refine ⟨d1.1.trans d2.1, fun β a w df hgb hr hdf hsl hfr ro m hro Q hQ => ?_⟩
  show (Code.seq x y).wpIn (W ro) m P Q a w
  refine wpIn_seq (WPx.wp (d1.2 β a w df hgb hr hdf hsl (fun id q1 q2 => hfr id q1 (Nat.lt_of_lt_of_le q2 d2.1.le)) ro m hro _ fun β1 a1 w1 df1 hP1 hd1 hs1 => ?_))
  exact WPx.wp (d2.2 β1 a1 w1 df1 (hgb.mono hP1.sub) hP1.hr hd1 hs1 (fresh_next hP1 hfr) ro m hro Q fun β2 a2 w2 df2 hP2 hd2 hs2 => hQ β2 a2 w2 df2 (hP1.trans hP2) hd2 hs2)
theorem CodeDid.seqOut (d1 : CodeDid P ng nt rd x c sl ds h e sl1 ds1 h1) (he : e ≠ .normal) : CodeDid P ng nt rd (.seq x y) c sl ds h e sl1 ds1 h1 := by
  refine ⟨d1.1, fun β a w df hgb hr hdf hsl hfr ro m hro Q hQ => ?_⟩
  show (Code.seq x y).wpIn (W ro) m P Q a w
  refine wpIn_seq (WPx.wp (d1.2 β a w df hgb hr hdf hsl hfr ro m hro _ fun β1 a1 w1 df1 hP1 hd1 hs1 => ?_))
  cases e with
  | normal => exact absurd rfl he
  | exit id => exact hQ β1 a1 w1 df1 hP1 hd1 hs1
  | ret => exact hQ β1 a1 w1 df1 hP1 hd1 hs1
theorem CodeDid.loop (d1 : CodeDid P ng nt rd x c sl ds h .normal sl1 ds1 h1) (d2 : CodeDid P ng nt rd (.loop x) c sl1 ds1 h1 e sl2 ds2 h2) : CodeDid P ng nt rd (.loop x) c sl ds h e sl2 ds2 h2 := by
  refine ⟨d1.1.trans d2.1, fun β a w df hgb hr hdf hsl hfr ro m hro Q hQ => ?_⟩
  show LoopWp (W ro) m P x Q a w
  refine loop_unroll (WPx.wp (d1.2 β a w df hgb hr hdf hsl (fun id q1 q2 => hfr id q1 (Nat.lt_of_lt_of_le q2 d2.1.le)) ro m hro _ fun β1 a1 w1 df1 hP1 hd1 hs1 => ?_))
  exact d2.2 β1 a1 w1 df1 (hgb.mono hP1.sub) hP1.hr hd1 hs1 (fresh_next hP1 hfr) ro m hro Q fun β2 a2 w2 df2 hP2 hd2 hs2 => hQ β2 a2 w2 df2 (hP1.trans hP2) hd2 hs2
theorem CodeDid.loopOut (d1 : CodeDid P ng nt rd x c sl ds h e sl1 ds1 h1) (he : e ≠ .normal) : CodeDid P ng nt rd (.loop x) c sl ds h e sl1 ds1 h1 := by
  refine ⟨d1.1, fun β a w df hgb hr hdf hsl hfr ro m hro Q hQ => ?_⟩
  show LoopWp (W ro) m P x Q a w
  refine loop_unroll (WPx.wp (d1.2 β a w df hgb hr hdf hsl hfr ro m hro _ fun β1 a1 w1 df1 hP1 hd1 hs1 => ?_))
  cases e with
  | normal => exact absurd rfl he
  | exit id => exact hQ β1 a1 w1 df1 hP1 hd1 hs1
  | ret => exact hQ β1 a1 w1 df1 hP1 hd1 hs1
theorem CodeDid.nothing (hw : WF h) (hx : ∀ r m (Q : Exit → Act → World → Prop) a w, Q e.toExit a w → WPx (W r) m P x Q a w) : CodeDid P ng nt rd x c sl ds h e sl ds h :=
  ⟨Step.refl hw, fun β a w df hgb hr hdf hsl hfr ro m hro Q hQ => hx ro m Q a w (hQ β a w df (Post.refl hr) hdf hsl)⟩
end
/-! writing a block that is no row of cells -/
theorem live_place {c : C} {h : H} {id : Nat} {b : AB} {β : Bet} {w : World} (hg : getB c h id = some b) (hb : b ≠ .dead) (hr : HR β (view c h) w) : ∃ L, β id = some L ∧ L.blk < w.heap.size ∧ BR β L w b := hr.at_ id b (view_live hg hb)
theorem post_put {c : C} {h : H} {id : Nat} {b b' : AB} {β : Bet} {w : World} {L : Loc} {ob : Obj} (hw : WF h) (hg : getB c h id = some b) (hb : b ≠ .dead) (hf : c.floor ≤ id) (hr : HR β (view c h) w) (hL : β id = some L)
    (hbr : BR β L { w with heap := w.heap.setIfInBounds L.blk ob } b') : Post c.floor h.n h.n β (view c h) w β (view c ⟨Tr.set depth h.t id b', h.n⟩) { w with heap := w.heap.setIfInBounds L.blk ob } := by
  obtain ⟨g1, g2⟩ := getB_get hg
  have hid : id < 10000000 := Nat.lt_of_lt_of_le (lt_of_get hw g1) hw.small
  exact post_write (b := b') hr (view_live hg hb) hL hf (fun B hB => by simp [Array.getElem?_setIfInBounds_ne (Ne.symm hB)]) (by simp) rfl rfl rfl hbr (fun j d e => view_set hid e)
theorem set_at {w : World} {b : Nat} {ob : Obj} (hlt : b < w.heap.size) : ({ w with heap := w.heap.setIfInBounds b ob } : World).heap[b]? = some ob := by simp [hlt]

/-! the marks at a function's end -/
theorem shutD_some {c : C} {r : Res} (hr : r ≠ .bad) : ∀ (ds : List Nat) (h : H) (k : H → Res), WF h → shutD c ds h k = r → ∃ h2, k h2 = r ∧ Step c h h2 ∧ h2.n = h.n ∧ ∀ β w df, HR β (view c h) w → DfR β ds df → ∀ (n : Nat) (fn : Func) (tmps : Array Value) (R : Ending → World → Prop),
    (∀ w2, Post c.floor h.n h2.n β (view c h) w β (view c h2) w2 → ∃ v, (results fn tmps).run P w2 = .ok v w2 ∧ R (.returned v) w2) → LeavesInM (W none) n P fn tmps R df .returning w
  | [], h, k, hw, e => ⟨h, e, Step.refl hw, rfl, fun β w df hrr hdf n fn tmps R hR => by
      have : df = [] := hdf
      subst this
      exact hR w (Post.refl hrr)⟩
  | d :: ds, h, k, hw, e => by
    unfold shutD at e
    split at e
    · rename_i hg
      have e := thenR_some hr e
      obtain ⟨hf, hs, e⟩ := setB_some e
      have e : shutD c ds ⟨Tr.set depth h.t d .dead, h.n⟩ k = r := by simpa using e
      obtain ⟨g1, g2⟩ := getB_get hg
      have st := step_set (c := c) (b := .dead) hw g1 hf hs
      obtain ⟨h2, k1, k2, k3, k4⟩ := shutD_some hr ds _ k st.wf e
      refine ⟨h2, k1, st.trans k2, k3, fun β w df hrr hdf n fn tmps R hR => ?_⟩
      obtain ⟨D, df', rfl, hD, hdf'⟩ := hdf
      obtain ⟨D', q1, q2, q3⟩ := live_place hg (fun q => by cases q) hrr
      rw [hD] at q1; cases q1
      have hP := post_put (b' := .dead) (ob := .deferred none) hw hg (fun q => by cases q) hf hrr hD trivial
      refine ⟨fun q => (by cases q), Or.inl ⟨D.blk, { w with heap := w.heap.setIfInBounds D.blk (.deferred none) }, rfl, ?_, ?_⟩⟩
      · have q3' : w.heap[D.blk]? = some (.deferred (some [])) := q3
        simp [Instr.takeDeferred, getObj, setObj, Sem.run, q3']
      · exact k4 β _ df' hP.hr hdf' n fn tmps R fun w2 hP2 => hR w2 (hP.trans hP2)
    · exact absurd e.symm hr
end
end Go.Proofs.YtfoahdpnalbbgaaGreatDoor.Ev
