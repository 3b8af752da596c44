/- The evaluator: calls, contexts, drawn regions. -/
import Derived.Test.YtmdceifbbmnfgaaGreatDoorEvC
import Derived.RangeFuncLeaves
import Derived.OrdersIn
set_option linter.unusedVariables false
set_option linter.unusedSimpArgs false
namespace Go.Proofs.YtmdceifbbmnfgaaGreatDoor.Ev
open Go
def W (r : Option Nat) : Fence := { Fence.wide with round := r }
theorem callsIn_w {r : Option Nat} {n : Nat} {P : Program} {f : FuncId} {args : Array Value} {w : World} {R : Ending → World → Prop} : CallsIn (W r) n P f args w R ↔ Calls P f args w R := callsIn_wide (n := n)
def DidR (P : Program) (ng : Nat) (o : Oper) (c : C) (sl : Tr AV) (h : H) (v : AV) (h' : H) : Prop :=
 Step c h h' ∧ ∀ β a w, GB ng β → HR c.floor β (view c h) w → OpsR β sl a o.op.operands.toList → (∀ id, h.n ≤ id → id < h'.n → β id = none) → ∀ (r : Option Nat) (n : Nat) (K : Act → World → Prop) (Q : Exit → Act → World → Prop),
  (∀ β' val w', Post c.floor h.n h'.n β (view c h) w β' (view c h') w' → VR β' v val → K (a.put o.dst val) w') → Oper.wpIn (W r) n P o a w K Q
section
variable {P : Program} {ng : Nat} {o : Oper} {c : C} {sl : Tr AV} {h : H}
theorem upon_in {r : Option Nat} {n : Nat} {a : Act} {K : Act → World → Prop} {Q : Exit → Act → World → Prop} {res : Result Next} (h : o.upon P a K Q res) : o.uponIn (W r) n P a K Q res := by
 cases res with
 | ok x w' =>
  cases x <;> simp only [Oper.upon, Oper.uponIn] at h ⊢ <;> first
   | exact h
   | exact ⟨fun q => (by cases q), callsIn_w.2 h⟩
   | exact ⟨fun q => (by cases q), fun c cs _ => let ⟨v, w', r, s⟩ := h c cs; ⟨v, w', r, stepsIn_wide.2 s⟩⟩
 | halt x w' => cases x <;> simp only [Oper.upon, Oper.uponIn] at h ⊢ <;> exact h
theorem Did.toR {v : AV} {h' : H} (hd : ∀ q, o.op ≠ .defer q) (d : Did P ng o c sl h v h') : DidR P ng o c sl h v h' :=
 ⟨d.1, fun β a w hgb hr hop hfr r n K Q hK => ⟨fun _ _ => trivial, by
  rw [Oper.semAt_eq _ _ _ hd]
  exact upon_in (d.2 β a w hgb hr hop hfr K Q hK)⟩⟩
def FnDid (P : Program) (ng : Nat) (f : Nat) (args : List AV) (c : C) (h : H) (v : AV) (h' : H) : Prop :=
 Step c h h' ∧ (∃ fn, P.funcs[f]? = some fn ∧ fn.body.isNone = false ∧ (fn.name == "runtime.NumGoroutine") = false) ∧
 ∀ β w cargs, GB ng β → HR c.floor β (view c h) w → VRs β args cargs → (∀ id, h.n ≤ id → id < h'.n → β id = none) → ∀ (R : Ending → World → Prop),
  (∀ β' val w', Post c.floor h.n h'.n β (view c h) w β' (view c h') w' → VR β' v val → R (.returned val) w') → Calls P f cargs.toArray w R
def SemR (β : Bet) : Cee → List Value → Sem Next → Prop
 | .fn f, cargs, S => S = callFunc f cargs.toArray
 | .fnB _, _, _ => False
 | .yld id, cargs, S => ∃ L, β id = some L ∧ S = Instr.yield L.blk cargs.toArray
def UpDid (P : Program) (ng : Nat) (f : Cee) (args : List AV) (c : C) (h : H) (v : AV) (h' : H) : Prop :=
 Step c h h' ∧ ∀ β w cargs, GB ng β → HR c.floor β (view c h) w → VRs β args cargs → (∀ id, h.n ≤ id → id < h'.n → β id = none) → ∀ S, SemR β f cargs S → ∀ (r : Option Nat) (n : Nat) (o : Oper) (a : Act) (K : Act → World → Prop) (Q : Exit → Act → World → Prop),
  (∀ β' val w', Post c.floor h.n h'.n β (view c h) w β' (view c h') w' → VR β' v val → K (a.put o.dst val) w') → o.uponIn (W r) n P a K Q (S.run P w)
def CallDid (P : Program) (ng : Nat) (f : Cee) (args : List AV) (c : C) (h : H) (v : AV) (h' : H) : Prop :=
 match f with
 | .fnB f => FnDid P ng f args c h v h'
 | f => UpDid P ng f args c h v h'
theorem FnDid.up {f : Nat} {args : List AV} {v : AV} {h' : H} (d : FnDid P ng f args c h v h') : UpDid P ng (.fn f) args c h v h' := by
 obtain ⟨hst, ⟨fn, f1, f2, f3⟩, hd⟩ := d
 refine ⟨hst, fun β w cargs hgb hr hv hfr S hS r n o a K Q hK => ?_⟩
 have hS' : S = callFunc f cargs.toArray := hS
 subst hS'
 have f3' : ¬ fn.name = "runtime.NumGoroutine" := by simpa using f3
 have f2' : ¬ fn.body = none := fun q => by rw [q] at f2; cases f2
 have hrun : (callFunc f cargs.toArray).run P w = .ok (.enter f cargs.toArray) w := by simp [callFunc, f1, f2', f3']
 rw [hrun, Oper.uponIn_enter]
 exact ⟨fun q => (by cases q), callsIn_w.2 (hd β w cargs hgb hr hv hfr _ fun β' val w' hP hvr => hK β' val w' hP hvr)⟩
theorem mapM_cV {β : Bet} {a : Act} : ∀ (l : List Operand) (xs : List XV), l.mapM cV = some xs → (∀ y ∈ l, ∀ x, cV y = some x → VR β (evV sl x) (a.eval y)) → VRs β (xs.map (evV sl)) (l.map a.eval)
 | [], xs, hxs, _ => by simp at hxs; subst hxs; simp [VRs]
 | y :: l, xs, hxs, hm => by
  simp only [List.mapM_cons, Option.bind_eq_bind, Option.bind_eq_some_iff, Option.pure_def, Option.some.injEq] at hxs
  obtain ⟨x, h1, xs', h2, rfl⟩ := hxs
  simp only [List.map_cons, VRs]
  exact ⟨_, _, rfl, hm y (by simp) x h1, mapM_cV l xs' h2 fun z hz => hm z (by simp [hz])⟩
end
structure Ctx (c : C) (h : H) : Prop where
 low : c.floor ≤ h.n
 vis : ∀ id, h.n ≤ id → id < big → seen c.vis id = true
theorem Ctx.mono {c : C} {h h' : H} (hc : Ctx c h) (hle : h.n ≤ h'.n) : Ctx c h' := ⟨Nat.le_trans hc.low hle, fun id h1 h2 => hc.vis id (Nat.le_trans hle h1) h2⟩
theorem Post.trans2 {f n m n1 n2 : Nat} {β β1 β2 : Bet} {g g1 g2 : View} {w w1 w2 : World} (h : Post f n n1 β g w β1 g1 w1) (h' : Post f m n2 β1 g1 w1 β2 g2 w2) (hm : n ≤ m) (hn : n1 ≤ n2) :
  Post f n n2 β g w β2 g2 w2 := by
 have back : ∀ id b L, f ≤ id → g1 id = some b → β1 id = some L → w.heap.size ≤ L.blk ∨ ∃ i d M, f ≤ i ∧ g i = some d ∧ β i = some M ∧ M.blk = L.blk := by
  intro id b L hid h1 h2
  cases hb : β id with
  | some M =>
   have : M = L := by have := h.sub id M hb; rw [this] at h2; cases h2; rfl
   subst this
   rcases h.old id b h1 with ⟨d, hd⟩ | hn
   ·exact Or.inr ⟨id, d, M, hid, hd, hb, rfl⟩
   ·rw [hn] at hb; cases hb
  | none => exact h.news id L h2 hb
 have hle := h.le
 have hle' := h'.le
 refine ⟨by omega, h.sub.trans h'.sub, ?_, h'.hr, h'.os.trans h.os, h'.tape.trans h.tape, h'.output.trans h.output, Nat.le_trans h.size h'.size, ?_, ?_, ?_⟩
 ·intro id L h1 h2
  cases hb : β1 id with
  | some M => have := h.fresh id M hb h2; omega
  | none => have := h'.fresh id L h1 hb; omega
 ·intro B hB hf
  refine (h'.frame B (Nat.lt_of_lt_of_le hB h.size) fun id b L hid h1 h2 e => ?_).trans (h.frame B hB hf)
  rcases back id b L hid h1 h2 with hk | ⟨i, d, M, hi, hd, hM, e2⟩
  ·omega
  ·exact hf i d M hi hd hM (e2.trans e)
 ·intro id L h1 h2
  cases hb : β1 id with
  | some M =>
   have : M = L := by have := h'.sub id M hb; rw [this] at h1; cases h1; rfl
   subst this
   exact h.news id M hb h2
  | none =>
   rcases h'.news id L h1 hb with hk | ⟨i, b, M, hi, hg, hM, e⟩
   ·exact Or.inl (Nat.le_trans h.size hk)
   ·rcases back i b M hi hg hM with hk | ⟨j, d, M', hj, hd, hM', e2⟩
    ·exact Or.inl (by omega)
    ·exact Or.inr ⟨j, d, M', hj, hd, hM', e2.trans e⟩
 ·intro id b h1
  rcases h'.old id b h1 with ⟨d, hd⟩ | hn
  ·exact h.old id d hd
  ·cases hb : β id with
   | none => exact Or.inr rfl
   | some M => have := h.sub id M hb; rw [this] at hn; cases hn
theorem Post.wide {f f0 n n' m m' : Nat} {β β' : Bet} {g g' V V' : View} {w w' : World} (h : Post f n n' β g w β' g' w') (hV : HR f0 β V w) (hg : ∀ id b, g id = some b → V id = some b) (hf : f0 ≤ f) (hfn : f ≤ n) (hm : m ≤ n) (hm' : n' ≤ m')
  (hV' : ∀ id b, V' id = some b → g' id = some b ∨ (V id = some b ∧ g id = none)) : Post f0 m m' β V w β' V' w' := by
 have hle := h.le
 have keep : ∀ id b L, V id = some b → g id = none → β id = some L → L.blk < w.heap.size → w'.heap[L.blk]? = w.heap[L.blk]? := fun id b L e1 e2 e3 e4 =>
  h.frame L.blk e4 fun i d M hfi h1 h2 h3 => by
   rcases hV.inj i id d b M L (hg i d h1) e1 h2 e3 h3 with this | this
   ·subst this; rw [h1] at e2; cases e2
   ·omega
 have placed : ∀ id b L, V id = some b → β id = some L → L.blk < w.heap.size := fun id b L e1 e2 => by
  obtain ⟨L', h1, h2, _⟩ := hV.at_ id b e1
  rw [h1] at e2; cases e2; exact h2
 have cross : ∀ i b M j d N, g' i = some b → β' i = some M → V j = some d → g j = none → β' j = some N → M.blk = N.blk → i = j ∨ (i < f0 ∧ j < f0) := fun i b M j d N e1 e2 e3 e4 e5 e6 => by
  obtain ⟨N', k1, k2, _⟩ := hV.at_ j d e3
  have k3 := h.sub j N' k1
  rw [k3] at e5; cases e5
  cases hb : β i with
  | some M0 =>
   have k4 := h.sub i M0 hb
   rw [k4] at e2; cases e2
   rcases h.old i b e1 with ⟨d', hd'⟩ | hn
   ·exact hV.inj i j d' d _ _ (hg i d' hd') e3 hb k1 e6
   ·rw [hn] at hb; cases hb
  | none =>
   rcases h.news i M e2 hb with hk | ⟨i', b', M', hi', hg', hM', e⟩
   ·omega
   ·rcases hV.inj i' j b' d M' _ (hg i' b' hg') e3 hM' k1 (e.trans e6) with this | this
    ·subst this; rw [hg'] at e4; cases e4
    ·omega
 refine ⟨by omega, h.sub, fun id L h1 h2 => by have := h.fresh id L h1 h2; omega, ⟨fun id b e => ?_, fun i j b d L M h1 h2 h3 h4 h5 => ?_⟩, h.os, h.tape, h.output, h.size, fun B hB hh => h.frame B hB fun id b L h1 h2 h3 => hh id b L (Nat.le_trans hf h1) (hg id b h2) h3, fun id L h1 h2 => ?_, fun id b e => ?_⟩
 ·rcases hV' id b e with e | ⟨e1, e2⟩
  ·exact h.hr.at_ id b e
  ·obtain ⟨L, h1, h2, h3⟩ := hV.at_ id b e1
   have := h.size
   exact ⟨L, h.sub id L h1, by omega, h3.mono h.sub (keep id b L e1 e2 h1 h2)⟩
 ·rcases hV' i b h1 with e | ⟨e1, e2⟩ <;> rcases hV' j d h2 with e' | ⟨e1', e2'⟩
  ·rcases h.hr.inj i j b d L M e e' h3 h4 h5 with q | q
   ·exact Or.inl q
   ·have was : ∀ i b L, i < f → g' i = some b → β' i = some L → ∃ d, g i = some d ∧ β i = some L := fun i b L q1 q2 q3 => by
     cases hb : β i with
     | none => have := (h.fresh i L q3 hb).1; omega
     | some L0 =>
      have k4 := h.sub i L0 hb
      rw [k4] at q3; cases q3
      rcases h.old i b q2 with ⟨d', hd'⟩ | hn
      ·exact ⟨d', hd', rfl⟩
      ·rw [hn] at hb; cases hb
    obtain ⟨di, gi, bi⟩ := was i b L q.1 e h3
    obtain ⟨dj, gj, bj⟩ := was j d M q.2 e' h4
    exact hV.inj i j di dj L M (hg _ _ gi) (hg _ _ gj) bi bj h5
  ·exact cross i b L j d M e h3 e1' e2' h4 h5
  ·exact (cross j d M i b L e' h4 e1 e2 h3 h5.symm).elim (fun q => Or.inl q.symm) fun q => Or.inr ⟨q.2, q.1⟩
  ·obtain ⟨L', k1, _, _⟩ := hV.at_ i b e1
   obtain ⟨M', k2, _, _⟩ := hV.at_ j d e1'
   have k3 := h.sub i L' k1
   have k4 := h.sub j M' k2
   rw [k3] at h3; rw [k4] at h4; cases h3; cases h4
   exact hV.inj i j b d _ _ e1 e1' k1 k2 h5
 ·rcases h.news id L h1 h2 with hk | ⟨i, b, M, hi, hgi, hM, e⟩
  ·exact Or.inl hk
  ·exact Or.inr ⟨i, b, M, Nat.le_trans hf hi, hg i b hgi, hM, e⟩
 ·rcases hV' id b e with e | ⟨e1, e2⟩
  ·rcases h.old id b e with ⟨d, hd⟩ | hn
   ·exact Or.inl ⟨d, hg id d hd⟩
   ·exact Or.inr hn
  ·exact Or.inl ⟨b, e1⟩
/-! the slots -/
structure SlR (nt : Nat) (df : List Deferred) (β : Bet) (sl : Tr AV) (a : Act) : Prop where
 size : a.tmps.size = nt
 defers : a.defers = df
 at_ : ∀ t, VR β (slot sl t) (a.tmps.getD t undef)
theorem SlR.mono {nt : Nat} {df : List Deferred} {β β' : Bet} {sl : Tr AV} {a : Act} (h : SlR nt df β sl a) (hs : Sub β β') : SlR nt df β' sl a := ⟨h.size, h.defers, fun t => VR.mono hs _ _ (h.at_ t)⟩
theorem slot_set {sl : Tr AV} {d t : Nat} {v : AV} (hd : d < 10000000) : slot (Tr.set depth sl d v) t = if d = t then v else slot sl t := by
 unfold slot
 rw [get_set40 _ _ _ _ hd]
 by_cases e : d = t
 ·rw [if_pos e, if_pos e]
 ·rw [if_neg e, if_neg e]
theorem getD_put {a : Act} {d t : Nat} {v : Value} (hd : d < a.tmps.size) : (a.put (some d) v).tmps.getD t undef = if d = t then v else a.tmps.getD t undef := by
 simp only [Act.put, Array.getD_eq_getD_getElem?, Array.getElem?_setIfInBounds]
 by_cases e : d = t
 ·subst e; simp [hd]
 ·simp [e]
theorem put_size {a : Act} {d : Option Nat} {v : Value} : (a.put d v).tmps.size = a.tmps.size := by cases d <;> simp [Act.put]
theorem put_defers {a : Act} {d : Option Nat} {v : Value} : (a.put d v).defers = a.defers := by cases d <;> simp [Act.put]
theorem SlR.put {nt : Nat} {df : List Deferred} {β : Bet} {sl : Tr AV} {a : Act} {d : Nat} {v : AV} {u : Value} (h : SlR nt df β sl a) (hd : d < nt) (hnt : nt ≤ 1000000) (hv : VR β v u) : SlR nt df β (Tr.set depth sl d v) (a.put (some d) u) := by
 refine ⟨put_size.trans h.size, put_defers.trans h.defers, fun t => ?_⟩
 rw [slot_set (by omega), getD_put (by rw [h.size]; exact hd)]
 by_cases e : d = t
 ·rw [if_pos e, if_pos e]; exact hv
 ·rw [if_neg e, if_neg e]; exact h.at_ t
theorem SlR.eval {nt : Nat} {df : List Deferred} {β : Bet} {sl : Tr AV} {a : Act} {ng : Nat} (h : SlR nt df β sl a) (hc : ∀ v x, cAV v = some x → VR β x v) (hg : GB ng β) {y : Operand} {x : XV} (hx : cV y = some x) (hy : ∀ g, y = .global g → g < ng) : VR β (evV sl x) (a.eval y) := by
 cases y with
 | tmp t => simp [cV] at hx; subst hx; exact h.at_ t
 | const v =>
  simp only [cV, Option.map_eq_some_iff] at hx
  obtain ⟨z, h1, rfl⟩ := hx
  exact hc v z h1
 | global g =>
  simp [cV] at hx; subst hx
  obtain ⟨s, e⟩ := hg g (hy g rfl)
  simp only [evV, Act.eval, VR]
  exact ⟨_, e, rfl⟩
 | func f =>
  simp [cV] at hx; subst hx
  simp only [evV, Act.eval, VR, VRs]
  exact ⟨#[], rfl, rfl⟩
theorem cCell_VR {β : Bet} {v : Value} {x : AV} (h : cCell v = some x) : VR β x v := by
 unfold cCell at h
 split at h <;> first | (cases h; done) | skip
 all_goals first
  | (simp only [Option.some.injEq] at h; subst h; simp [VR]; done)
  | skip
 split at h
 ·rename_i f first caps hh
  simp only [Bool.and_eq_true, Array.isEmpty_iff] at hh
  obtain ⟨h1, h2⟩ := hh
  subst h1 h2
  cases h
  simp [VR, VRs]
 ·cases h
theorem cCells_VR {β : Bet} : ∀ (l : List Value) (xs : List AV), l.mapM cCell = some xs → VRs β xs l
 | [], xs, h => by simp at h; subst h; simp [VRs]
 | y :: l, xs, h => by
  simp only [List.mapM_cons, Option.bind_eq_bind, Option.bind_eq_some_iff, Option.pure_def, Option.some.injEq] at h
  obtain ⟨x, h1, xs', h2, rfl⟩ := h
  simp only [VRs]
  exact ⟨_, _, rfl, cCell_VR h1, cCells_VR l xs' h2⟩
theorem cAV_VR {β : Bet} {v : Value} {x : AV} (h : cAV v = some x) : VR β x v := by
 unfold cAV at h
 split at h
 ·simp only [Option.map_eq_some_iff] at h
  obtain ⟨xs, h1, rfl⟩ := h
  simp only [VR]
  exact ⟨_, rfl, cCells_VR _ _ h1⟩
 ·simp only [Option.map_eq_some_iff] at h
  obtain ⟨xs, h1, rfl⟩ := h
  simp only [VR]
  exact ⟨_, rfl, cCells_VR _ _ h1⟩
 ·exact cCell_VR h
structure TF (c : C) (m : Nat) (hs : Nat → H) (sls : Nat → Tr AV) (vs : Nat → AV) (cs : Nat → C) (pre : Nat → Nat → Prop) (looks writes : Nat → Nat → Prop) : Prop where
 le : ∀ j, j < m → (hs j).n ≤ (hs (j + 1)).n
 wf : ∀ j, j ≤ m → WF (hs j)
 touch : ∀ j, j < m → ∀ id, id < (hs j).n → Tr.get (hs (j + 1)).t id = Tr.get (hs j).t id ∨ seen (cs j).vis id = true
 back : ∀ j i, pre j i → i < j
 apart : ∀ i j, i < m → j < m → i ≠ j → ¬ pre j i → ¬ pre i j → ∀ id, id < (hs j).n → id < (hs i).n → Tr.get (hs (j + 1)).t id ≠ Tr.get (hs j).t id → seen (cs i).vis id = true → False
 slots : ∀ j i t, j < m → i < m → looks j t → writes i t → i ≠ j → (i < j → pre j i) ∧ (j < i → pre i j)
 own : ∀ j t, writes j t → looks j t
 wrote : ∀ j t, j < m → writes j t → slot (sls (j + 1)) t = vs j
 kept : ∀ j t, j < m → ¬ writes j t → slot (sls (j + 1)) t = slot (sls j) t
 low : ∀ j, j < m → c.floor ≤ (cs j).floor ∧ (cs j).floor ≤ (hs j).n
 sees : ∀ j, j < m → ∀ id, seen (cs j).vis id = true → (hs j).n ≤ id ∨ (seen c.vis id = true ∧ id < (hs 0).n) ∨ ∃ i, i < j ∧ pre j i ∧ (hs i).n ≤ id ∧ id < (hs (i + 1)).n
 newer : ∀ j, j < m → ∀ id, (hs j).n ≤ id → id < (hs (j + 1)).n → seen (cs j).vis id = true
section
variable {c : C} {m : Nat} {hs : Nat → H} {sls : Nat → Tr AV} {vs : Nat → AV} {cs : Nat → C} {pre : Nat → Nat → Prop} {looks writes : Nat → Nat → Prop}
theorem TF.mono (F : TF c m hs sls vs cs pre looks writes) : ∀ (d i : Nat), i + d ≤ m → (hs i).n ≤ (hs (i + d)).n
 | 0, i, _ => Nat.le_refl _
 | d + 1, i, h => Nat.le_trans (F.mono d i (by omega)) (F.le (i + d) (by omega))
theorem TF.mono' (F : TF c m hs sls vs cs pre looks writes) {i j : Nat} (h : i ≤ j) (hj : j ≤ m) : (hs i).n ≤ (hs j).n := by
 have := F.mono (j - i) i (by omega)
 rwa [show i + (j - i) = j by omega] at this
theorem TF.same (F : TF c m hs sls vs cs pre looks writes) {i id : Nat} (hid : id < (hs i).n) : ∀ (d : Nat), i + d ≤ m → (∀ k, i ≤ k → k < i + d → Tr.get (hs (k + 1)).t id ≠ Tr.get (hs k).t id → False) → Tr.get (hs (i + d)).t id = Tr.get (hs i).t id
 | 0, _, _ => rfl
 | d + 1, h, hb => by
  have e := F.same hid d (by omega) (fun k h1 h2 => hb k h1 (by omega))
  by_cases q : Tr.get (hs (i + d + 1)).t id = Tr.get (hs (i + d)).t id
  ·exact q.trans e
  ·exact (hb (i + d) (by omega) (by omega) q).elim
theorem TF.same' (F : TF c m hs sls vs cs pre looks writes) {i j id : Nat} (h : i ≤ j) (hj : j ≤ m) (hid : id < (hs i).n) (hb : ∀ k, i ≤ k → k < j → Tr.get (hs (k + 1)).t id ≠ Tr.get (hs k).t id → False) : Tr.get (hs j).t id = Tr.get (hs i).t id := by
 have := F.same (i := i) hid (j - i) (by omega) (fun k h1 h2 => hb k h1 (by omega))
 rwa [show i + (j - i) = j by omega] at this
theorem TF.owner (F : TF c m hs sls vs cs pre looks writes) {i id : Nat} : ∀ (d : Nat), i + d ≤ m → (hs i).n ≤ id → id < (hs (i + d)).n → ∃ k, i ≤ k ∧ k < i + d ∧ (hs k).n ≤ id ∧ id < (hs (k + 1)).n
 | 0, _, h1, h2 => absurd h2 (by simp; exact h1)
 | d + 1, h, h1, h2 => by
  rcases Nat.lt_or_ge id (hs (i + d)).n with x | x
  ·obtain ⟨k, a, b, e⟩ := F.owner d (by omega) h1 x
   exact ⟨k, a, by omega, e⟩
  ·exact ⟨i + d, by omega, by omega, x, h2⟩
theorem TF.disj (F : TF c m hs sls vs cs pre looks writes) {i j id : Nat} (hi : i < m) (hj : j < m) (h1 : (hs i).n ≤ id) (h2 : id < (hs (i + 1)).n) (h3 : (hs j).n ≤ id) (h4 : id < (hs (j + 1)).n) : i = j := by
 rcases Nat.lt_trichotomy i j with x | x | x
 ·have := F.mono' (i := i + 1) (j := j) (by omega) (by omega); omega
 ·exact x
 ·have := F.mono' (i := j + 1) (j := i) (by omega) (by omega); omega
theorem TF.keptTo (F : TF c m hs sls vs cs pre looks writes) {i t : Nat} : ∀ (d : Nat), i + d ≤ m → (∀ k, i ≤ k → k < i + d → ¬ writes k t) → slot (sls (i + d)) t = slot (sls i) t
 | 0, _, _ => rfl
 | d + 1, h, hk => (F.kept (i + d) t (by omega) (hk _ (by omega) (by omega))).trans (F.keptTo d (by omega) fun k h1 h2 => hk k h1 (by omega))
structure Inv (F : TF c m hs sls vs cs pre looks writes) (nt : Nat) (df : List Deferred) (N : Nat) (β0 : Bet) (w0 : World) (X : Nat → Prop) (β : Bet) (a : Act) (w : World) : Prop where
 inn : ∀ i, X i → i < m
 dc : ∀ i p, X i → pre i p → X p
 heap : ∃ V, Post c.floor (hs 0).n N β0 (view c (hs 0)) w0 β V w ∧ ∀ j, j ≤ m → ¬ X j → ∀ id b, (j < m → seen (cs j).vis id = true) → view c (hs j) id = some b →
  (∃ i, i < m ∧ ¬ X i ∧ (hs i).n ≤ id ∧ id < (hs (i + 1)).n) ∨ (∃ i, i < j ∧ i < m ∧ ¬ X i ∧ id < (hs i).n ∧ Tr.get (hs (i + 1)).t id ≠ Tr.get (hs i).t id) ∨ V id = some b
 dom : ∀ id L, β id = some L → β0 id = none → ∃ i, X i ∧ (hs i).n ≤ id ∧ id < (hs (i + 1)).n
 sl : ∀ j, j ≤ m → ¬ X j → ∀ t, (j < m → looks j t) → (∃ i, i < j ∧ i < m ∧ ¬ X i ∧ writes i t) ∨ VR β (slot (sls j) t) (a.tmps.getD t undef)
 size : a.tmps.size = nt
 defers : a.defers = df
variable {F : TF c m hs sls vs cs pre looks writes} {nt : Nat} {df : List Deferred} {N : Nat} {β0 : Bet} {w0 : World} {X : Nat → Prop} {β : Bet} {a : Act} {w : World}
theorem getB_view {c : C} {h : H} {id : Nat} {b : AB} (e : view c h id = some b) : Tr.get h.t id = some b ∧ seen c.vis id = true := getB_get (view_get e)
theorem view_same {c d : C} {h k : H} {id : Nat} (e : Tr.get h.t id = Tr.get k.t id) (h1 : seen c.vis id = true) (h2 : seen d.vis id = true) : view c h id = view d k id := by
 unfold view getB; rw [h1, h2, e]
theorem view_none {c : C} {h : H} {id : Nat} (h1 : seen c.vis id = false) : view c h id = none := by
 unfold view getB; rw [h1]; rfl
theorem Inv.runs (I : Inv F nt df N β0 w0 X β a w) (hc : Ctx c (hs 0)) {j : Nat} (hj : j < m) (hX : ¬ X j) (hp : ∀ p, pre j p → X p) (hfr : ∀ id, (hs 0).n ≤ id → id < (hs m).n → β0 id = none) :
  HR (cs j).floor β (view (cs j) (hs j)) w ∧ (∀ t, looks j t → VR β (slot (sls j) t) (a.tmps.getD t undef)) ∧ (∀ id, (hs j).n ≤ id → id < (hs (j + 1)).n → β id = none) ∧
  ∃ V, Post c.floor (hs 0).n N β0 (view c (hs 0)) w0 β V w ∧ (∀ id b, view (cs j) (hs j) id = some b → V id = some b) ∧ ∀ j, j ≤ m → ¬ X j → ∀ id b, (j < m → seen (cs j).vis id = true) → view c (hs j) id = some b →
  (∃ i, i < m ∧ ¬ X i ∧ (hs i).n ≤ id ∧ id < (hs (i + 1)).n) ∨ (∃ i, i < j ∧ i < m ∧ ¬ X i ∧ id < (hs i).n ∧ Tr.get (hs (i + 1)).t id ≠ Tr.get (hs i).t id) ∨ V id = some b := by
 obtain ⟨V, hP, hV⟩ := I.heap
 have hsub : ∀ id b, view (cs j) (hs j) id = some b → V id = some b := fun id b e => by
  obtain ⟨e1, e2⟩ := getB_view e
  have hlt := lt_of_get (F.wf j (by omega)) e1
  have hsm := (F.wf j (by omega)).small
  have h0 : (hs 0).n ≤ (hs j).n := F.mono' (by omega) (by omega)
  have hseen : seen c.vis id = true ∧ (∀ i, i < m → ¬ X i → (hs i).n ≤ id → id < (hs (i + 1)).n → False) := by
   rcases F.sees j hj id e2 with q | ⟨q1, q2⟩ | ⟨i, q1, q2, q3, q4⟩
   ·omega
   ·refine ⟨q1, fun i hi _ h1 _ => ?_⟩
    have := F.mono' (i := 0) (j := i) (by omega) (by omega); omega
   ·refine ⟨hc.vis id ?_ (by unfold big; omega), fun k hk hkX h1 h2 => ?_⟩
    ·have := F.mono' (i := 0) (j := i) (by omega) (by omega); omega
    ·have := F.disj (by omega) hk q3 q4 h1 h2
     subst this; exact hkX (hp _ q2)
  have e3 : view c (hs j) id = some b := (view_same rfl hseen.1 e2).trans e
  rcases hV j (by omega) hX id b (fun _ => e2) e3 with ⟨i, h1, h2, h3, h4⟩ | ⟨i, h1, h2, h3, h4, h5⟩ | h
  ·exact (hseen.2 i h1 h2 h3 h4).elim
  ·exact (F.apart j i hj h2 (by omega) (fun q => by have := F.back _ _ q; omega) (fun q => h3 (hp i q)) id h4 hlt h5 e2).elim
  ·exact h
 refine ⟨(hP.hr.sub hsub).up (F.low j hj).1, fun t ht => ?_, fun id h1 h2 => ?_, V, hP, hsub, hV⟩
 ·rcases I.sl j (by omega) hX t (fun _ => ht) with ⟨i, h1, h2, h3, h4⟩ | h
  ·exact absurd (hp i ((F.slots j i t hj h2 ht h4 (by omega)).1 h1)) h3
  ·exact h
 ·cases hb : β id with
  | none => rfl
  | some L =>
   have q1 := F.mono' (i := 0) (j := j) (by omega) (by omega)
   have q2 := F.mono' (i := j + 1) (j := m) (by omega) (by omega)
   obtain ⟨i, h3, h4, h5⟩ := I.dom id L hb (hfr id (by omega) (by omega))
   have := F.disj (I.inn i h3) hj h4 h5 h1 h2
   subst this; exact absurd h3 hX
theorem Inv.step (I : Inv F nt df N β0 w0 X β a w) (hc : Ctx c (hs 0)) {j : Nat} (hj : j < m) (hX : ¬ X j) (hp : ∀ p, pre j p → X p) (hfr : ∀ id, (hs 0).n ≤ id → id < (hs m).n → β0 id = none) (hN : (hs m).n ≤ N)
  {β' : Bet} {w' : World} {a' : Act} (hPo : Post (cs j).floor (hs j).n (hs (j + 1)).n β (view (cs j) (hs j)) w β' (view (cs j) (hs (j + 1))) w')
  (ha1 : a'.tmps.size = nt) (ha2 : a'.defers = df) (ha3 : ∀ t, writes j t → VR β' (vs j) (a'.tmps.getD t undef)) (ha4 : ∀ t, ¬ writes j t → a'.tmps.getD t undef = a.tmps.getD t undef) :
  Inv F nt df N β0 w0 (fun i => X i ∨ i = j) β' a' w' := by
 obtain ⟨_, _, _, V, hP, hsub, hV⟩ := I.runs hc hj hX hp hfr
 have q0 := F.mono' (i := 0) (j := j) (by omega) (by omega)
 have q1 := F.mono' (i := j + 1) (j := m) (by omega) (by omega)
 have q2 := F.le j hj
 have wfj := F.wf j (by omega)
 have wfj1 := F.wf (j + 1) (by omega)
 let V' : View := fun id => if seen (cs j).vis id = true ∧ id < (hs (j + 1)).n then view (cs j) (hs (j + 1)) id else V id
 have hV' : ∀ id b, V' id = some b → view (cs j) (hs (j + 1)) id = some b ∨ (V id = some b ∧ view (cs j) (hs j) id = none) := fun id b e => by
  simp only [V'] at e
  split at e
  ·exact Or.inl e
  ·rename_i hn
   refine Or.inr ⟨e, ?_⟩
   cases hs1 : seen (cs j).vis id with
   | false => exact view_none hs1
   | true =>
    have : ¬ id < (hs (j + 1)).n := fun x => hn ⟨hs1, x⟩
    cases hg : view (cs j) (hs j) id with
    | none => rfl
    | some b' =>
     have := lt_of_get wfj (getB_view hg).1
     omega
 have hw := hPo.wide (f0 := c.floor) (m := (hs 0).n) (m' := N) (V := V) (V' := V') hP.hr hsub (F.low j hj).1 (F.low j hj).2 q0 (by omega) hV'
 refine ⟨fun i h => by rcases h with h | h; exact I.inn i h; omega, fun i p h hpr => ?_, ⟨V', hP.trans2 hw (Nat.le_refl _) (Nat.le_refl _), fun j' hj' hX' id b hsee e => ?_⟩, fun id L h1 h2 => ?_, fun j' hj' hX' t ht => ?_, ha1, ha2⟩
 ·rcases h with h | h
  ·exact Or.inl (I.dc i p h hpr)
  ·subst h; exact Or.inl (hp p hpr)
 ·have hX1 : ¬ X j' := fun x => hX' (Or.inl x)
  have hne : j' ≠ j := fun x => hX' (Or.inr x)
  by_cases c1 : ∃ i, i < m ∧ ¬ (X i ∨ i = j) ∧ (hs i).n ≤ id ∧ id < (hs (i + 1)).n
  ·exact Or.inl c1
  by_cases c2 : ∃ i, i < j' ∧ i < m ∧ ¬ (X i ∨ i = j) ∧ id < (hs i).n ∧ Tr.get (hs (i + 1)).t id ≠ Tr.get (hs i).t id
  ·exact Or.inr (Or.inl c2)
  refine Or.inr (Or.inr ?_)
  have hbars : ∀ i, i < j' → i < m → id < (hs i).n → Tr.get (hs (i + 1)).t id ≠ Tr.get (hs i).t id → X i ∨ i = j := fun i h1 h2 h3 h5 => Classical.byContradiction fun h4 => c2 ⟨i, h1, h2, h4, h3, h5⟩
  have hrng : ∀ i, i < m → (hs i).n ≤ id → id < (hs (i + 1)).n → X i ∨ i = j := fun i h1 h2 h3 => Classical.byContradiction fun h4 => c1 ⟨i, h1, h4, h2, h3⟩
  obtain ⟨e1, e2⟩ := getB_view e
  have wfj' := F.wf j' hj'
  have hlt := lt_of_get wfj' e1
  have three := hV j' hj' hX1 id b hsee e
  by_cases hcase : seen (cs j).vis id = true ∧ id < (hs (j + 1)).n
  ·have hVV : V' id = view (cs j) (hs (j + 1)) id := by simp only [V']; rw [if_pos hcase]
   rw [hVV]
   have key : Tr.get (hs (j + 1)).t id = Tr.get (hs j').t id := by
    rcases Nat.lt_or_ge j' j with x | x
    ·have hsj' := hsee (by omega)
     have hl' := F.mono' (i := j') (j := j) (by omega) (by omega)
     refine F.same' (by omega) (by omega) hlt fun k h1 h2 hd => ?_
     have hidk : id < (hs k).n := Nat.lt_of_lt_of_le hlt (F.mono' (by omega) (by omega))
     by_cases hk2 : k = j'
     ·subst hk2
      exact F.apart j k hj (by omega) (by omega) (fun q => by have := F.back _ _ q; omega) (fun q => hX1 (hp k q)) id hidk (by omega) hd hcase.1
     ·by_cases hk : k = j
      ·subst hk
       exact F.apart j' k (by omega) hj (by omega) (fun q => hX1 (hp j' q)) (fun q => by have := F.back _ _ q; omega) id hidk hlt hd hsj'
      ·by_cases hXk : X k
       ·exact F.apart j' k (by omega) (by omega) (by omega) (fun q => hX1 (I.dc k j' hXk q)) (fun q => by have := F.back _ _ q; omega) id hidk hlt hd hsj'
       ·exact F.apart j k hj (by omega) (by omega) (fun q => by have := F.back _ _ q; omega) (fun q => hXk (hp k q)) id hidk (by omega) hd hcase.1
    ·refine (F.same' (i := j + 1) (j := j') (by omega) hj' hcase.2 fun k h1 h2 hd => ?_).symm
     have hidk : id < (hs k).n := Nat.lt_of_lt_of_le hcase.2 (F.mono' (by omega) (by omega))
     have hXk : X k := by
      rcases hbars k h2 (by omega) hidk hd with q | q
      ·exact q
      ·omega
     have hnp : ¬ pre k j := fun q => hX (I.dc k j hXk q)
     rcases Nat.lt_or_ge id (hs j).n with q | q
     ·exact F.apart j k hj (by omega) (by omega) hnp (fun q' => by have := F.back _ _ q'; omega) id hidk q hd hcase.1
     ·rcases F.touch k (by omega) id hidk with p | p
      ·exact hd p
      ·rcases F.sees k (by omega) id p with p | p | ⟨i, p1, p2, p3, p4⟩
       ·omega
       ·have := F.mono' (i := 0) (j := j) (by omega) (by omega); omega
       ·have := F.disj (by omega) hj p3 p4 q hcase.2
        subst this
        exact hnp p2
   exact (view_same key hcase.1 e2).trans e
  ·have hVV : V' id = V id := by simp only [V']; rw [if_neg hcase]
   rw [hVV]
   rcases three with ⟨i, h1, h2, h3, h4⟩ | ⟨i, h1, h2, h3, h4, h5⟩ | h
   ·rcases hrng i h1 h3 h4 with y | y
    ·exact absurd y h2
    ·subst y; exact absurd ⟨F.newer i hj id h3 h4, h4⟩ hcase
   ·rcases hbars i h1 h2 h4 h5 with y | y
    ·exact absurd y h3
    ·subst y
     rcases F.touch i hj id h4 with p | p
     ·exact absurd p h5
     ·exact absurd ⟨p, by omega⟩ hcase
   ·exact h
 ·cases hb : β id with
  | some M =>
   obtain ⟨i, h3, h4⟩ := I.dom id M hb h2
   exact ⟨i, Or.inl h3, h4⟩
  | none => exact ⟨j, Or.inr rfl, hPo.fresh id L h1 hb⟩
 ·have hX1 : ¬ X j' := fun x => hX' (Or.inl x)
  have hne : j' ≠ j := fun x => hX' (Or.inr x)
  by_cases c1 : ∃ i, i < j' ∧ i < m ∧ ¬ (X i ∨ i = j) ∧ writes i t
  ·exact Or.inl c1
  refine Or.inr ?_
  have hall : ∀ i, i < j' → i < m → writes i t → X i ∨ i = j := fun i h1 h2 h3 => Classical.byContradiction fun h4 => c1 ⟨i, h1, h2, h4, h3⟩
  have bj : ∀ hwt : writes j t, j < j' := fun hwt => by
   rcases Nat.lt_or_ge j j' with y | y
   ·exact y
   ·exact absurd (hp j' ((F.slots j j' t hj (by omega) (F.own j t hwt) (by
     have := ht (by omega)
     exact Classical.byContradiction fun hnw => absurd (hp j' ((F.slots j' j t (by omega) hj this hwt (by omega)).2 (by omega))) hX1) hne).1 (by omega))) hX1
  by_cases hwt : writes j t
  ·have hlt := bj hwt
   have e : slot (sls j') t = vs j := by
    have := F.keptTo (i := j + 1) (t := t) (j' - (j + 1)) (by omega) (fun k h1 h2 hwk => by
     rcases hall k (by omega) (by omega) hwk with y | y
     ·exact absurd (I.dc k j y ((F.slots k j t (by omega) hj (F.own k t hwk) hwt (by omega)).1 (by omega))) hX
     ·omega)
    rw [show j + 1 + (j' - (j + 1)) = j' by omega] at this
    exact this.trans (F.wrote j t hj hwt)
   rw [e]; exact ha3 t hwt
  ·rw [ha4 t hwt]
   rcases I.sl j' hj' hX1 t ht with ⟨i, h1, h2, h3, h4⟩ | h
   ·rcases hall i h1 h2 h4 with y | y
    ·exact absurd y h3
    ·subst y; exact absurd h4 hwt
   ·exact VR.mono hPo.sub _ _ h
end
structure TE where
 sl : Tr AV
 h : H
 v : AV
 c : C
 bar : Bool
 foot : Option Nat
def PutR (nt : Nat) (sl : Tr AV) (d : Option Nat) (v : AV) (sl' : Tr AV) : Prop :=
 match d with
 | none => sl' = sl
 | some d => d < nt ∧ sl' = Tr.set depth sl d v
theorem putK_some {R : Type} {r : R} {nt : Nat} {sl : Tr AV} {d : Option Nat} {v : AV} {k : Tr AV → Option R} (e : putK nt sl d v k = some r) : ∃ sl', PutR nt sl d v sl' ∧ k sl' = some r := by
 unfold putK at e
 cases d with
 | none => exact ⟨sl, rfl, e⟩
 | some d =>
  simp only at e
  cases hb : Nat.blt d nt with
  | false => rw [hb] at e; cases e
  | true =>
   rw [hb] at e
   simp only [cond, Tr.setK_eq] at e
   exact ⟨_, ⟨by simpa [Nat.blt_eq] using hb, rfl⟩, e⟩
theorem visOf_seen {preds : Nat} {base : List (Nat × Nat)} {id : Nat} : ∀ {rs : List (Nat × Nat × Nat)}, seen (visOf preds base rs) id = true → seen base id = true ∨ ∃ r ∈ rs, preds.testBit r.1 = true ∧ r.2.1 ≤ id ∧ id < r.2.2
 | [], h => Or.inl h
 | r :: rs, h => by
  unfold visOf at h
  cases hb : preds.testBit r.1 with
  | true =>
   rw [hb] at h
   simp only [cond, seen] at h
   cases hc : Nat.ble r.2.1 id with
   | true =>
    rw [hc] at h
    simp only [cond] at h
    exact Or.inr ⟨r, by simp, hb, Nat.le_of_ble_eq_true hc, by simpa [Nat.blt_eq] using h⟩
   | false =>
    rw [hc] at h
    rcases visOf_seen (rs := rs) h with x | ⟨q, h1, h2⟩
    ·exact Or.inl x
    ·exact Or.inr ⟨q, by simp [h1], h2⟩
  | false =>
   rw [hb] at h
   rcases visOf_seen (rs := rs) h with x | ⟨q, h1, h2⟩
   ·exact Or.inl x
   ·exact Or.inr ⟨q, by simp [h1], h2⟩
theorem cutBase_seen {n id : Nat} : ∀ {l : List (Nat × Nat)}, seen (cutBase n l) id = true → seen l id = true ∧ id < n
 | [], h => by simp [cutBase, seen] at h
 | r :: rs, h => by
  unfold cutBase at h
  cases hb : Nat.ble n r.1 with
  | true =>
   rw [hb] at h
   obtain ⟨h1, h2⟩ := cutBase_seen (l := rs) h
   have h3 := Nat.le_of_ble_eq_true hb
   refine ⟨?_, h2⟩
   unfold seen
   have : Nat.ble r.1 id = false := by
    cases hx : Nat.ble r.1 id with
    | false => rfl
    | true => have := Nat.le_of_ble_eq_true hx; omega
   rw [this]; exact h1
  | false =>
   rw [hb] at h
   simp only [cond] at h
   cases hc : Nat.ble r.2 n with
   | true =>
    rw [hc] at h
    simp only [seen] at h ⊢
    cases hd : Nat.ble r.1 id with
    | true =>
     rw [hd] at h
     simp only [cond] at h ⊢
     have h4 := Nat.le_of_ble_eq_true hc
     have h5 : id < r.2 := by simpa [Nat.blt_eq] using h
     exact ⟨h, by omega⟩
    | false =>
     rw [hd] at h
     exact cutBase_seen (l := rs) h
   | false =>
    rw [hc] at h
    simp only [seen] at h ⊢
    cases hd : Nat.ble r.1 id with
    | true =>
     rw [hd] at h
     simp only [cond] at h ⊢
     have h5 : id < n := by simpa [Nat.blt_eq] using h
     have h6 : ¬ r.2 ≤ n := fun x => by
      have := Nat.ble_eq_true_of_le x
      rw [hc] at this; cases this
     exact ⟨by simp [Nat.blt_eq]; omega, h5⟩
    | false =>
     rw [hd] at h
     exact cutBase_seen (l := rs) h
theorem addR_mem {i n n' : Nat} {rs : List (Nat × Nat × Nat)} : ∀ q ∈ addR i n n' rs, q ∈ rs ∨ q = (i, n, n') := fun q hq => by
 unfold addR at hq
 cases hb : Nat.beq n n' with
 | true => rw [hb] at hq; exact Or.inl hq
 | false =>
  rw [hb] at hq
  rcases List.mem_cons.1 hq with y | y
  ·exact Or.inr y
  ·exact Or.inl y
structure Link (c : C) (nt : Nat) (base : List (Nat × Nat)) (rs : List (Nat × Nat × Nat)) (bs : List (Nat × Tr AB × Tr AB)) (fs : List (Nat × Nat)) (D : Nat → C → Tr AV → H → AV → H → Prop) (i : Nat) (T : Nat → TE) (j : Nat) (x : XR) : Prop where
 put : PutR nt (T j).sl x.dst (T j).v (T (j + 1)).sl
 step : Step (T j).c (T j).h (T (j + 1)).h
 on : wants (T j).sl x.guard = true → D (i + j) (T j).c (T j).sl (T j).h (T j).v (T (j + 1)).h
 off : wants (T j).sl x.guard = false → (T (j + 1)).h = (T j).h ∧ (T j).v = .tup [] ∧ okW (T j).sl x.guard = true
 low : c.floor ≤ (T j).c.floor ∧ (T j).c.floor ≤ (T j).h.n
 quiet : (T j).bar = false → (T j).c.floor = (T j).h.n
 isbar : (T j).bar = true → x.bar = true ∧ x.mem = true
 old : ∀ id, id < (T j).h.n → seen (T j).c.vis id = true → (T j).foot = some id ∨ x.mem = true
 footB : ∀ A, (T j).foot = some A → (∀ b ∈ bs, x.preds.testBit b.1 = false → Tr.get b.2.2 A = Tr.get b.2.1 A) ∧ ∀ k, k < j → (T k).bar = true → x.preds.testBit (i + k) = false → Tr.get (T (k + 1)).h.t A = Tr.get (T k).h.t A
 barF : (T j).bar = true → (∀ f ∈ fs, x.preds.testBit f.1 = false → Tr.get (T (j + 1)).h.t f.2 = Tr.get (T j).h.t f.2) ∧ ∀ k A, k < j → (T k).foot = some A → x.preds.testBit (i + k) = false → Tr.get (T (j + 1)).h.t A = Tr.get (T j).h.t A
 sees : ∀ id, seen (T j).c.vis id = true → (T j).h.n ≤ id ∨ seen base id = true ∨ (∃ r ∈ rs, x.preds.testBit r.1 = true ∧ r.2.1 ≤ id ∧ id < r.2.2) ∨ ∃ k, k < j ∧ x.preds.testBit (i + k) = true ∧ (T k).h.n ≤ id ∧ id < (T (k + 1)).h.n
 newer : ∀ id, (T j).h.n ≤ id → id < (T (j + 1)).h.n → seen (T j).c.vis id = true
def consT (e : TE) (T : Nat → TE) : Nat → TE
 | 0 => e
 | k + 1 => T k
theorem Link.cons {c : C} {nt : Nat} {base : List (Nat × Nat)} {rs rs' : List (Nat × Nat × Nat)} {bs bs' : List (Nat × Tr AB × Tr AB)} {fs fs' : List (Nat × Nat)} {D : Nat → C → Tr AV → H → AV → H → Prop} {i : Nat} {T : Nat → TE} {j : Nat} {x : XR} {e : TE}
  (h : Link c nt base rs' bs' fs' D (i + 1) T j x) (hrs : ∀ r ∈ rs', r ∈ rs ∨ r = (i, e.h.n, (T 0).h.n)) (hbs : ∀ b ∈ bs, b ∈ bs') (hb : e.bar = true → (i, e.h.t, (T 0).h.t) ∈ bs') (hfs : ∀ f ∈ fs, f ∈ fs') (hf : ∀ A, e.foot = some A → (i, A) ∈ fs') :
  Link c nt base rs bs fs D i (consT e T) (j + 1) x := by
 refine ⟨h.put, h.step, fun hw => ?_, h.off, h.low, h.quiet, h.isbar, h.old, fun A hA => ⟨fun b hb1 hb2 => (h.footB A hA).1 b (hbs b hb1) hb2, fun k hk hkb hkp => ?_⟩, fun hbar => ⟨fun f hf1 hf2 => (h.barF hbar).1 f (hfs f hf1) hf2, fun k A hk hkf hkp => ?_⟩, fun id hs => ?_, h.newer⟩
 ·have := h.on hw
  rw [show i + 1 + j = i + (j + 1) by omega] at this
  exact this
 ·cases k with
  | zero => exact (h.footB A hA).1 _ (hb hkb) hkp
  | succ k => exact (h.footB A hA).2 k (by omega) hkb (by rw [show i + 1 + k = i + (k + 1) by omega]; exact hkp)
 ·cases k with
  | zero => exact (h.barF hbar).1 _ (hf A hkf) hkp
  | succ k => exact (h.barF hbar).2 k A (by omega) hkf (by rw [show i + 1 + k = i + (k + 1) by omega]; exact hkp)
 ·rcases h.sees id hs with q | q | ⟨r, h1, h2, h3⟩ | ⟨k, h1, h2, h3⟩
  ·exact Or.inl q
  ·exact Or.inr (Or.inl q)
  ·rcases hrs r h1 with y | y
   ·exact Or.inr (Or.inr (Or.inl ⟨r, y, h2, h3⟩))
   ·subst y
    exact Or.inr (Or.inr (Or.inr ⟨0, by omega, h2, h3⟩))
  ·exact Or.inr (Or.inr (Or.inr ⟨k + 1, by omega, by rw [show i + (k + 1) = i + 1 + k by omega]; exact h2, h3⟩))
theorem seen_new {n id : Nat} {l : List (Nat × Nat)} (h : seen ((n, big) :: l) id = true) : n ≤ id ∨ seen l id = true := by
 simp only [seen] at h
 cases hb : Nat.ble n id with
 | true => exact Or.inl (Nat.le_of_ble_eq_true hb)
 | false => rw [hb] at h; exact Or.inr h
theorem seen_big {n id : Nat} {l : List (Nat × Nat)} (h1 : n ≤ id) (h2 : id < big) : seen ((n, big) :: l) id = true := by
 simp only [seen, Nat.ble_eq_true_of_le h1, cond]
 simpa [Nat.blt_eq] using h2
theorem seen_one {a id : Nat} (h : seen [(a, Nat.succ a)] id = true) : id = a := by
 simp only [seen] at h
 cases hb : Nat.ble a id with
 | true =>
  rw [hb] at h
  have h1 := Nat.le_of_ble_eq_true hb
  have h2 : id < Nat.succ a := by simpa [Nat.blt_eq] using h
  omega
 | false => rw [hb] at h; cases h
theorem Link.first {c : C} {nt : Nat} {base : List (Nat × Nat)} {rs : List (Nat × Nat × Nat)} {bs : List (Nat × Tr AB × Tr AB)} {fs : List (Nat × Nat)} {D : Nat → C → Tr AV → H → AV → H → Prop} {i : Nat} {T : Nat → TE} {x : XR} {sl : Tr AV} {h h' : H} {v : AV} {c' : C} {bar : Bool} {foot : Option Nat}
  (hD : D i c' sl h v h') (hst : Step c' h h') (hwn : wants sl x.guard = true) (h2 : (T 0).h = h') (hp : PutR nt sl x.dst v (T 0).sl) (hlow : c.floor ≤ c'.floor ∧ c'.floor ≤ h.n) (hq : bar = false → c'.floor = h.n) (hib : bar = true → x.bar = true ∧ x.mem = true)
  (hold : ∀ id, id < h.n → seen c'.vis id = true → foot = some id ∨ x.mem = true) (hfB : ∀ A, foot = some A → ∀ b ∈ bs, x.preds.testBit b.1 = false → Tr.get b.2.2 A = Tr.get b.2.1 A) (hbF : bar = true → ∀ f ∈ fs, x.preds.testBit f.1 = false → Tr.get h'.t f.2 = Tr.get h.t f.2)
  (hs : ∀ id, seen c'.vis id = true → h.n ≤ id ∨ seen base id = true ∨ (∃ r ∈ rs, x.preds.testBit r.1 = true ∧ r.2.1 ≤ id ∧ id < r.2.2)) (hnew : ∀ id, h.n ≤ id → id < big → seen c'.vis id = true) :
  Link c nt base rs bs fs D i (consT ⟨sl, h, v, c', bar, foot⟩ T) 0 x := by
 subst h2
 refine ⟨hp, hst, fun _ => hD, fun q => ?_, hlow, hq, hib, hold, fun A hA => ⟨hfB A hA, fun k hk => absurd hk (Nat.not_lt_zero _)⟩, fun hb => ⟨hbF hb, fun k A hk => absurd hk (Nat.not_lt_zero _)⟩, fun id q => ?_, fun id q1 q2 => hnew id q1 ?_⟩
 ·have q' : wants sl x.guard = false := q
  rw [hwn] at q'; cases q'
 ·rcases hs id q with y | y | y
  ·exact Or.inl y
  ·exact Or.inr (Or.inl y)
  ·exact Or.inr (Or.inr (Or.inl y))
 ·have := hst.wf.small
  have q2' : id < (T 0).h.n := q2
  unfold big; omega
theorem evDreg_trace {c : C} {call : Caller} {nt : Nat} {base : List (Nat × Nat)} {D : Nat → C → Tr AV → H → AV → H → Prop} (hD : ∀ j c sl h v h', D j c sl h v h' → Step c h h') :
  ∀ (xs : List XR) (i : Nat) (rs : List (Nat × Nat × Nat)) (bs : List (Nat × Tr AB × Tr AB)) (fs : List (Nat × Nat)) (sl : Tr AV) (h : H) (r : Tr AV × H), WF h → c.floor ≤ h.n →
   (∀ j x, xs[j]? = some x → ∀ c' sl h k r, (x.mem = true → x.foot = none → Ctx c' h) → WF h → x.op c' call sl h k = some r → ∃ v h', k v h' = some r ∧ D (i + j) c' sl h v h') →
   evDreg c call nt base xs i rs bs fs sl h = some r →
   ∃ T : Nat → TE, (T 0).sl = sl ∧ (T 0).h = h ∧ (T xs.length).sl = r.1 ∧ (T xs.length).h = r.2 ∧ ∀ j x, xs[j]? = some x → Link c nt base rs bs fs D i T j x
 | [], i, rs, bs, fs, sl, h, r, hw, hl, hop, e => by
  simp only [evDreg, Option.some.injEq] at e
  subst e
  exact ⟨fun _ => ⟨sl, h, .tup [], c, false, none⟩, rfl, rfl, rfl, rfl, fun j x hx => by simp at hx⟩
 | x :: xs, i, rs, bs, fs, sl, h, r, hw, hl, hop, e => by
  have hop' : ∀ j y, xs[j]? = some y → ∀ c' sl h k r, (y.mem = true → y.foot = none → Ctx c' h) → WF h → y.op c' call sl h k = some r → ∃ v h', k v h' = some r ∧ D (i + 1 + j) c' sl h v h' := fun j y hy => by
   have := hop (j + 1) y (by simpa using hy)
   rw [show i + (j + 1) = i + 1 + j by omega] at this
   exact this
  have hop0 : ∀ c' sl h k r, (x.mem = true → x.foot = none → Ctx c' h) → WF h → x.op c' call sl h k = some r → ∃ v h', k v h' = some r ∧ D i c' sl h v h' := hop 0 x (by simp)
  -- how a trace of the rest is lengthened
  have glue : ∀ (v : AV) (h' : H) (c' : C) (bar : Bool) (foot : Option Nat) (sl1 : Tr AV) (rs' : List (Nat × Nat × Nat)) (bs' : List (Nat × Tr AB × Tr AB)) (fs' : List (Nat × Nat)), Step c' h h' →
    (∀ T : Nat → TE, (T 0).sl = sl1 → (T 0).h = h' → Link c nt base rs bs fs D i (consT ⟨sl, h, v, c', bar, foot⟩ T) 0 x) →
    evDreg c call nt base xs (i + 1) rs' bs' fs' sl1 h' = some r → (∀ q ∈ rs', q ∈ rs ∨ q = (i, h.n, h'.n)) → (∀ b ∈ bs, b ∈ bs') → (bar = true → (i, h.t, h'.t) ∈ bs') → (∀ f ∈ fs, f ∈ fs') → (∀ A, foot = some A → (i, A) ∈ fs') →
    ∃ T : Nat → TE, (T 0).sl = sl ∧ (T 0).h = h ∧ (T (x :: xs).length).sl = r.1 ∧ (T (x :: xs).length).h = r.2 ∧ ∀ j y, (x :: xs)[j]? = some y → Link c nt base rs bs fs D i T j y := fun v h' c' bar foot sl1 rs' bs' fs' hst hfirst e hrs hbs hb hfs hf => by
   obtain ⟨T, h1, h2, h3, h4, h5⟩ := evDreg_trace hD xs (i + 1) rs' bs' fs' sl1 h' r hst.wf (Nat.le_trans hl hst.le) hop' e
   refine ⟨consT ⟨sl, h, v, c', bar, foot⟩ T, rfl, rfl, h3, h4, fun j y hy => ?_⟩
   cases j with
   | zero => simp at hy; subst hy; exact hfirst T h1 h2
   | succ j => exact (h5 j y (by simpa using hy)).cons (by rw [h2]; exact hrs) hbs (by rw [h2]; exact hb) hfs hf
  unfold evDreg at e
  cases hwn : wants sl x.guard with
  | false =>
   rw [hwn] at e
   simp only [cond] at e
   cases hok : okW sl x.guard with
   | false => rw [hok] at e; cases e
   | true =>
   rw [hok] at e
   simp only at e
   obtain ⟨sl1, hp, e⟩ := putK_some e
   refine glue (.tup []) h ⟨h.n, []⟩ false none sl1 rs bs fs (Step.refl hw) (fun T t1 t2 => ?_) e (fun q hq => Or.inl hq) (fun _ hb => hb) (fun q => by cases q) (fun _ hf => hf) (fun A q => by cases q)
   refine ⟨by simp only [consT]; rw [t1]; exact hp, by simp only [consT]; rw [t2]; exact Step.refl hw, fun q => ?_, fun _ => ⟨t2, rfl, hok⟩, ⟨hl, Nat.le_refl _⟩, fun _ => rfl, fun q => (by cases q), fun id _ q => (by simp [consT, seen] at q), fun A q => (by cases q), fun q => (by cases q), fun id q => (by simp [consT, seen] at q), fun id q1 q2 => ?_⟩
   ·have q' : wants sl x.guard = true := q
    rw [hwn] at q'; cases q'
   ·have q1' : h.n ≤ id := q1
    have q2' : id < (T 0).h.n := q2
    rw [t2] at q2'; omega
  | true =>
   rw [hwn] at e
   simp only [cond] at e
   have hvis : ∀ id, seen ((h.n, big) :: visOf x.preds base rs) id = true → h.n ≤ id ∨ seen base id = true ∨ (∃ r ∈ rs, x.preds.testBit r.1 = true ∧ r.2.1 ≤ id ∧ id < r.2.2) := fun id q => by
    rcases seen_new q with y | y
    ·exact Or.inl y
    ·exact Or.inr (visOf_seen y)
   have pure_ : x.op ⟨h.n, [(h.n, big)]⟩ call sl h (fun v h' => putK nt sl x.dst v fun sl => evDreg c call nt base xs (i + 1) (addR i h.n h'.n rs) bs fs sl h') = some r → (x.mem = true → x.foot = none → False) →
     ∃ T : Nat → TE, (T 0).sl = sl ∧ (T 0).h = h ∧ (T (x :: xs).length).sl = r.1 ∧ (T (x :: xs).length).h = r.2 ∧ ∀ j y, (x :: xs)[j]? = some y → Link c nt base rs bs fs D i T j y := fun e hmf => by
    obtain ⟨v, h', e, hd⟩ := hop0 _ sl h _ r (fun q1 q2 => (hmf q1 q2).elim) hw e
    have hst := hD _ _ _ _ _ _ hd
    obtain ⟨sl1, hp, e⟩ := putK_some e
    refine glue v h' _ false none sl1 _ bs fs hst (fun T t1 t2 => ?_) e addR_mem (fun _ hb => hb) (fun q => by cases q) (fun _ hf => hf) (fun A q => by cases q)
    refine Link.first hd hst hwn t2 (by rw [t1]; exact hp) ⟨hl, Nat.le_refl _⟩ (fun _ => rfl) (fun q => by cases q) (fun id h1 h2 => ?_) (fun A q => by cases q) (fun q => by cases q) (fun id q => ?_) (fun id q1 q2 => seen_big q1 q2)
    ·rcases seen_new h2 with y | y
     ·omega
     ·cases y
    ·rcases seen_new q with y | y
     ·exact Or.inl y
     ·cases y
   cases hfo : x.foot with
   | some xf =>
    rw [hfo] at e
    simp only at e
    cases hfi : footId (evV sl xf) with
    | none =>
     rw [hfi] at e
     exact pure_ e (fun _ q => by rw [hfo] at q; cases q)
    | some A =>
     rw [hfi] at e
     simp only at e
     cases hch : (seen ((h.n, big) :: visOf x.preds base rs) A && unchB x.preds A bs) with
     | false => rw [hch] at e; cases e
     | true =>
      rw [hch] at e
      rw [Bool.and_eq_true] at hch
      simp only at e
      obtain ⟨v, h', e, hd⟩ := hop0 _ sl h _ r (fun _ q => by rw [hfo] at q; cases q) hw e
      have hst := hD _ _ _ _ _ _ hd
      obtain ⟨sl1, hp, e⟩ := putK_some e
      refine glue v h' _ false (some A) sl1 _ bs ((i, A) :: fs) hst (fun T t1 t2 => ?_) e addR_mem (fun _ hb => hb) (fun q => by cases q) (fun _ hf => List.mem_cons_of_mem _ hf) (fun A' q => by cases q; exact List.mem_cons_self ..)
      refine Link.first hd hst hwn t2 (by rw [t1]; exact hp) ⟨hl, Nat.le_refl _⟩ (fun _ => rfl) (fun q => by cases q) (fun id h1 h2 => ?_) (fun A' q => by cases q; exact unchB_some hch.2) (fun q => by cases q) (fun id q => ?_) (fun id q1 q2 => seen_big q1 q2)
      ·rcases seen_new h2 with y | y
       ·omega
       ·exact Or.inl (by rw [seen_one y])
      ·rcases seen_new q with y | y
       ·exact Or.inl y
       ·rw [seen_one y]; exact hvis A hch.1
   | none =>
    rw [hfo] at e
    simp only at e
    cases hm : x.mem with
    | false =>
     rw [hm] at e
     exact pure_ e (fun q _ => by rw [hm] at q; cases q)
    | true =>
     rw [hm] at e
     cases hb : x.bar with
     | true =>
      rw [hb] at e
      simp only at e
      obtain ⟨v, h', e, hd⟩ := hop0 ⟨c.floor, (h.n, big) :: visOf x.preds base rs⟩ sl h _ r (fun _ _ => ⟨hl, fun id q1 q2 => seen_big q1 q2⟩) hw e
      have hst := hD _ _ _ _ _ _ hd
      cases hun : unchF x.preds h.t h'.t fs with
      | false => rw [hun] at e; cases e
      | true =>
       rw [hun] at e
       simp only at e
       obtain ⟨sl1, hp, e⟩ := putK_some e
       refine glue v h' _ true none sl1 _ ((i, h.t, h'.t) :: bs) fs hst (fun T t1 t2 => ?_) e addR_mem (fun _ hb => List.mem_cons_of_mem _ hb) (fun _ => List.mem_cons_self ..) (fun _ hf => hf) (fun A q => by cases q)
       exact Link.first hd hst hwn t2 (by rw [t1]; exact hp) ⟨Nat.le_refl _, hl⟩ (fun q => by cases q) (fun _ => ⟨hb, hm⟩) (fun id _ _ => Or.inr hm) (fun A q => by cases q) (fun _ => unchF_some hun) hvis (fun id q1 q2 => seen_big q1 q2)
     | false =>
      rw [hb] at e
      simp only at e
      obtain ⟨v, h', e, hd⟩ := hop0 ⟨h.n, (h.n, big) :: visOf x.preds base rs⟩ sl h _ r (fun _ _ => ⟨Nat.le_refl _, fun id q1 q2 => seen_big q1 q2⟩) hw e
      have hst := hD _ _ _ _ _ _ hd
      obtain ⟨sl1, hp, e⟩ := putK_some e
      refine glue v h' _ false none sl1 _ bs fs hst (fun T t1 t2 => ?_) e addR_mem (fun _ hb => hb) (fun q => by cases q) (fun _ hf => hf) (fun A q => by cases q)
      exact Link.first hd hst hwn t2 (by rw [t1]; exact hp) ⟨hl, Nat.le_refl _⟩ (fun _ => rfl) (fun q => by cases q) (fun id _ _ => Or.inr hm) (fun A q => by cases q) (fun q => by cases q) hvis (fun id q1 q2 => seen_big q1 q2)
/-! the predecessors of an operation -/
theorem fold_bits {acc : Array Nat} {p : Nat} : ∀ (l : List Edge) (s : Nat), (l.foldl (fun s e => if Region.binds .any e then s ||| 2 ^ e.on ||| acc.getD e.on 0 else s) s).testBit p = true →
  s.testBit p = true ∨ ∃ e ∈ l, Region.binds .any e = true ∧ (p = e.on ∨ (acc.getD e.on 0).testBit p = true)
 | [], s, h => Or.inl h
 | e :: l, s, h => by
  rw [List.foldl_cons] at h
  rcases fold_bits l _ h with x | ⟨e', h1, h2⟩
  ·by_cases hb : Region.binds .any e = true
   ·rw [if_pos hb] at x
    rw [Nat.testBit_or, Nat.testBit_or, Bool.or_eq_true, Bool.or_eq_true] at x
    rcases x with (x | x) | x
    ·exact Or.inl x
    ·rw [Nat.testBit_two_pow] at x
     exact Or.inr ⟨e, by simp, hb, Or.inl (by simpa using (of_decide_eq_true x).symm)⟩
    ·exact Or.inr ⟨e, by simp, hb, Or.inr x⟩
   ·rw [if_neg hb] at x; exact Or.inl x
  ·exact Or.inr ⟨e', by simp [h1], h2⟩
def PreOk (ops : Array Oper) (A : Array Nat) (j : Nat) : Prop := ∀ p, (A.getD j 0).testBit p = true → ∃ o, ops[j]? = some o ∧ ∃ e ∈ o.after, Region.binds .any e = true ∧ (p = e.on ∨ (A.getD e.on 0).testBit p = true)
theorem getD_push_keep {A : Array Nat} {v i p : Nat} (h : (A.getD i 0).testBit p = true) : ((A.push v).getD i 0).testBit p = true := by
 have hlt : i < A.size := by
  rcases Nat.lt_or_ge i A.size with x | x
  ·exact x
  ·simp [Array.getElem?_eq_none x] at h
 have e : (A.push v).getD i 0 = A.getD i 0 := by simp [Array.getElem?_push, Nat.ne_of_lt hlt]
 rw [e]; exact h
theorem before_fold {ops : Array Oper} : ∀ (l : List Oper) (acc : Array Nat), (∀ k, l[k]? = ops[acc.size + k]?) → (∀ j, PreOk ops acc j) →
  ∀ j, PreOk ops (l.foldl (fun acc o => acc.push (o.after.foldl (fun s e => if Region.binds .any e then s ||| 2 ^ e.on ||| acc.getD e.on 0 else s) 0)) acc) j
 | [], acc, _, h => h
 | o :: l, acc, hl, h => by
  rw [List.foldl_cons]
  refine before_fold l _ (fun k => ?_) (fun j p hp => ?_)
  ·have := hl (k + 1)
   simp only [List.getElem?_cons_succ] at this
   rw [this, Array.size_push]; congr 1; omega
  ·by_cases hj : j = acc.size
   ·subst hj
    have h0 := hl 0
    simp only [List.getElem?_cons_zero, Nat.add_zero] at h0
    have e : (acc.push (o.after.foldl (fun s e => if Region.binds .any e then s ||| 2 ^ e.on ||| acc.getD e.on 0 else s) 0)).getD acc.size 0 = o.after.foldl (fun s e => if Region.binds .any e then s ||| 2 ^ e.on ||| acc.getD e.on 0 else s) 0 := by simp
    rw [e, ← Array.foldl_toList] at hp
    rcases fold_bits _ _ hp with x | ⟨e', h1, h2, h3⟩
    ·simp at x
    ·refine ⟨o, h0.symm, e', by simpa using h1, h2, ?_⟩
     rcases h3 with y | y
     ·exact Or.inl y
     ·exact Or.inr (getD_push_keep y)
   ·have e : (acc.push (o.after.foldl (fun s e => if Region.binds .any e then s ||| 2 ^ e.on ||| acc.getD e.on 0 else s) 0)).getD j 0 = acc.getD j 0 := by
     rcases Nat.lt_or_ge j acc.size with x | x
     ·simp [Array.getElem?_push, hj]
     ·simp [Array.getElem?_push, hj]
    rw [e] at hp
    obtain ⟨o', h1, e', h2, h3, h4⟩ := h j p hp
    refine ⟨o', h1, e', h2, h3, ?_⟩
    rcases h4 with y | y
    ·exact Or.inl y
    ·exact Or.inr (getD_push_keep y)
theorem before_ok (ops : Array Oper) (j : Nat) : PreOk ops (Region.before ops) j := by
 unfold Region.before
 rw [← Array.foldl_toList]
 exact before_fold ops.toList #[] (by simp) (fun j p hp => by simp at hp) j
def CallOk (P : Program) (ng : Nat) (call : Caller) : Prop := ∀ (f : Cee) args c h v h', Ctx c h → WF h → call f args c h = some (v, h') → CallDid P ng f args c h v h'
def OpOk (P : Program) (ng : Nat) : Prop := ∀ (o : Oper) (x : XO), cO P o = some x → ∀ (c : C) (call : Caller) (sl : Tr AV) (h : H) (k : Kont) (r : Tr AV × H), (memO o = true → Ctx c h) → WF h → CallOk P ng call →
 x c call sl h k = some r → ∃ v h', k v h' = some r ∧ DidR P ng o c sl h v h'
section
variable {P : Program} {ng : Nat} {c : C} {call : Caller} {nt : Nat} {ops : Array Oper}
theorem cR_spec (p : Nat) (o : Oper) : (∃ xo g, cO P o = some xo ∧ cGuard ops o.guard = some g ∧ o.op.operands.toList.all (gOk P) = true ∧ cR P ops p o = { dst := o.dst, op := xo, guard := g, preds := p, mem := memO o, bar := false, foot := none }) ∨
  ((cR P ops p o).op = oBad ∧ (cR P ops p o).guard = none) := by
 unfold cR
 split
 ·rename_i x g h1 h2 h3
  exact Or.inl ⟨x, g, h1, h2, h3, rfl⟩
 ·exact Or.inr ⟨rfl, rfl⟩
theorem opsR_of {β : Bet} {sl : Tr AV} {a : Act} {ys : List Operand} (hng : P.globals.size ≤ ng) (hgb : GB ng β) (hg : ys.all (gOk P) = true) (hsl : ∀ t, Operand.tmp t ∈ ys → VR β (slot sl t) (a.tmps.getD t undef)) : OpsR β sl a ys := by
 intro y hy x hx
 cases y with
 | tmp t => simp [cV] at hx; subst hx; exact hsl t hy
 | const v =>
  simp only [cV, Option.map_eq_some_iff] at hx
  obtain ⟨z, h1, rfl⟩ := hx
  exact cAV_VR h1
 | global g =>
  simp [cV] at hx; subst hx
  have := List.all_eq_true.1 hg _ hy
  simp only [gOk, Nat.blt_eq] at this
  obtain ⟨s, e⟩ := hgb g (by omega)
  simp only [evV, Act.eval, VR]
  exact ⟨_, e, rfl⟩
 | func f =>
  simp [cV] at hx; subst hx
  simp only [evV, Act.eval, VR, VRs]
  exact ⟨#[], rfl, rfl⟩
theorem bool_of {β : Bet} {v : AV} {u : Value} (h : VR β v u) (hok : okG v = true) : (∃ b, v = .bool b ∧ u = .bool b) ∨ ((∀ b, v ≠ .bool b) ∧ ∀ b, u ≠ .bool b) := by
 cases v <;> simp only [VR] at h <;> first
  | (have hok' : false = true := hok; cases hok'; done)
  | (exact Or.inl ⟨_, rfl, h⟩)
  | (subst h; exact Or.inr ⟨fun _ e => (by cases e), fun _ e => (by cases e)⟩)
  | (obtain ⟨_, rfl, _⟩ := h; exact Or.inr ⟨fun _ e => (by cases e), fun _ e => (by cases e)⟩)
  | (obtain ⟨_, _, rfl⟩ := h; exact Or.inr ⟨fun _ e => (by cases e), fun _ e => (by cases e)⟩)
  | (obtain ⟨_, _, rfl, _⟩ := h; exact Or.inr ⟨fun _ e => (by cases e), fun _ e => (by cases e)⟩)
  | (obtain ⟨_, _, _, _, rfl, _⟩ := h; exact Or.inr ⟨fun _ e => (by cases e), fun _ e => (by cases e)⟩)
def guardTmp (ops : Array Oper) (o : Oper) (t : Nat) : Prop := ∃ j w, o.guard = some (j, w) ∧ (ops[j]?).bind (·.dst) = some t
theorem wants_eq {β : Bet} {sl : Tr AV} {a : Act} {o : Oper} {g : Option (Nat × Bool)} (hg : cGuard ops o.guard = some g) (hsl : ∀ t, guardTmp ops o t → VR β (slot sl t) (a.tmps.getD t undef)) (hok : wants sl g = false → okW sl g = true) :
  wants sl g = Region.wanted o (yielded ops a.tmps) := by
 unfold cGuard at hg
 unfold Region.wanted
 cases ho : o.guard with
 | none => rw [ho] at hg; simp only [Option.some.injEq] at hg; subst hg; rfl
 | some jw =>
  obtain ⟨j, wt⟩ := jw
  rw [ho] at hg
  simp only at hg
  cases hd : (ops[j]?).bind (·.dst) with
  | none => rw [hd] at hg; cases hg
  | some d =>
   rw [hd] at hg
   simp only [Option.some.injEq] at hg
   subst hg
   have hv := hsl d ⟨j, wt, ho, hd⟩
   simp only [wants, yielded, hd, Option.bind_some]
   have hk : okG (slot sl d) = true := by
    cases hw : wants sl (some (d, wt)) with
    | false => exact hok hw
    | true =>
     unfold wants at hw
     simp only at hw
     cases hs : slot sl d <;> rw [hs] at hw <;> first | rfl | cases hw
   rcases bool_of hv hk with ⟨b, e1, e2⟩ | ⟨e1, e2⟩
   ·rw [e1]
    have : a.tmps[d]? = some (.bool b) := by
     rw [Array.getD_eq_getD_getElem?] at e2
     cases hx : a.tmps[d]? with
     | none => rw [hx] at e2; simp [undef] at e2
     | some u => rw [hx] at e2; simp at e2; rw [e2]
    rw [this]
    cases b <;> cases wt <;> rfl
   ·have : (match slot sl d with | .bool b => b == wt | _ => false) = false := by
     split
     ·rename_i b hb; exact absurd hb (e1 b)
     ·rfl
    refine Eq.trans this ?_
    split
    ·rename_i b hb
     exact absurd (by rw [Array.getD_eq_getD_getElem?, hb]; rfl) (e2 b)
    ·cases wt <;> rfl
theorem SlR.putR {nt : Nat} {df : List Deferred} {β : Bet} {sl sl' : Tr AV} {a : Act} {d : Option Nat} {v : AV} {u : Value} (h : SlR nt df β sl a) (hp : PutR nt sl d v sl') (hnt : nt ≤ 1000000) (hv : VR β v u) : SlR nt df β sl' (a.put d u) := by
 cases d with
 | none => simp only [PutR] at hp; subst hp; exact h
 | some d =>
  obtain ⟨h1, rfl⟩ := hp
  exact h.put h1 hnt hv
theorem vr_undef {β : Bet} : VR β (.tup []) undef := by simp [VR, VRs, undef]
theorem evReg_sound {df : List Deferred} {rd : Option Nat} {m : Nat} (hO : OpOk P ng) (hC : CallOk P ng call) (hng : P.globals.size ≤ ng) (hnt : nt ≤ 1000000) : ∀ (l : List Oper) (i : Nat) (sl : Tr AV) (h : H) (r : Tr AV × H), (∀ k, l[k]? = ops[i + k]?) → WF h → Ctx c h →
  evReg c call nt (l.map (cR P ops 0)) sl h = some r → Step c h r.2 ∧ ∀ β a w, GB ng β → HR c.floor β (view c h) w → SlR nt df β sl a → (∀ id, h.n ≤ id → id < r.2.n → β id = none) → ∀ Q : Exit → Act → World → Prop,
   (∀ β' a' w', Post c.floor h.n r.2.n β (view c h) w β' (view c r.2) w' → SlR nt df β' r.1 a' → Q .normal a' w') → wpOpsIn (W rd) m P ops Q (List.range' i l.length) a w
 | [], i, sl, h, r, hl, hw, hc, e => by
  simp only [List.map_nil, evReg, Option.some.injEq] at e
  subst e
  refine ⟨Step.refl hw, fun β a w hgb hr hsl hfr Q hQ => ?_⟩
  simp only [List.length_nil, List.range'_zero, wpOpsIn]
  exact hQ β a w (Post.refl hr) hsl
 | o :: l, i, sl, h, r, hl, hw, hc, e => by
  have hl' : ∀ k, l[k]? = ops[i + 1 + k]? := fun k => by
   have := hl (k + 1)
   simp only [List.getElem?_cons_succ] at this
   rw [this]; congr 1; omega
  have hoi : ops[i]? = some o := by have := hl 0; simpa using this.symm
  simp only [List.map_cons] at e
  unfold evReg at e
  rcases cR_spec (P := P) (ops := ops) 0 o with ⟨xo, g, h1, h2, h3, h4⟩ | ⟨h1, h2⟩
  ·rw [h4] at e
   simp only at e
   cases hwn : wants sl g with
   | false =>
    rw [hwn] at e
    simp only [cond] at e
    cases hok : okW sl g with
    | false => rw [hok] at e; cases e
    | true =>
    rw [hok] at e
    simp only at e
    obtain ⟨sl1, hp, e⟩ := putK_some e
    obtain ⟨s1, s2⟩ := evReg_sound hO hC hng hnt l (i + 1) sl1 h r hl' hw hc e
    refine ⟨s1, fun β a w hgb hr hsl hfr Q hQ => ?_⟩
    rw [List.length_cons, List.range'_succ, wpOpsIn_cons]
    unfold wpOpIn
    rw [hoi]
    have hwt := wants_eq (ops := ops) (a := a) h2 (fun t _ => hsl.at_ t) (fun _ => hok)
    rw [hwn] at hwt
    simp only [← hwt, Bool.false_eq_true, if_false]
    refine ⟨fun _ _ => trivial, ?_⟩
    exact s2 β _ w hgb hr (hsl.putR hp hnt vr_undef) hfr Q hQ
   | true =>
    rw [hwn] at e
    simp only [cond] at e
    obtain ⟨v, h', e, hd⟩ := hO o xo h1 c call sl h _ r (fun _ => hc) hw hC e
    obtain ⟨sl1, hp, e⟩ := putK_some e
    obtain ⟨hst, hdd⟩ := hd
    obtain ⟨s1, s2⟩ := evReg_sound hO hC hng hnt l (i + 1) sl1 h' r hl' hst.wf (hc.mono hst.le) e
    refine ⟨hst.trans s1, fun β a w hgb hr hsl hfr Q hQ => ?_⟩
    rw [List.length_cons, List.range'_succ, wpOpsIn_cons]
    unfold wpOpIn
    rw [hoi]
    have hwt := wants_eq (ops := ops) (a := a) h2 (fun t _ => hsl.at_ t) (fun q => by rw [hwn] at q; cases q)
    rw [hwn] at hwt
    simp only [← hwt, if_true]
    refine (hdd β a w hgb hr (opsR_of hng hgb h3 fun t _ => hsl.at_ t) (fun id q1 q2 => hfr id q1 (Nat.lt_of_lt_of_le q2 s1.le)) _ _ _ Q fun β1 val w1 hP1 hv1 => ?_)
    refine s2 β1 _ w1 (hgb.mono hP1.sub) hP1.hr ((hsl.mono hP1.sub).putR hp hnt hv1) (fun id q1 q2 => ?_) Q fun β2 a2 w2 hP2 hs2 => hQ β2 a2 w2 (hP1.trans hP2) hs2
    cases hb : β1 id with
    | none => rfl
    | some L =>
     have h0 := hfr id (Nat.le_trans hst.le q1) q2
     have := hP1.fresh id L hb h0
     omega
  ·rw [h1, h2] at e
   simp [wants, oBad] at e
/-! regions in any order -/
theorem countP_lt {α : Type} {p q : α → Bool} : ∀ {l : List α} {x : α}, x ∈ l → p x = true → q x = false → (∀ y, q y = true → p y = true) → l.countP q < l.countP p
 | [], x, h, _, _, _ => by cases h
 | y :: l, x, h, hp, hq, hh => by
  have mono : ∀ l : List α, l.countP q ≤ l.countP p := fun l => List.countP_mono_left fun z _ hz => hh z hz
  rcases List.mem_cons.1 h with e | e
  ·subst e
   rw [List.countP_cons_of_pos hp, List.countP_cons_of_neg (by simp [hq])]
   have := mono l; omega
  ·have := countP_lt e hp hq hh
   rw [List.countP_cons, List.countP_cons]
   cases hy : q y with
   | true => rw [hh y hy]; simp; omega
   | false => cases p y <;> simp <;> omega
theorem Post.toSub {f n n' : Nat} {β β' : Bet} {g V g' : View} {w w' : World} (h : Post f n n' β g w β' V w') (hs : ∀ id b, g' id = some b → V id = some b) : Post f n n' β g w β' g' w' :=
 ⟨h.le, h.sub, h.fresh, h.hr.sub hs, h.os, h.tape, h.output, h.size, h.frame, h.news, fun id b e => h.old id b (hs id b e)⟩
theorem getD_of {j : Nat} {o : Oper} (h : ops[j]? = some o) : ops.getD j default = o := by simp [h]
theorem okD_spec (hok : okD ops (Region.before ops) = true) {j : Nat} {o : Oper} (hj : ops[j]? = some o) :
  (∀ p, ((Region.before ops).getD j 0).testBit p = true → p < j) ∧ (∀ e ∈ o.after, Region.binds .any e = true → e.on < j) ∧
  ∀ d, o.dst = some d → ∀ i oi, ops[i]? = some oi → i ≠ j → (d ∈ oi.looksAt ops ∨ oi.dst = some d) → (i < j → ((Region.before ops).getD j 0).testBit i = true) ∧ (j < i → ((Region.before ops).getD i 0).testBit j = true) := by
 have hlt : j < ops.size := (Array.getElem?_eq_some_iff.1 hj).1
 unfold okD at hok
 have h1 := List.all_eq_true.1 hok j (List.mem_range.2 hlt)
 rw [getD_of hj] at h1
 simp only [Bool.and_eq_true, decide_eq_true_eq] at h1
 obtain ⟨⟨h2, h3⟩, h4⟩ := h1
 refine ⟨fun p hp => ?_, fun e he hb => ?_, fun d hd i oi hi hne hlk => ?_⟩
 ·rcases Nat.lt_or_ge p j with x | x
  ·exact x
  ·rw [Nat.testBit_lt_two_pow (Nat.lt_of_lt_of_le h2 (Nat.pow_le_pow_right (by omega) x))] at hp; cases hp
 ·have := Array.all_eq_true_iff_forall_mem.1 h3 e he
  simpa [hb] using this
 ·rw [hd] at h4
  simp only at h4
  have hli : i < ops.size := (Array.getElem?_eq_some_iff.1 hi).1
  have h5 := List.all_eq_true.1 h4 i (List.mem_range.2 hli)
  rw [getD_of hi] at h5
  have h6 : (((oi.looksAt ops).contains d) || (oi.dst == some d)) = true := by
   rcases hlk with q | q
   ·simp [q]
   ·simp [q]
  rw [h6] at h5
  simp only [Bool.not_true, Bool.or_false, Bool.or_eq_true, beq_iff_eq] at h5
  rcases h5 with h5 | h5
  ·exact absurd h5 hne
  ·refine ⟨fun q => ?_, fun q => ?_⟩
   ·rw [if_pos q] at h5; exact h5
   ·rw [if_neg (by omega)] at h5; exact h5
theorem barOf_spec {j i : Nat} {o oi : Oper} (hb : barOf ops (Region.before ops) j = true) (hi : ops[i]? = some oi) (hm : memO oi = true) (hne : i ≠ j) :
  (i < j → ((Region.before ops).getD j 0).testBit i = true) ∧ (j < i → ((Region.before ops).getD i 0).testBit j = true) := by
 have hli : i < ops.size := (Array.getElem?_eq_some_iff.1 hi).1
 unfold barOf at hb
 have h5 := List.all_eq_true.1 hb i (List.mem_range.2 hli)
 rw [getD_of hi, hm] at h5
 simp only [Bool.not_true, Bool.false_or, Bool.or_eq_true, beq_iff_eq] at h5
 rcases h5 with h5 | h5
 ·exact absurd h5 hne
 ·refine ⟨fun q => ?_, fun q => ?_⟩
  ·rw [if_pos q] at h5; exact h5
  ·rw [if_neg (by omega)] at h5; exact h5
end
end Go.Proofs.YtmdceifbbmnfgaaGreatDoor.Ev
