/- Contexts, frames of relations, and the slots of a call. -/
import Derived.Test.YtfoahdpnalbbgaaGreatDoorEvK
set_option linter.unusedVariables false
set_option linter.unusedSimpArgs false
namespace Go.Proofs.YtfoahdpnalbbgaaGreatDoor.Ev
open Go
/-- a context fits a heap: what comes is visible, and may be written -/
structure Ctx (c : C) (h : H) : Prop where
  low : c.floor ≤ h.n
  vis : ∀ id, h.n ≤ id → id < big → seen c.vis id = true
theorem Ctx.mono {c : C} {h h' : H} (hc : Ctx c h) (hle : h.n ≤ h'.n) : Ctx c h' := ⟨Nat.le_trans hc.low hle, fun id h1 h2 => hc.vis id (Nat.le_trans hle h1) h2⟩

theorem Post.trans2 {f n m n1 n2 : Nat} {β β1 β2 : Bet} {g g1 g2 : View} {w w1 w2 : World} (h : Post f n n1 β g w β1 g1 w1) (h' : Post f m n2 β1 g1 w1 β2 g2 w2) (hm : n ≤ m) (hn : n1 ≤ n2) :
    Post f n n2 β g w β2 g2 w2 := by
  have back : ∀ id b L, f ≤ id → g1 id = some b → β1 id = some L → w.heap.size ≤ L.blk ∨ ∃ i d M, f ≤ i ∧ g i = some d ∧ β i = some M ∧ M.blk = L.blk := by
    intro id b L hid h1 h2
    cases hb : β id with
    | some M =>
      have : M = L := by have := h.sub id M hb; rw [this] at h2; cases h2; rfl
      subst this
      rcases h.old id b h1 with ⟨d, hd⟩ | hn
      · exact Or.inr ⟨id, d, M, hid, hd, hb, rfl⟩
      · rw [hn] at hb; cases hb
    | none => exact h.news id L h2 hb
  have hle := h.le
  have hle' := h'.le
  refine ⟨by omega, h.sub.trans h'.sub, ?_, h'.hr, h'.os.trans h.os, h'.tape.trans h.tape, h'.output.trans h.output, Nat.le_trans h.size h'.size, ?_, ?_, ?_⟩
  · intro id L h1 h2
    cases hb : β1 id with
    | some M => have := h.fresh id M hb h2; omega
    | none => have := h'.fresh id L h1 hb; omega
  · intro B hB hf
    refine (h'.frame B (Nat.lt_of_lt_of_le hB h.size) fun id b L hid h1 h2 e => ?_).trans (h.frame B hB hf)
    rcases back id b L hid h1 h2 with hk | ⟨i, d, M, hi, hd, hM, e2⟩
    · omega
    · exact hf i d M hi hd hM (e2.trans e)
  · intro id L h1 h2
    cases hb : β1 id with
    | some M =>
      have : M = L := by have := h'.sub id M hb; rw [this] at h1; cases h1; rfl
      subst this
      exact h.news id M hb h2
    | none =>
      rcases h'.news id L h1 hb with hk | ⟨i, b, M, hi, hg, hM, e⟩
      · exact Or.inl (Nat.le_trans h.size hk)
      · rcases back i b M hi hg hM with hk | ⟨j, d, M', hj, hd, hM', e2⟩
        · exact Or.inl (by omega)
        · exact Or.inr ⟨j, d, M', hj, hd, hM', e2.trans e⟩
  · intro id b h1
    rcases h'.old id b h1 with ⟨d, hd⟩ | hn
    · exact h.old id d hd
    · cases hb : β id with
      | none => exact Or.inr rfl
      | some M => have := h.sub id M hb; rw [this] at hn; cases hn
/-- a run with a part of the view, seen with the whole -/
theorem Post.wide {f f0 n n' m m' : Nat} {β β' : Bet} {g g' V V' : View} {w w' : World} (h : Post f n n' β g w β' g' w') (hV : HR β V w) (hg : ∀ id b, g id = some b → V id = some b) (hf : f0 ≤ f) (hm : m ≤ n) (hm' : n' ≤ m')
    (hV' : ∀ id b, V' id = some b → g' id = some b ∨ (V id = some b ∧ g id = none)) : Post f0 m m' β V w β' V' w' := by
  have hle := h.le
  have keep : ∀ id b L, V id = some b → g id = none → β id = some L → L.blk < w.heap.size → w'.heap[L.blk]? = w.heap[L.blk]? := fun id b L e1 e2 e3 e4 =>
    h.frame L.blk e4 fun i d M _ h1 h2 h3 => by
      have := hV.inj i id d b M L (hg i d h1) e1 h2 e3 h3
      subst this; rw [h1] at e2; cases e2
  have placed : ∀ id b L, V id = some b → β id = some L → L.blk < w.heap.size := fun id b L e1 e2 => by
    obtain ⟨L', h1, h2, _⟩ := hV.at_ id b e1
    rw [h1] at e2; cases e2; exact h2
  have cross : ∀ i b M j d N, g' i = some b → β' i = some M → V j = some d → g j = none → β' j = some N → M.blk = N.blk → i = j := fun i b M j d N e1 e2 e3 e4 e5 e6 => by
    obtain ⟨N', k1, k2, _⟩ := hV.at_ j d e3
    have k3 := h.sub j N' k1
    rw [k3] at e5; cases e5
    cases hb : β i with
    | some M0 =>
      have k4 := h.sub i M0 hb
      rw [k4] at e2; cases e2
      rcases h.old i b e1 with ⟨d', hd'⟩ | hn
      · exact hV.inj i j d' d _ _ (hg i d' hd') e3 hb k1 e6
      · rw [hn] at hb; cases hb
    | none =>
      rcases h.news i M e2 hb with hk | ⟨i', b', M', hi', hg', hM', e⟩
      · omega
      · have := hV.inj i' j b' d M' _ (hg i' b' hg') e3 hM' k1 (e.trans e6)
        subst this; rw [hg'] at e4; cases e4
  refine ⟨by omega, h.sub, fun id L h1 h2 => by have := h.fresh id L h1 h2; omega, ⟨fun id b e => ?_, fun i j b d L M h1 h2 h3 h4 h5 => ?_⟩, h.os, h.tape, h.output, h.size, fun B hB hh => h.frame B hB fun id b L h1 h2 h3 => hh id b L (Nat.le_trans hf h1) (hg id b h2) h3, fun id L h1 h2 => ?_, fun id b e => ?_⟩
  · rcases hV' id b e with e | ⟨e1, e2⟩
    · exact h.hr.at_ id b e
    · obtain ⟨L, h1, h2, h3⟩ := hV.at_ id b e1
      have := h.size
      exact ⟨L, h.sub id L h1, by omega, h3.mono h.sub (keep id b L e1 e2 h1 h2)⟩
  · rcases hV' i b h1 with e | ⟨e1, e2⟩ <;> rcases hV' j d h2 with e' | ⟨e1', e2'⟩
    · exact h.hr.inj i j b d L M e e' h3 h4 h5
    · exact cross i b L j d M e h3 e1' e2' h4 h5
    · exact (cross j d M i b L e' h4 e1 e2 h3 h5.symm).symm
    · obtain ⟨L', k1, _, _⟩ := hV.at_ i b e1
      obtain ⟨M', k2, _, _⟩ := hV.at_ j d e1'
      have k3 := h.sub i L' k1
      have k4 := h.sub j M' k2
      rw [k3] at h3; rw [k4] at h4; cases h3; cases h4
      exact hV.inj i j b d _ _ e1 e1' k1 k2 h5
  · rcases h.news id L h1 h2 with hk | ⟨i, b, M, hi, hgi, hM, e⟩
    · exact Or.inl hk
    · exact Or.inr ⟨i, b, M, Nat.le_trans hf hi, hg i b hgi, hM, e⟩
  · rcases hV' id b e with e | ⟨e1, e2⟩
    · rcases h.old id b e with ⟨d, hd⟩ | hn
      · exact Or.inl ⟨d, hg id d hd⟩
      · exact Or.inr hn
    · exact Or.inl ⟨b, e1⟩

/-! the slots -/
structure SlR (nt : Nat) (df : List Deferred) (β : Bet) (sl : Tr AV) (a : Act) : Prop where
  size : a.tmps.size = nt
  defers : a.defers = df
  at_ : ∀ t, VR β (slot sl t) (a.tmps.getD t undef)
theorem SlR.mono {nt : Nat} {df : List Deferred} {β β' : Bet} {sl : Tr AV} {a : Act} (h : SlR nt df β sl a) (hs : Sub β β') : SlR nt df β' sl a := ⟨h.size, h.defers, fun t => VR.mono hs _ _ (h.at_ t)⟩
theorem slot_set {sl : Tr AV} {d t : Nat} {v : AV} (hd : d < 10000000) : slot (Tr.set depth sl d v) t = if d = t then v else slot sl t := by
  unfold slot
  rw [get_set40 _ _ _ _ hd]
  by_cases e : d = t
  · rw [if_pos e, if_pos e]
  · rw [if_neg e, if_neg e]
theorem getD_put {a : Act} {d t : Nat} {v : Value} (hd : d < a.tmps.size) : (a.put (some d) v).tmps.getD t undef = if d = t then v else a.tmps.getD t undef := by
  simp only [Act.put, Array.getD_eq_getD_getElem?, Array.getElem?_setIfInBounds]
  by_cases e : d = t
  · subst e; simp [hd]
  · simp [e]
theorem put_size {a : Act} {d : Option Nat} {v : Value} : (a.put d v).tmps.size = a.tmps.size := by cases d <;> simp [Act.put]
theorem put_defers {a : Act} {d : Option Nat} {v : Value} : (a.put d v).defers = a.defers := by cases d <;> simp [Act.put]
theorem SlR.put {nt : Nat} {df : List Deferred} {β : Bet} {sl : Tr AV} {a : Act} {d : Nat} {v : AV} {u : Value} (h : SlR nt df β sl a) (hd : d < nt) (hnt : nt ≤ 1000000) (hv : VR β v u) : SlR nt df β (Tr.set depth sl d v) (a.put (some d) u) := by
  refine ⟨put_size.trans h.size, put_defers.trans h.defers, fun t => ?_⟩
  rw [slot_set (by omega), getD_put (by rw [h.size]; exact hd)]
  by_cases e : d = t
  · rw [if_pos e, if_pos e]; exact hv
  · rw [if_neg e, if_neg e]; exact h.at_ t
theorem SlR.eval {nt : Nat} {df : List Deferred} {β : Bet} {sl : Tr AV} {a : Act} {ng : Nat} (h : SlR nt df β sl a) (hc : ∀ v x, cAV v = some x → VR β x v) (hg : GB ng β) {y : Operand} {x : XV} (hx : cV y = some x) (hy : ∀ g, y = .global g → g < ng) : VR β (evV sl x) (a.eval y) := by
  cases y with
  | tmp t => simp [cV] at hx; subst hx; exact h.at_ t
  | const v =>
    simp only [cV, Option.map_eq_some_iff] at hx
    obtain ⟨z, h1, rfl⟩ := hx
    exact hc v z h1
  | global g =>
    simp [cV] at hx; subst hx
    obtain ⟨s, e⟩ := hg g (hy g rfl)
    simp only [evV, Act.eval, VR]
    exact ⟨_, e, rfl⟩
  | func f =>
    simp [cV] at hx; subst hx
    simp only [evV, Act.eval, VR, VRs]
    exact ⟨#[], rfl, rfl⟩
/-- constants -/
theorem cCell_VR {β : Bet} {v : Value} {x : AV} (h : cCell v = some x) : VR β x v := by
  unfold cCell at h
  split at h <;> first | (cases h; done) | skip
  all_goals first
    | (simp only [Option.some.injEq] at h; subst h; simp [VR]; done)
    | skip
  split at h
  · rename_i f first caps hh
    simp only [Bool.and_eq_true, Array.isEmpty_iff] at hh
    obtain ⟨h1, h2⟩ := hh
    subst h1 h2
    cases h
    simp [VR, VRs]
  · cases h
theorem cCells_VR {β : Bet} : ∀ (l : List Value) (xs : List AV), l.mapM cCell = some xs → VRs β xs l
  | [], xs, h => by simp at h; subst h; simp [VRs]
  | y :: l, xs, h => by
    simp only [List.mapM_cons, Option.bind_eq_bind, Option.bind_eq_some_iff, Option.pure_def, Option.some.injEq] at h
    obtain ⟨x, h1, xs', h2, rfl⟩ := h
    simp only [VRs]
    exact ⟨_, _, rfl, cCell_VR h1, cCells_VR l xs' h2⟩
theorem cAV_VR {β : Bet} {v : Value} {x : AV} (h : cAV v = some x) : VR β x v := by
  unfold cAV at h
  split at h
  · simp only [Option.map_eq_some_iff] at h
    obtain ⟨xs, h1, rfl⟩ := h
    simp only [VR]
    exact ⟨_, rfl, cCells_VR _ _ h1⟩
  · simp only [Option.map_eq_some_iff] at h
    obtain ⟨xs, h1, rfl⟩ := h
    simp only [VR]
    exact ⟨_, rfl, cCells_VR _ _ h1⟩
  · exact cCell_VR h
end Go.Proofs.YtfoahdpnalbbgaaGreatDoor.Ev
