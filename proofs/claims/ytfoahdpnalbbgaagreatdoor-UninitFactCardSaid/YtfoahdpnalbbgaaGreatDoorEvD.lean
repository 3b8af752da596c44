/- What the primitive steps on the heap keep. -/
import Derived.Test.YtfoahdpnalbbgaaGreatDoorEvC
import Derived.Test.YtfoahdpnalbbgaaGreatDoorEvP
set_option linter.unusedVariables false
namespace Go.Proofs.YtfoahdpnalbbgaaGreatDoor.Ev
open Go

def upd (β : Bet) (n : Nat) (L : Loc) : Bet := fun id => if id = n then some L else β id
theorem upd_same (β : Bet) (n : Nat) (L : Loc) : upd β n L n = some L := by simp [upd]
theorem upd_other {β : Bet} {n : Nat} {L : Loc} {id : Nat} (h : id ≠ n) : upd β n L id = β id := by simp [upd, h]
theorem upd_sub {β : Bet} {n : Nat} (L : Loc) (h : β n = none) : Sub β (upd β n L) := fun id M e => by
  by_cases x : id = n
  · subst x; rw [h] at e; cases e
  · rw [upd_other x]; exact e

/-- a new block -/
theorem post_alloc {f n : Nat} {β : Bet} {g g' : View} {w w' : World} {b : AB} {L : Loc} (h : HR β g w) (hn : β n = none)
    (hblk : L.blk = w.heap.size) (hw : ∀ B, B < w.heap.size → w'.heap[B]? = w.heap[B]?) (hs : w'.heap.size = w.heap.size + 1) (hos : w'.os = w.os) (htp : w'.tape = w.tape) (hout : w'.output = w.output)
    (hb : BR (upd β n L) L w' b) (hg : ∀ id d, g' id = some d → (id = n ∧ d = b) ∨ (id ≠ n ∧ g id = some d)) :
    Post f n (n + 1) β g w (upd β n L) g' w' := by
  refine ⟨by omega, upd_sub L hn, fun id M h1 h2 => ?_, ⟨fun id d e => ?_, fun i j d e M N h1 h2 h3 h4 h5 => ?_⟩, hos, htp, hout, by omega, fun B hB _ => hw B hB, fun id M h1 h2 => ?_, fun id d e => ?_⟩
  · by_cases x : id = n
    · omega
    · rw [upd_other x, h2] at h1; cases h1
  · rcases hg id d e with ⟨rfl, rfl⟩ | ⟨x, e⟩
    · exact ⟨L, upd_same _ _ _, by omega, hb⟩
    · obtain ⟨M, h1, h2, h3⟩ := h.at_ id d e
      exact ⟨M, by rw [upd_other x]; exact h1, by omega, h3.mono (upd_sub L hn) (hw _ h2)⟩
  · have old : ∀ i d M, i ≠ n → g i = some d → upd β n L i = some M → M.blk < w.heap.size := fun i d M x e1 e2 => by
      rw [upd_other x] at e2
      obtain ⟨M', h1, h2, _⟩ := h.at_ i d e1
      rw [h1] at e2; cases e2; exact h2
    rcases hg i d h1 with ⟨rfl, rfl⟩ | ⟨x, e1⟩ <;> rcases hg j e h2 with ⟨rfl, rfl⟩ | ⟨y, e2⟩
    · rfl
    · have := old j e N y e2 h4
      rw [upd_same] at h3; cases h3; omega
    · have := old i d M x e1 h3
      rw [upd_same] at h4; cases h4; omega
    · rw [upd_other x] at h3; rw [upd_other y] at h4
      exact h.inj i j d e M N e1 e2 h3 h4 h5
  · by_cases x : id = n
    · subst x; rw [upd_same] at h1; cases h1; exact Or.inl (by omega)
    · rw [upd_other x, h2] at h1; cases h1
  · rcases hg id d e with ⟨rfl, rfl⟩ | ⟨_, e⟩
    · exact Or.inr hn
    · exact Or.inl ⟨d, e⟩

/-- a block that is written -/
theorem post_write {f n id : Nat} {β : Bet} {g g' : View} {w w' : World} {b0 b : AB} {L : Loc} (h : HR β g w) (h0 : g id = some b0) (hL : β id = some L) (hf : f ≤ id)
    (hw : ∀ B, B ≠ L.blk → w'.heap[B]? = w.heap[B]?) (hs : w'.heap.size = w.heap.size) (hos : w'.os = w.os) (htp : w'.tape = w.tape) (hout : w'.output = w.output)
    (hb : BR β L w' b) (hg : ∀ j d, g' j = some d → (j = id ∧ d = b) ∨ (j ≠ id ∧ g j = some d)) :
    Post f n n β g w β g' w' := by
  obtain ⟨L', hL', hlt, _⟩ := h.at_ id b0 h0
  rw [hL] at hL'; cases hL'
  refine ⟨Nat.le_refl _, Sub.refl _, fun i M h1 h2 => by (rw [h2] at h1; cases h1), ⟨fun j d e => ?_, fun i j d e M N h1 h2 h3 h4 h5 => ?_⟩, hos, htp, hout, by omega, fun B hB hh => hw B fun e => hh id b0 L hf h0 hL e.symm, fun i M h1 h2 => by (rw [h2] at h1; cases h1), fun j d e => ?_⟩
  · rcases hg j d e with ⟨rfl, rfl⟩ | ⟨x, e⟩
    · exact ⟨L, hL, by omega, hb⟩
    · obtain ⟨M, h1, h2, h3⟩ := h.at_ j d e
      refine ⟨M, h1, by omega, h3.mono (Sub.refl _) (hw _ fun e2 => x (h.inj j id d b0 M L e h0 h1 hL e2))⟩
  · have lft : ∀ i d, g' i = some d → ∃ d', g i = some d' := fun i d e => by
      rcases hg i d e with ⟨rfl, rfl⟩ | ⟨_, e⟩
      · exact ⟨b0, h0⟩
      · exact ⟨d, e⟩
    obtain ⟨d', e1⟩ := lft i d h1
    obtain ⟨e', e2⟩ := lft j e h2
    exact h.inj i j d' e' M N e1 e2 h3 h4 h5
  · rcases hg j d e with ⟨rfl, rfl⟩ | ⟨_, e⟩
    · exact Or.inl ⟨b0, h0⟩
    · exact Or.inl ⟨d, e⟩

/-- a block that moves: the old name dies, a new name is given to the same place -/
theorem post_move {f n id : Nat} {β : Bet} {g g' : View} {w w' : World} {b0 b : AB} {L M : Loc} (h : HR β g w) (h0 : g id = some b0) (hL : β id = some L) (hf : f ≤ id) (hn : β n = none)
    (hM : M.blk = L.blk) (hw : ∀ B, B ≠ L.blk → w'.heap[B]? = w.heap[B]?) (hs : w'.heap.size = w.heap.size) (hos : w'.os = w.os) (htp : w'.tape = w.tape) (hout : w'.output = w.output)
    (hb : BR (upd β n M) M w' b) (hg : ∀ j d, g' j = some d → (j = n ∧ d = b) ∨ (j ≠ n ∧ j ≠ id ∧ g j = some d)) :
    Post f n (n + 1) β g w (upd β n M) g' w' := by
  obtain ⟨L', hL', hlt, _⟩ := h.at_ id b0 h0
  rw [hL] at hL'; cases hL'
  refine ⟨by omega, upd_sub M hn, fun i N h1 h2 => ?_, ⟨fun j d e => ?_, fun i j d e N N' h1 h2 h3 h4 h5 => ?_⟩, hos, htp, hout, by omega, fun B hB hh => hw B fun e => hh id b0 L hf h0 hL e.symm, fun i N h1 h2 => ?_, fun j d e => ?_⟩
  · by_cases x : i = n
    · omega
    · rw [upd_other x, h2] at h1; cases h1
  · rcases hg j d e with ⟨rfl, rfl⟩ | ⟨x, y, e⟩
    · exact ⟨M, upd_same _ _ _, by omega, hb⟩
    · obtain ⟨N, h1, h2, h3⟩ := h.at_ j d e
      exact ⟨N, by rw [upd_other x]; exact h1, by omega, h3.mono (upd_sub M hn) (hw _ fun e2 => y (h.inj j id d b0 N L e h0 h1 hL e2))⟩
  · have oth : ∀ i d N, i ≠ n → i ≠ id → g i = some d → upd β n M i = some N → N.blk ≠ M.blk := fun i d N x y e1 e2 e3 => by
      rw [upd_other x] at e2
      exact y (h.inj i id d b0 N L e1 h0 e2 hL (e3.trans hM))
    rcases hg i d h1 with ⟨rfl, rfl⟩ | ⟨x, x', e1⟩ <;> rcases hg j e h2 with ⟨rfl, rfl⟩ | ⟨y, y', e2⟩
    · rfl
    · rw [upd_same] at h3; cases h3; exact absurd h5.symm (oth j e N' y y' e2 h4)
    · rw [upd_same] at h4; cases h4; exact absurd h5 (oth i d N x x' e1 h3)
    · rw [upd_other x] at h3; rw [upd_other y] at h4
      exact h.inj i j d e N N' e1 e2 h3 h4 h5
  · by_cases x : i = n
    · subst x; rw [upd_same] at h1; cases h1; exact Or.inr ⟨id, b0, L, hf, h0, hL, hM.symm⟩
    · rw [upd_other x, h2] at h1; cases h1
  · rcases hg j d e with ⟨rfl, rfl⟩ | ⟨_, _, e⟩
    · exact Or.inr hn
    · exact Or.inl ⟨d, e⟩
/-- the world may draw -/
theorem Post.drew {f n n' : Nat} {β β' : Bet} {g g' : View} {w w' : World} {k : Nat} (h : Post f n n' β g { w with drawn := k } β' g' w') : Post f n n' β g w β' g' w' :=
  ⟨h.le, h.sub, h.fresh, h.hr, h.os, h.tape, h.output, h.size, h.frame, h.news, h.old⟩
theorem HR.drew {β : Bet} {g : View} {w : World} (h : HR β g w) (k : Nat) : HR β g { w with drawn := k } :=
  ⟨fun id b e => by
    obtain ⟨L, h1, h2, h3⟩ := h.at_ id b e
    exact ⟨L, h1, h2, h3.mono (Sub.refl _) rfl⟩, h.inj⟩

/-! the evaluator's primitives -/
structure WF (h : H) : Prop where
  top : ∀ id, h.n ≤ id → Tr.get h.t id = none
  small : h.n ≤ 10000000
structure Step (c : C) (h h' : H) : Prop where
  le : h.n ≤ h'.n
  wf : WF h'
  touch : ∀ id, id < h.n → Tr.get h'.t id = Tr.get h.t id ∨ (c.floor ≤ id ∧ seen c.vis id = true)
theorem Step.refl {c : C} {h : H} (hw : WF h) : Step c h h := ⟨Nat.le_refl _, hw, fun _ _ => Or.inl rfl⟩
theorem Step.trans {c : C} {h h1 h2 : H} (a : Step c h h1) (b : Step c h1 h2) : Step c h h2 :=
  ⟨Nat.le_trans a.le b.le, b.wf, fun id hid => by
    rcases b.touch id (Nat.lt_of_lt_of_le hid a.le) with e | e
    · rcases a.touch id hid with e2 | e2
      · exact Or.inl (e.trans e2)
      · exact Or.inr e2
    · exact Or.inr e⟩
theorem lt_of_get {h : H} (hw : WF h) {id : Nat} {b : AB} (e : Tr.get h.t id = some b) : id < h.n := by
  rcases Nat.lt_or_ge id h.n with x | x
  · exact x
  · rw [hw.top id x] at e; cases e
theorem getB_get {c : C} {h : H} {id : Nat} {b : AB} (e : getB c h id = some b) : Tr.get h.t id = some b ∧ seen c.vis id = true := by
  unfold getB at e
  cases hs : seen c.vis id with
  | true => rw [hs] at e; exact ⟨e, rfl⟩
  | false => rw [hs] at e; cases e
theorem get_set40 {α : Type} (t : Tr α) (i j : Nat) (a : α) (h : i < 10000000) : Tr.get (Tr.set depth t i a) j = if i = j then some a else Tr.get t j :=
  Tr.get_set depth t i j a (by omega)
theorem newB_some {R : Type} {r : R} {h : H} {b : AB} {k : Nat → H → Option R} (e : newB h b k = some r) : h.n < 10000000 ∧ k h.n ⟨Tr.set depth h.t h.n b, h.n + 1⟩ = some r := by
  unfold newB at e
  cases hb : Nat.blt h.n 10000000 with
  | true =>
    rw [hb] at e
    simp only [cond, Tr.setK_eq, forceNat_eq] at e
    exact ⟨by simpa [Nat.blt_eq] using hb, e⟩
  | false => rw [hb] at e; cases e
theorem setB_some {R : Type} {r : R} {c : C} {h : H} {id : Nat} {b : AB} {k : H → Option R} (e : setB c h id b k = some r) : c.floor ≤ id ∧ seen c.vis id = true ∧ k ⟨Tr.set depth h.t id b, h.n⟩ = some r := by
  unfold setB at e
  cases hb : (Nat.ble c.floor id && seen c.vis id) with
  | true =>
    rw [hb] at e
    simp only [cond, Tr.setK_eq] at e
    rw [Bool.and_eq_true] at hb
    exact ⟨Nat.le_of_ble_eq_true hb.1, hb.2, e⟩
  | false => rw [hb] at e; cases e
theorem step_new {c : C} {h : H} {b : AB} (hw : WF h) (hn : h.n < 10000000) : Step c h ⟨Tr.set depth h.t h.n b, h.n + 1⟩ :=
  ⟨by simp, ⟨fun id hid => by rw [get_set40 _ _ _ _ hn, if_neg (by simp at hid; omega)]; exact hw.top id (by simp at hid; omega), by simp; omega⟩, fun id hid => Or.inl (by rw [get_set40 _ _ _ _ hn, if_neg (by omega)])⟩
theorem step_set {c : C} {h : H} {id : Nat} {b0 b : AB} (hw : WF h) (h0 : Tr.get h.t id = some b0) (hf : c.floor ≤ id) (hs : seen c.vis id = true) : Step c h ⟨Tr.set depth h.t id b, h.n⟩ := by
  have hlt := lt_of_get hw h0
  have hid : id < 10000000 := Nat.lt_of_lt_of_le hlt hw.small
  refine ⟨Nat.le_refl _, ⟨fun j hj => by rw [get_set40 _ _ _ _ hid, if_neg (by simp at hj; omega)]; exact hw.top j hj, hw.small⟩, fun j hj => ?_⟩
  rw [get_set40 _ _ _ _ hid]
  by_cases e : id = j
  · subst e; exact Or.inr ⟨hf, hs⟩
  · rw [if_neg e]; exact Or.inl rfl
theorem view_get {c : C} {h : H} {id : Nat} {b : AB} (e : view c h id = some b) : getB c h id = some b := by
  unfold view at e
  split at e
  · cases e
  · exact e
theorem view_live {c : C} {h : H} {id : Nat} {b : AB} (e : getB c h id = some b) (hb : b ≠ .dead) : view c h id = some b := by
  unfold view; rw [e]
  cases b <;> first | rfl | exact absurd rfl hb
theorem view_cells {c : C} {h : H} {id : Nat} {vs : List AV} (e : getB c h id = some (.cells vs)) : view c h id = some (.cells vs) := view_live e (fun q => by cases q)
theorem view_map {c : C} {h : H} {id : Nat} {es : List (AV × AV × Nat)} {k : Nat} (e : getB c h id = some (.map es k)) : view c h id = some (.map es k) := view_live e (fun q => by cases q)
theorem view_new {c : C} {h : H} {b d : AB} {id : Nat} (hn : h.n < 10000000) (e : view c ⟨Tr.set depth h.t h.n b, h.n + 1⟩ id = some d) : (id = h.n ∧ d = b) ∨ (id ≠ h.n ∧ view c h id = some d) := by
  have e1 := view_get e
  obtain ⟨e2, e3⟩ := getB_get e1
  rw [get_set40 _ _ _ _ hn] at e2
  by_cases x : h.n = id
  · rw [if_pos x] at e2; cases e2; exact Or.inl ⟨x.symm, rfl⟩
  · refine Or.inr ⟨Ne.symm x, ?_⟩
    have e4 : getB c h id = getB c ⟨Tr.set depth h.t h.n b, h.n + 1⟩ id := by unfold getB; simp only [get_set40 _ _ _ _ hn, if_neg x]
    unfold view at e ⊢
    rw [e4]; exact e
theorem view_set {c : C} {h : H} {b d : AB} {id j : Nat} (hid : id < 10000000) (e : view c ⟨Tr.set depth h.t id b, h.n⟩ j = some d) : (j = id ∧ d = b) ∨ (j ≠ id ∧ view c h j = some d) := by
  have e1 := view_get e
  obtain ⟨e2, e3⟩ := getB_get e1
  rw [get_set40 _ _ _ _ hid] at e2
  by_cases x : id = j
  · rw [if_pos x] at e2; cases e2; exact Or.inl ⟨x.symm, rfl⟩
  · refine Or.inr ⟨Ne.symm x, ?_⟩
    have e4 : getB c h j = getB c ⟨Tr.set depth h.t id b, h.n⟩ j := by unfold getB; simp only [get_set40 _ _ _ _ hid, if_neg x]
    unfold view at e ⊢
    rw [e4]; exact e
end Go.Proofs.YtfoahdpnalbbgaaGreatDoor.Ev
