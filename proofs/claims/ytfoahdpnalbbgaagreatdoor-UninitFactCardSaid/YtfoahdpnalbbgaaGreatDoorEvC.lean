/- The relation between abstract and concrete states. -/
import Derived.Test.YtfoahdpnalbbgaaGreatDoorEvB
import Derived.Below
set_option linter.unusedVariables false
namespace Go.Proofs.YtfoahdpnalbbgaaGreatDoor.Ev
open Go

structure Loc where
  blk : Nat
  base : Nat
  size : Nat
abbrev Bet := Nat → Option Loc
def Sub (β β' : Bet) : Prop := ∀ id L, β id = some L → β' id = some L
theorem Sub.refl (β : Bet) : Sub β β := fun _ _ h => h
theorem Sub.trans {β β' β'' : Bet} (h : Sub β β') (h' : Sub β' β'') : Sub β β'' := fun id L e => h' id L (h id L e)

/-- a package-level variable is its own block -/
def GB (ng : Nat) (β : Bet) : Prop := ∀ g, g < ng → ∃ s, β g = some ⟨g, 0, s⟩
theorem GB.mono {ng : Nat} {β β' : Bet} (h : GB ng β) (hs : Sub β β') : GB ng β' := fun g hg => by
  obtain ⟨s, e⟩ := h g hg
  exact ⟨s, hs _ _ e⟩

mutual
def VR (β : Bet) : AV → Value → Prop
  | .bool b, v => v = .bool b
  | .int k n, v => v = .int k n
  | .str s, v => ∃ b : ByteArray, v = .string b ∧ b.data.toList.map UInt8.toNat = s
  | .nilp, v => v = .pointer none
  | .ptr id off, v => ∃ L, β id = some L ∧ v = .pointer (some ⟨L.blk, L.base + off, none⟩)
  | .nils, v => v = .slice none 0 0
  | .sl id off len esz cap, v => ∃ L o cp, β id = some L ∧ v = .slice (some ⟨L.blk, o, none⟩) len cp ∧ len ≤ cp ∧ o + cp * esz ≤ L.size ∧ (o = L.base + off ∨ (len = 0 ∧ cp = 0)) ∧ (∀ c, cap = some c → cp = c)
  | .nilm, v => v = .map none
  | .mp id, v => ∃ L, β id = some L ∧ v = .map (some L.blk)
  | .nilf, v => v = .nilFunc
  | .fn f caps, v => ∃ cs, v = .func (.func f) #[] cs ∧ VRs β caps cs.toList
  | .nili, v => v = .nilIface
  | .iface t x, v => ∃ c, v = .iface t c ∧ VR β x c
  | .yld id, v => ∃ L, β id = some L ∧ v = .func (.yield L.blk) #[] #[]
  | .agg vs, v => ∃ cs, v = .agg cs ∧ VRs β vs cs.toList
  | .tup vs, v => ∃ cs, v = .tuple cs ∧ VRs β vs cs.toList
def VRs (β : Bet) : List AV → List Value → Prop
  | [], cs => cs = []
  | v :: vs, cs => ∃ c cs', cs = c :: cs' ∧ VR β v c ∧ VRs β vs cs'
end
mutual
theorem VR.mono {β β' : Bet} (h : Sub β β') : ∀ (v : AV) (c : Value), VR β v c → VR β' v c
  | .bool b, v, e => by simpa [VR] using e
  | .int k n, v, e => by simpa [VR] using e
  | .str s, v, e => by simpa [VR] using e
  | .nilp, v, e => by simpa [VR] using e
  | .ptr id off, v, e => by
    simp only [VR] at e ⊢
    obtain ⟨L, h1, h2⟩ := e
    exact ⟨L, h _ _ h1, h2⟩
  | .nils, v, e => by simpa [VR] using e
  | .sl id off len esz cap, v, e => by
    simp only [VR] at e ⊢
    obtain ⟨L, o, cp, h1, h2⟩ := e
    exact ⟨L, o, cp, h _ _ h1, h2⟩
  | .nilm, v, e => by simpa [VR] using e
  | .mp id, v, e => by
    simp only [VR] at e ⊢
    obtain ⟨L, h1, h2⟩ := e
    exact ⟨L, h _ _ h1, h2⟩
  | .nilf, v, e => by simpa [VR] using e
  | .fn f caps, v, e => by
    simp only [VR] at e ⊢
    obtain ⟨cs, h1, h2⟩ := e
    exact ⟨cs, h1, VRs.mono h _ _ h2⟩
  | .nili, v, e => by simpa [VR] using e
  | .iface t x, v, e => by
    simp only [VR] at e ⊢
    obtain ⟨c, h1, h2⟩ := e
    exact ⟨c, h1, VR.mono h _ _ h2⟩
  | .yld id, v, e => by
    simp only [VR] at e ⊢
    obtain ⟨L, h1, h2⟩ := e
    exact ⟨L, h _ _ h1, h2⟩
  | .agg vs, v, e => by
    simp only [VR] at e ⊢
    obtain ⟨cs, h1, h2⟩ := e
    exact ⟨cs, h1, VRs.mono h _ _ h2⟩
  | .tup vs, v, e => by
    simp only [VR] at e ⊢
    obtain ⟨cs, h1, h2⟩ := e
    exact ⟨cs, h1, VRs.mono h _ _ h2⟩
theorem VRs.mono {β β' : Bet} (h : Sub β β') : ∀ (vs : List AV) (cs : List Value), VRs β vs cs → VRs β' vs cs
  | [], cs, e => by simpa [VRs] using e
  | v :: vs, cs, e => by
    simp only [VRs] at e ⊢
    obtain ⟨c, cs', h1, h2, h3⟩ := e
    exact ⟨c, cs', h1, VR.mono h _ _ h2, VRs.mono h _ _ h3⟩
end

/-! lists of related values -/
theorem VRs.length {β : Bet} : ∀ {vs : List AV} {cs : List Value}, VRs β vs cs → vs.length = cs.length
  | [], cs, h => by simp only [VRs] at h; simp [h]
  | v :: vs, cs, h => by
    simp only [VRs] at h
    obtain ⟨c, cs', rfl, _, h⟩ := h
    simp [VRs.length h]
theorem VRs.get {β : Bet} : ∀ {vs : List AV} {cs : List Value}, VRs β vs cs → ∀ {i : Nat} {v : AV}, vs[i]? = some v → ∃ c, cs[i]? = some c ∧ VR β v c
  | [], cs, h, i, v, e => by simp at e
  | v :: vs, cs, h, i, u, e => by
    simp only [VRs] at h
    obtain ⟨c, cs', rfl, h1, h2⟩ := h
    cases i with
    | zero => simp at e; subst e; exact ⟨c, by simp, h1⟩
    | succ i => simpa using VRs.get h2 (by simpa using e)
theorem VRs.of {β : Bet} : ∀ {vs : List AV} {cs : List Value}, vs.length = cs.length → (∀ (i : Nat) (v : AV) (c : Value), vs[i]? = some v → cs[i]? = some c → VR β v c) → VRs β vs cs
  | [], [], _, _ => by simp [VRs]
  | [], _ :: _, h, _ => by simp at h
  | _ :: _, [], h, _ => by simp at h
  | v :: vs, c :: cs, h, hh => by
    simp only [VRs]
    exact ⟨c, cs, rfl, hh 0 v c (by simp) (by simp), VRs.of (by simpa using h) fun i v c h1 h2 => hh (i + 1) v c (by simpa using h1) (by simpa using h2)⟩
theorem VRs.append {β : Bet} {vs us : List AV} {cs ds : List Value} (h : VRs β vs cs) (h' : VRs β us ds) : VRs β (vs ++ us) (cs ++ ds) := by
  induction vs generalizing cs with
  | nil => simp only [VRs] at h; subst h; simpa using h'
  | cons v vs ih =>
    simp only [VRs] at h
    obtain ⟨c, cs', rfl, h1, h2⟩ := h
    simp only [List.cons_append, VRs]
    exact ⟨c, cs' ++ ds, rfl, h1, ih h2⟩
theorem VRs.take {β : Bet} {vs : List AV} {cs : List Value} (h : VRs β vs cs) (n : Nat) : VRs β (vs.take n) (cs.take n) :=
  VRs.of (by simp [h.length]) fun i v c h1 h2 => by
    have e1 : i < n := by
      rcases Nat.lt_or_ge i n with e | e
      · exact e
      · rw [List.getElem?_eq_none (by simp; omega)] at h1; cases h1
    rw [List.getElem?_take_of_lt e1] at h1 h2
    obtain ⟨c', h3, h4⟩ := h.get h1
    rw [h3] at h2; cases h2; exact h4
theorem VRs.drop {β : Bet} {vs : List AV} {cs : List Value} (h : VRs β vs cs) (n : Nat) : VRs β (vs.drop n) (cs.drop n) :=
  VRs.of (by simp [h.length]) fun i v c h1 h2 => by
    rw [List.getElem?_drop] at h1 h2
    obtain ⟨c', h3, h4⟩ := h.get h1
    rw [h3] at h2; cases h2; exact h4

/-! heaps -/
abbrev View := Nat → Option AB
/-- the live blocks that a context sees -/
def view (c : C) (h : H) : View := fun id => match getB c h id with
  | some .dead => none
  | b => b
def ER (β : Bet) : List (AV × AV × Nat) → List MapEntry → Prop
  | [], es => es = []
  | x :: xs, es => ∃ e es', es = e :: es' ∧ VR β x.1 e.key ∧ VR β x.2.1 e.val ∧ e.born = x.2.2 ∧ ER β xs es'
theorem ER.mono {β β' : Bet} (h : Sub β β') : ∀ {xs : List (AV × AV × Nat)} {es : List MapEntry}, ER β xs es → ER β' xs es
  | [], es, e => e
  | x :: xs, es, ⟨e, es', h1, h2, h3, h4, h5⟩ => ⟨e, es', h1, VR.mono h _ _ h2, VR.mono h _ _ h3, h4, h5.mono h⟩
def stOf : Nat → LoopState
  | 0 => .ready
  | 1 => .done
  | 2 => .busy
  | _ => .exhausted
def exCode : Ex → Code
  | .normal => .skip
  | .exit id => .exit id
  | .ret => .ret
def BR (β : Bet) (L : Loc) (w : World) : AB → Prop
  | .cells vs => ∃ cur e, w.heap[L.blk]? = some (.cells cur e (0, 0)) ∧ cur.size = L.size ∧ ∀ (i : Nat) (v : AV), vs[i]? = some v → ∃ c, cur[L.base + i]? = some c ∧ VR β v c
  | .map es clock => ∃ ces, w.heap[L.blk]? = some (.map ces clock) ∧ ER β es ces.toList
  | .iter m since seen last => ∃ om, w.heap[L.blk]? = some (.mapIter om since seen.toArray last) ∧ L.base = 0 ∧ (m = none → om = none) ∧ ∀ i, m = some i → ∃ M, β i = some M ∧ om = some M.blk
  | .defd => w.heap[L.blk]? = some (.deferred (some []))
  | .loop st pend nt sl ps assign body d => ∃ r, w.heap[L.blk]? = some (.loop r) ∧ r.state = stOf st ∧ r.pending = pend.map exCode ∧ r.tmps.size = nt ∧ (∀ t, VR β (slot sl t) (r.tmps.getD t undef)) ∧ r.params.toList = ps ∧ r.assign = assign ∧ r.body = body ∧ ∃ D, β d = some D ∧ r.defers = D.blk
  | .dead => True
theorem BR.mono {β β' : Bet} (h : Sub β β') {L : Loc} {w w' : World} {b : AB} (hb : BR β L w b) (hw : w'.heap[L.blk]? = w.heap[L.blk]?) : BR β' L w' b := by
  cases b with
  | cells vs =>
    obtain ⟨cur, e, h1, h2, h3⟩ := hb
    exact ⟨cur, e, hw.trans h1, h2, fun i v hi => by obtain ⟨c, h4, h5⟩ := h3 i v hi; exact ⟨c, h4, VR.mono h _ _ h5⟩⟩
  | map es clock =>
    obtain ⟨ces, h1, h2⟩ := hb
    exact ⟨ces, hw.trans h1, h2.mono h⟩
  | iter m since seen last =>
    obtain ⟨om, h1, h2, h3, h4⟩ := hb
    exact ⟨om, hw.trans h1, h2, h3, fun i hi => by obtain ⟨M, a, b⟩ := h4 i hi; exact ⟨M, h _ _ a, b⟩⟩
  | defd => exact hw.trans hb
  | loop st pend nt sl ps assign body d =>
    obtain ⟨r, h1, h2, h3, h4, h5, h6, h7, h8, D, h9, h10⟩ := hb
    exact ⟨r, hw.trans h1, h2, h3, h4, fun t => VR.mono h _ _ (h5 t), h6, h7, h8, D, h _ _ h9, h10⟩
  | dead => trivial
/-- every live block has its place, no two the same -/
structure HR (β : Bet) (g : View) (w : World) : Prop where
  at_ : ∀ id b, g id = some b → ∃ L, β id = some L ∧ L.blk < w.heap.size ∧ BR β L w b
  inj : ∀ i j b d L M, g i = some b → g j = some d → β i = some L → β j = some M → L.blk = M.blk → i = j
theorem HR.sub {β : Bet} {g g' : View} {w : World} (h : HR β g w) (hs : ∀ id b, g' id = some b → g id = some b) : HR β g' w :=
  ⟨fun id b e => h.at_ id b (hs id b e), fun i j b d L M e1 e2 => h.inj i j b d L M (hs _ _ e1) (hs _ _ e2)⟩

/-- what a run from (β, g, w) to (β', g', w') keeps; f: the floor; n, n': the counter -/
structure Post (f n n' : Nat) (β : Bet) (g : View) (w : World) (β' : Bet) (g' : View) (w' : World) : Prop where
  le : n ≤ n'
  sub : Sub β β'
  fresh : ∀ id L, β' id = some L → β id = none → n ≤ id ∧ id < n'
  hr : HR β' g' w'
  os : w'.os = w.os
  tape : w'.tape = w.tape
  output : w'.output = w.output
  size : w.heap.size ≤ w'.heap.size
  frame : ∀ B, B < w.heap.size → (∀ id b L, f ≤ id → g id = some b → β id = some L → L.blk ≠ B) → w'.heap[B]? = w.heap[B]?
  news : ∀ id L, β' id = some L → β id = none → w.heap.size ≤ L.blk ∨ ∃ i b M, f ≤ i ∧ g i = some b ∧ β i = some M ∧ M.blk = L.blk
  old : ∀ id b, g' id = some b → (∃ d, g id = some d) ∨ β id = none
theorem Post.refl {f n : Nat} {β : Bet} {g : View} {w : World} (h : HR β g w) : Post f n n β g w β g w :=
  ⟨Nat.le_refl _, Sub.refl _, fun id L h1 h2 => by (rw [h2] at h1; cases h1), h, rfl, rfl, rfl, Nat.le_refl _, fun _ _ _ => rfl, fun id L h1 h2 => by (rw [h2] at h1; cases h1), fun id b h => Or.inl ⟨b, h⟩⟩
theorem Post.trans {f n n1 n2 : Nat} {β β1 β2 : Bet} {g g1 g2 : View} {w w1 w2 : World} (h : Post f n n1 β g w β1 g1 w1) (h' : Post f n1 n2 β1 g1 w1 β2 g2 w2) :
    Post f n n2 β g w β2 g2 w2 := by
  have back : ∀ id b L, f ≤ id → g1 id = some b → β1 id = some L → w.heap.size ≤ L.blk ∨ ∃ i d M, f ≤ i ∧ g i = some d ∧ β i = some M ∧ M.blk = L.blk := by
    intro id b L hid h1 h2
    cases hb : β id with
    | some M =>
      have : M = L := by have := h.sub id M hb; rw [this] at h2; cases h2; rfl
      subst this
      rcases h.old id b h1 with ⟨d, hd⟩ | hn
      · exact Or.inr ⟨id, d, M, hid, hd, hb, rfl⟩
      · rw [hn] at hb; cases hb
    | none => exact h.news id L h2 hb
  refine ⟨Nat.le_trans h.le h'.le, h.sub.trans h'.sub, ?_, h'.hr, h'.os.trans h.os, h'.tape.trans h.tape, h'.output.trans h.output, Nat.le_trans h.size h'.size, ?_, ?_, ?_⟩
  · intro id L h1 h2
    cases hb : β1 id with
    | some M => have := h.fresh id M hb h2; have := h'.le; omega
    | none => have := h'.fresh id L h1 hb; have := h.le; omega
  · intro B hB hf
    refine (h'.frame B (Nat.lt_of_lt_of_le hB h.size) fun id b L hid h1 h2 e => ?_).trans (h.frame B hB hf)
    rcases back id b L hid h1 h2 with hk | ⟨i, d, M, hi, hd, hM, e2⟩
    · omega
    · exact hf i d M hi hd hM (e2.trans e)
  · intro id L h1 h2
    cases hb : β1 id with
    | some M =>
      have : M = L := by have := h'.sub id M hb; rw [this] at h1; cases h1; rfl
      subst this
      exact h.news id M hb h2
    | none =>
      rcases h'.news id L h1 hb with hk | ⟨i, b, M, hi, hg, hM, e⟩
      · exact Or.inl (Nat.le_trans h.size hk)
      · rcases back i b M hi hg hM with hk | ⟨j, d, M', hj, hd, hM', e2⟩
        · exact Or.inl (by omega)
        · exact Or.inr ⟨j, d, M', hj, hd, hM', e2.trans e⟩
  · intro id b h1
    rcases h'.old id b h1 with ⟨d, hd⟩ | hn
    · exact h.old id d hd
    · cases hb : β id with
      | none => exact Or.inr rfl
      | some M => have := h.sub id M hb; rw [this] at hn; cases hn
end Go.Proofs.YtfoahdpnalbbgaaGreatDoor.Ev
