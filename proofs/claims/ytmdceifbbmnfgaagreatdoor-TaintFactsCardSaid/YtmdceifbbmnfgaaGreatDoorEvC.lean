/- The evaluator: what an abstract state says of a world; operations. -/
import Derived.Test.YtmdceifbbmnfgaaGreatDoorEvB
import Derived.Below
import Derived.Laws.Cells
import Derived.Laws.IdiomCopy
import Derived.ChangeKeysEq
import Derived.MapKept
import Derived.Deep.AppendSrc
set_option linter.unusedVariables false
set_option linter.unusedSimpArgs false
namespace Go.Proofs.YtmdceifbbmnfgaaGreatDoor.Ev
open Go
structure Loc where
 blk : Nat
 base : Nat
 size : Nat
 val : Value
def dv : Value := .nilFunc
abbrev Bet := Nat → Option Loc
def Sub (β β' : Bet) : Prop := ∀ id L, β id = some L → β' id = some L
theorem Sub.refl (β : Bet) : Sub β β := fun _ _ h => h
theorem Sub.trans {β β' β'' : Bet} (h : Sub β β') (h' : Sub β' β'') : Sub β β'' := fun id L e => h' id L (h id L e)
def GB (ng : Nat) (β : Bet) : Prop := ∀ g, g < ng → ∃ s, β g = some ⟨g, 0, s, dv⟩
theorem GB.mono {ng : Nat} {β β' : Bet} (h : GB ng β) (hs : Sub β β') : GB ng β' := fun g hg => by
 obtain ⟨s, e⟩ := h g hg
 exact ⟨s, hs _ _ e⟩
mutual
def VR (β : Bet) : AV → Value → Prop
 | .bool b, v => v = .bool b
 | .int k n, v => v = .int k n
 | .str s, v => ∃ b : ByteArray, v = .string b ∧ b.data.toList.map UInt8.toNat = s
 | .nilp, v => v = .pointer none
 | .ptr id off, v => ∃ L, β id = some L ∧ v = .pointer (some ⟨L.blk, L.base + off, none⟩)
 | .nils, v => v = .slice none 0 0
 | .sl id off len esz cap, v => ∃ L o cp, β id = some L ∧ v = .slice (some ⟨L.blk, o, none⟩) len cp ∧ len ≤ cp ∧ o + cp * esz ≤ L.size ∧ (o = L.base + off ∨ (len = 0 ∧ cp = 0)) ∧ (∀ c, cap = some c → cp = c)
 | .nilm, v => v = .map none
 | .mp id, v => ∃ L, β id = some L ∧ v = .map (some L.blk)
 | .nilf, v => v = .nilFunc
 | .fn f caps, v => ∃ cs, v = .func (.func f) #[] cs ∧ VRs β caps cs.toList
 | .fnb f first caps, v => ∃ fs cs, v = .func (.func f) fs cs ∧ VRs β first fs.toList ∧ VRs β caps cs.toList
 | .nili, v => v = .nilIface
 | .iface t x, v => ∃ c, v = .iface t c ∧ VR β x c
 | .yld id, v => ∃ L, β id = some L ∧ v = .func (.yield L.blk) #[] #[]
 | .agg vs, v => ∃ cs, v = .agg cs ∧ VRs β vs cs.toList
 | .tup vs, v => ∃ cs, v = .tuple cs ∧ VRs β vs cs.toList
 | .raw oa n cp, v => v = .slice oa n cp
 | .var id, v => ∃ L, β id = some L ∧ v = L.val ∧ v.cells = #[v]
 | .top, _ => True
def VRs (β : Bet) : List AV → List Value → Prop
 | [], cs => cs = []
 | v :: vs, cs => ∃ c cs', cs = c :: cs' ∧ VR β v c ∧ VRs β vs cs'
end
mutual
theorem VR.mono {β β' : Bet} (h : Sub β β') : ∀ (v : AV) (c : Value), VR β v c → VR β' v c
 | .bool b, v, e => by simpa [VR] using e
 | .int k n, v, e => by simpa [VR] using e
 | .str s, v, e => by simpa [VR] using e
 | .nilp, v, e => by simpa [VR] using e
 | .ptr id off, v, e => by
  simp only [VR] at e ⊢
  obtain ⟨L, h1, h2⟩ := e
  exact ⟨L, h _ _ h1, h2⟩
 | .nils, v, e => by simpa [VR] using e
 | .sl id off len esz cap, v, e => by
  simp only [VR] at e ⊢
  obtain ⟨L, o, cp, h1, h2⟩ := e
  exact ⟨L, o, cp, h _ _ h1, h2⟩
 | .nilm, v, e => by simpa [VR] using e
 | .mp id, v, e => by
  simp only [VR] at e ⊢
  obtain ⟨L, h1, h2⟩ := e
  exact ⟨L, h _ _ h1, h2⟩
 | .nilf, v, e => by simpa [VR] using e
 | .fn f caps, v, e => by
  simp only [VR] at e ⊢
  obtain ⟨cs, h1, h2⟩ := e
  exact ⟨cs, h1, VRs.mono h _ _ h2⟩
 | .fnb f first caps, v, e => by
  simp only [VR] at e ⊢
  obtain ⟨fs, cs, h1, h2, h3⟩ := e
  exact ⟨fs, cs, h1, VRs.mono h _ _ h2, VRs.mono h _ _ h3⟩
 | .nili, v, e => by simpa [VR] using e
 | .iface t x, v, e => by
  simp only [VR] at e ⊢
  obtain ⟨c, h1, h2⟩ := e
  exact ⟨c, h1, VR.mono h _ _ h2⟩
 | .yld id, v, e => by
  simp only [VR] at e ⊢
  obtain ⟨L, h1, h2⟩ := e
  exact ⟨L, h _ _ h1, h2⟩
 | .agg vs, v, e => by
  simp only [VR] at e ⊢
  obtain ⟨cs, h1, h2⟩ := e
  exact ⟨cs, h1, VRs.mono h _ _ h2⟩
 | .tup vs, v, e => by
  simp only [VR] at e ⊢
  obtain ⟨cs, h1, h2⟩ := e
  exact ⟨cs, h1, VRs.mono h _ _ h2⟩
 | .raw oa n cp, v, e => by simpa [VR] using e
 | .var id, v, e => by
  simp only [VR] at e ⊢
  obtain ⟨L, h1, h2⟩ := e
  exact ⟨L, h _ _ h1, h2⟩
 | .top, v, e => by simp [VR]
theorem VRs.mono {β β' : Bet} (h : Sub β β') : ∀ (vs : List AV) (cs : List Value), VRs β vs cs → VRs β' vs cs
 | [], cs, e => by simpa [VRs] using e
 | v :: vs, cs, e => by
  simp only [VRs] at e ⊢
  obtain ⟨c, cs', h1, h2, h3⟩ := e
  exact ⟨c, cs', h1, VR.mono h _ _ h2, VRs.mono h _ _ h3⟩
end
/-! lists of related values -/
theorem VRs.length {β : Bet} : ∀ {vs : List AV} {cs : List Value}, VRs β vs cs → vs.length = cs.length
 | [], cs, h => by simp only [VRs] at h; simp [h]
 | v :: vs, cs, h => by
  simp only [VRs] at h
  obtain ⟨c, cs', rfl, _, h⟩ := h
  simp [VRs.length h]
theorem VRs.get {β : Bet} : ∀ {vs : List AV} {cs : List Value}, VRs β vs cs → ∀ {i : Nat} {v : AV}, vs[i]? = some v → ∃ c, cs[i]? = some c ∧ VR β v c
 | [], cs, h, i, v, e => by simp at e
 | v :: vs, cs, h, i, u, e => by
  simp only [VRs] at h
  obtain ⟨c, cs', rfl, h1, h2⟩ := h
  cases i with
  | zero => simp at e; subst e; exact ⟨c, by simp, h1⟩
  | succ i => simpa using VRs.get h2 (by simpa using e)
theorem VRs.of {β : Bet} : ∀ {vs : List AV} {cs : List Value}, vs.length = cs.length → (∀ (i : Nat) (v : AV) (c : Value), vs[i]? = some v → cs[i]? = some c → VR β v c) → VRs β vs cs
 | [], [], _, _ => by simp [VRs]
 | [], _ :: _, h, _ => by simp at h
 | _ :: _, [], h, _ => by simp at h
 | v :: vs, c :: cs, h, hh => by
  simp only [VRs]
  exact ⟨c, cs, rfl, hh 0 v c (by simp) (by simp), VRs.of (by simpa using h) fun i v c h1 h2 => hh (i + 1) v c (by simpa using h1) (by simpa using h2)⟩
theorem VRs.append {β : Bet} {vs us : List AV} {cs ds : List Value} (h : VRs β vs cs) (h' : VRs β us ds) : VRs β (vs ++ us) (cs ++ ds) := by
 induction vs generalizing cs with
 | nil => simp only [VRs] at h; subst h; simpa using h'
 | cons v vs ih =>
  simp only [VRs] at h
  obtain ⟨c, cs', rfl, h1, h2⟩ := h
  simp only [List.cons_append, VRs]
  exact ⟨c, cs' ++ ds, rfl, h1, ih h2⟩
theorem VRs.take {β : Bet} {vs : List AV} {cs : List Value} (h : VRs β vs cs) (n : Nat) : VRs β (vs.take n) (cs.take n) :=
 VRs.of (by simp [h.length]) fun i v c h1 h2 => by
  have e1 : i < n := by
   rcases Nat.lt_or_ge i n with e | e
   ·exact e
   ·rw [List.getElem?_eq_none (by simp; omega)] at h1; cases h1
  rw [List.getElem?_take_of_lt e1] at h1 h2
  obtain ⟨c', h3, h4⟩ := h.get h1
  rw [h3] at h2; cases h2; exact h4
theorem VRs.drop {β : Bet} {vs : List AV} {cs : List Value} (h : VRs β vs cs) (n : Nat) : VRs β (vs.drop n) (cs.drop n) :=
 VRs.of (by simp [h.length]) fun i v c h1 h2 => by
  rw [List.getElem?_drop] at h1 h2
  obtain ⟨c', h3, h4⟩ := h.get h1
  rw [h3] at h2; cases h2; exact h4
/-! heaps -/
abbrev View := Nat → Option AB
def view (c : C) (h : H) : View := fun id => match getB c h id with
 | some .dead => none
 | b => b
def ER (β : Bet) : List (AV × AV × Nat) → List MapEntry → Prop
 | [], es => es = []
 | x :: xs, es => ∃ e es', es = e :: es' ∧ VR β x.1 e.key ∧ VR β x.2.1 e.val ∧ e.born = x.2.2 ∧ ER β xs es'
theorem ER.mono {β β' : Bet} (h : Sub β β') : ∀ {xs : List (AV × AV × Nat)} {es : List MapEntry}, ER β xs es → ER β' xs es
 | [], es, e => e
 | x :: xs, es, ⟨e, es', h1, h2, h3, h4, h5⟩ => ⟨e, es', h1, VR.mono h _ _ h2, VR.mono h _ _ h3, h4, h5.mono h⟩
def stOf : Nat → LoopState
 | 0 => .ready
 | 1 => .done
 | 2 => .busy
 | _ => .exhausted
def exCode : Ex → Code
 | .normal => .skip
 | .exit id => .exit id
 | .ret => .ret
structure Fz (cur : Array Value) (fz : Nat × Nat) (L : Loc) (k : Nat) : Prop where
 le : L.size ≤ cur.size
 fit : L.base + k ≤ L.size
 nf : ∀ i, L.base ≤ i → i < L.size → (decide (fz.1 ≤ i) && decide (i < fz.2)) = false
def encS (a : Array Nat) : Value := .agg (a.map fun n => .slice none n 0)
def bufOf (β : Bet) (n : Nat) : Option Nat → Value → Prop
 | none, v => v = .slice none 0 0 ∧ n = 0
 | some j, v => ∃ G, β j = some G ∧ v = .slice (some ⟨G.blk, 0, none⟩) n G.size ∧ n ≤ G.size ∧ G.size ≤ maxLen
theorem bufOf.mono {β β' : Bet} (h : Sub β β') {n : Nat} {j : Option Nat} {v : Value} (q : bufOf β n j v) : bufOf β' n j v := by
 cases j with
 | none => exact q
 | some j =>
  obtain ⟨G, h1, h2⟩ := q
  exact ⟨G, h _ _ h1, h2⟩
def BR (β : Bet) (L : Loc) (w : World) : AB → Prop
 | .cells vs => ∃ (cur : Array Value) (e : TypeId × (Nat × Nat)), w.heap[L.blk]? = some (.cells cur e.1 e.2) ∧ Fz cur e.2 L vs.length ∧ ∀ (i : Nat) (v : AV), vs[i]? = some v → ∃ c, cur[L.base + i]? = some c ∧ VR β v c
 | .map es clock => ∃ ces, w.heap[L.blk]? = some (.map ces clock) ∧ ER β es ces.toList
 | .iter m since seen last => ∃ om, w.heap[L.blk]? = some (.mapIter om since seen.toArray last) ∧ L.base = 0 ∧ (m = none → om = none) ∧ ∀ i, m = some i → ∃ M, β i = some M ∧ om = some M.blk
 | .iterL m since b stepped v => ∃ (M S : Loc) (seen : Array Nat), β m = some M ∧ β v = some S ∧ S.val = encS seen ∧ seen.back? = some b ∧ w.heap[L.blk]? = some (.mapIter (some M.blk) since seen stepped) ∧ L.base = 0
 | .bld T s j => ∃ p v, (p = .pointer none ∨ p = .pointer (some ⟨L.blk, 0, none⟩)) ∧ w.heap[L.blk]? = some (.cells #[p, v] T (0, 0)) ∧ bufOf β s.length j v ∧ L.base = 0
 | .byt e s => ∃ cur : Array Value, w.heap[L.blk]? = some (.cells cur e (0, 0)) ∧ cur.size = L.size ∧ L.base = 0 ∧ cur.toList.take s.length = s.map fun n => Value.int .u8 (Int.ofNat n)
 | .kbox m => ∃ M t, β m = some M ∧ w.heap[L.blk]? = some (.cells #[.map (some M.blk)] t (0, 0)) ∧ L.base = 0
 | .defd => w.heap[L.blk]? = some (.deferred (some []))
 | .loop st pend nt sl ps assign body d => ∃ r, w.heap[L.blk]? = some (.loop r) ∧ r.state = stOf st ∧ r.pending = pend.map exCode ∧ r.tmps.size = nt ∧ (∀ t, VR β (slot sl t) (r.tmps.getD t undef)) ∧ r.params.toList = ps ∧ r.assign = assign ∧ r.body = body ∧ ∃ D, β d = some D ∧ r.defers = D.blk
 | .dead => True
theorem BR.mono {β β' : Bet} (h : Sub β β') {L : Loc} {w w' : World} {b : AB} (hb : BR β L w b) (hw : w'.heap[L.blk]? = w.heap[L.blk]?) : BR β' L w' b := by
 cases b with
 | cells vs =>
  obtain ⟨cur, e, h1, h2, h3⟩ := hb
  exact ⟨cur, e, hw.trans h1, h2, fun i v hi => by obtain ⟨c, h4, h5⟩ := h3 i v hi; exact ⟨c, h4, VR.mono h _ _ h5⟩⟩
 | map es clock =>
  obtain ⟨ces, h1, h2⟩ := hb
  exact ⟨ces, hw.trans h1, h2.mono h⟩
 | iter m since seen last =>
  obtain ⟨om, h1, h2, h3, h4⟩ := hb
  exact ⟨om, hw.trans h1, h2, h3, fun i hi => by obtain ⟨M, a, b⟩ := h4 i hi; exact ⟨M, h _ _ a, b⟩⟩
 | iterL m since b stepped v =>
  obtain ⟨M, S, seen, h1, h2, h3, h4, h5, h6⟩ := hb
  exact ⟨M, S, seen, h _ _ h1, h _ _ h2, h3, h4, hw.trans h5, h6⟩
 | bld T s j =>
  obtain ⟨p, v, h1, h2, h3, h4⟩ := hb
  exact ⟨p, v, h1, hw.trans h2, h3.mono h, h4⟩
 | byt e s =>
  obtain ⟨cur, h1, h2⟩ := hb
  exact ⟨cur, hw.trans h1, h2⟩
 | kbox m =>
  obtain ⟨M, t, h1, h2, h3⟩ := hb
  exact ⟨M, t, h _ _ h1, hw.trans h2, h3⟩
 | defd => exact hw.trans hb
 | loop st pend nt sl ps assign body d =>
  obtain ⟨r, h1, h2, h3, h4, h5, h6, h7, h8, D, h9, h10⟩ := hb
  exact ⟨r, hw.trans h1, h2, h3, h4, fun t => VR.mono h _ _ (h5 t), h6, h7, h8, D, h _ _ h9, h10⟩
 | dead => trivial
structure HR (f : Nat) (β : Bet) (g : View) (w : World) : Prop where
 at_ : ∀ id b, g id = some b → ∃ L, β id = some L ∧ L.blk < w.heap.size ∧ BR β L w b
 inj : ∀ i j b d L M, g i = some b → g j = some d → β i = some L → β j = some M → L.blk = M.blk → i = j ∨ (i < f ∧ j < f)
theorem HR.up {f f' : Nat} {β : Bet} {g : View} {w : World} (h : HR f β g w) (hf : f ≤ f') : HR f' β g w :=
 ⟨h.at_, fun i j b d L M e1 e2 e3 e4 e5 => by rcases h.inj i j b d L M e1 e2 e3 e4 e5 with q | q; exact Or.inl q; exact Or.inr ⟨by omega, by omega⟩⟩
theorem HR.sub {f : Nat} {β : Bet} {g g' : View} {w : World} (h : HR f β g w) (hs : ∀ id b, g' id = some b → g id = some b) : HR f β g' w :=
 ⟨fun id b e => h.at_ id b (hs id b e), fun i j b d L M e1 e2 => h.inj i j b d L M (hs _ _ e1) (hs _ _ e2)⟩
structure Post (f n n' : Nat) (β : Bet) (g : View) (w : World) (β' : Bet) (g' : View) (w' : World) : Prop where
 le : n ≤ n'
 sub : Sub β β'
 fresh : ∀ id L, β' id = some L → β id = none → n ≤ id ∧ id < n'
 hr : HR f β' g' w'
 os : w'.os = w.os
 tape : w'.tape = w.tape
 output : w'.output = w.output
 size : w.heap.size ≤ w'.heap.size
 frame : ∀ B, B < w.heap.size → (∀ id b L, f ≤ id → g id = some b → β id = some L → L.blk ≠ B) → w'.heap[B]? = w.heap[B]?
 news : ∀ id L, β' id = some L → β id = none → w.heap.size ≤ L.blk ∨ ∃ i b M, f ≤ i ∧ g i = some b ∧ β i = some M ∧ M.blk = L.blk
 old : ∀ id b, g' id = some b → (∃ d, g id = some d) ∨ β id = none
theorem Post.refl {f n : Nat} {β : Bet} {g : View} {w : World} (h : HR f β g w) : Post f n n β g w β g w :=
 ⟨Nat.le_refl _, Sub.refl _, fun id L h1 h2 => by (rw [h2] at h1; cases h1), h, rfl, rfl, rfl, Nat.le_refl _, fun _ _ _ => rfl, fun id L h1 h2 => by (rw [h2] at h1; cases h1), fun id b h => Or.inl ⟨b, h⟩⟩
theorem Post.trans {f n n1 n2 : Nat} {β β1 β2 : Bet} {g g1 g2 : View} {w w1 w2 : World} (h : Post f n n1 β g w β1 g1 w1) (h' : Post f n1 n2 β1 g1 w1 β2 g2 w2) :
  Post f n n2 β g w β2 g2 w2 := by
 have back : ∀ id b L, f ≤ id → g1 id = some b → β1 id = some L → w.heap.size ≤ L.blk ∨ ∃ i d M, f ≤ i ∧ g i = some d ∧ β i = some M ∧ M.blk = L.blk := by
  intro id b L hid h1 h2
  cases hb : β id with
  | some M =>
   have : M = L := by have := h.sub id M hb; rw [this] at h2; cases h2; rfl
   subst this
   rcases h.old id b h1 with ⟨d, hd⟩ | hn
   ·exact Or.inr ⟨id, d, M, hid, hd, hb, rfl⟩
   ·rw [hn] at hb; cases hb
  | none => exact h.news id L h2 hb
 refine ⟨Nat.le_trans h.le h'.le, h.sub.trans h'.sub, ?_, h'.hr, h'.os.trans h.os, h'.tape.trans h.tape, h'.output.trans h.output, Nat.le_trans h.size h'.size, ?_, ?_, ?_⟩
 ·intro id L h1 h2
  cases hb : β1 id with
  | some M => have := h.fresh id M hb h2; have := h'.le; omega
  | none => have := h'.fresh id L h1 hb; have := h.le; omega
 ·intro B hB hf
  refine (h'.frame B (Nat.lt_of_lt_of_le hB h.size) fun id b L hid h1 h2 e => ?_).trans (h.frame B hB hf)
  rcases back id b L hid h1 h2 with hk | ⟨i, d, M, hi, hd, hM, e2⟩
  ·omega
  ·exact hf i d M hi hd hM (e2.trans e)
 ·intro id L h1 h2
  cases hb : β1 id with
  | some M =>
   have : M = L := by have := h'.sub id M hb; rw [this] at h1; cases h1; rfl
   subst this
   exact h.news id M hb h2
  | none =>
   rcases h'.news id L h1 hb with hk | ⟨i, b, M, hi, hg, hM, e⟩
   ·exact Or.inl (Nat.le_trans h.size hk)
   ·rcases back i b M hi hg hM with hk | ⟨j, d, M', hj, hd, hM', e2⟩
    ·exact Or.inl (by omega)
    ·exact Or.inr ⟨j, d, M', hj, hd, hM', e2.trans e⟩
 ·intro id b h1
  rcases h'.old id b h1 with ⟨d, hd⟩ | hn
  ·exact h.old id d hd
  ·cases hb : β id with
   | none => exact Or.inr rfl
   | some M => have := h.sub id M hb; rw [this] at hn; cases hn
def upd (β : Bet) (n : Nat) (L : Loc) : Bet := fun id => if id = n then some L else β id
theorem upd_same (β : Bet) (n : Nat) (L : Loc) : upd β n L n = some L := by simp [upd]
theorem upd_other {β : Bet} {n : Nat} {L : Loc} {id : Nat} (h : id ≠ n) : upd β n L id = β id := by simp [upd, h]
theorem upd_sub {β : Bet} {n : Nat} (L : Loc) (h : β n = none) : Sub β (upd β n L) := fun id M e => by
 by_cases x : id = n
 ·subst x; rw [h] at e; cases e
 ·rw [upd_other x]; exact e
theorem post_alloc {f n : Nat} {β : Bet} {g g' : View} {w w' : World} {b : AB} {L : Loc} (h : HR f β g w) (hn : β n = none)
  (hblk : L.blk = w.heap.size) (hw : ∀ B, B < w.heap.size → w'.heap[B]? = w.heap[B]?) (hs : w'.heap.size = w.heap.size + 1) (hos : w'.os = w.os) (htp : w'.tape = w.tape) (hout : w'.output = w.output)
  (hb : BR (upd β n L) L w' b) (hg : ∀ id d, g' id = some d → (id = n ∧ d = b) ∨ (id ≠ n ∧ g id = some d)) :
  Post f n (n + 1) β g w (upd β n L) g' w' := by
 refine ⟨by omega, upd_sub L hn, fun id M h1 h2 => ?_, ⟨fun id d e => ?_, fun i j d e M N h1 h2 h3 h4 h5 => ?_⟩, hos, htp, hout, by omega, fun B hB _ => hw B hB, fun id M h1 h2 => ?_, fun id d e => ?_⟩
 ·by_cases x : id = n
  ·omega
  ·rw [upd_other x, h2] at h1; cases h1
 ·rcases hg id d e with ⟨rfl, rfl⟩ | ⟨x, e⟩
  ·exact ⟨L, upd_same _ _ _, by omega, hb⟩
  ·obtain ⟨M, h1, h2, h3⟩ := h.at_ id d e
   exact ⟨M, by rw [upd_other x]; exact h1, by omega, h3.mono (upd_sub L hn) (hw _ h2)⟩
 ·have old : ∀ i d M, i ≠ n → g i = some d → upd β n L i = some M → M.blk < w.heap.size := fun i d M x e1 e2 => by
   rw [upd_other x] at e2
   obtain ⟨M', h1, h2, _⟩ := h.at_ i d e1
   rw [h1] at e2; cases e2; exact h2
  rcases hg i d h1 with ⟨rfl, rfl⟩ | ⟨x, e1⟩ <;> rcases hg j e h2 with ⟨rfl, rfl⟩ | ⟨y, e2⟩
  ·exact Or.inl rfl
  ·have := old j e N y e2 h4
   rw [upd_same] at h3; cases h3; omega
  ·have := old i d M x e1 h3
   rw [upd_same] at h4; cases h4; omega
  ·rw [upd_other x] at h3; rw [upd_other y] at h4
   exact h.inj i j d e M N e1 e2 h3 h4 h5
 ·by_cases x : id = n
  ·subst x; rw [upd_same] at h1; cases h1; exact Or.inl (by omega)
  ·rw [upd_other x, h2] at h1; cases h1
 ·rcases hg id d e with ⟨rfl, rfl⟩ | ⟨_, e⟩
  ·exact Or.inr hn
  ·exact Or.inl ⟨d, e⟩
theorem post_write {f n id : Nat} {β : Bet} {g g' : View} {w w' : World} {b0 b : AB} {L : Loc} (h : HR f β g w) (h0 : g id = some b0) (hL : β id = some L) (hf : f ≤ id)
  (hw : ∀ B, B ≠ L.blk → w'.heap[B]? = w.heap[B]?) (hs : w'.heap.size = w.heap.size) (hos : w'.os = w.os) (htp : w'.tape = w.tape) (hout : w'.output = w.output)
  (hb : BR β L w' b) (hg : ∀ j d, g' j = some d → (j = id ∧ d = b) ∨ (j ≠ id ∧ g j = some d)) :
  Post f n n β g w β g' w' := by
 obtain ⟨L', hL', hlt, _⟩ := h.at_ id b0 h0
 rw [hL] at hL'; cases hL'
 refine ⟨Nat.le_refl _, Sub.refl _, fun i M h1 h2 => by (rw [h2] at h1; cases h1), ⟨fun j d e => ?_, fun i j d e M N h1 h2 h3 h4 h5 => ?_⟩, hos, htp, hout, by omega, fun B hB hh => hw B fun e => hh id b0 L hf h0 hL e.symm, fun i M h1 h2 => by (rw [h2] at h1; cases h1), fun j d e => ?_⟩
 ·rcases hg j d e with ⟨rfl, rfl⟩ | ⟨x, e⟩
  ·exact ⟨L, hL, by omega, hb⟩
  ·obtain ⟨M, h1, h2, h3⟩ := h.at_ j d e
   refine ⟨M, h1, by omega, h3.mono (Sub.refl _) (hw _ fun e2 => x ((h.inj j id d b0 M L e h0 h1 hL e2).elim (fun q => q) fun q => by omega))⟩
 ·have lft : ∀ i d, g' i = some d → ∃ d', g i = some d' := fun i d e => by
   rcases hg i d e with ⟨rfl, rfl⟩ | ⟨_, e⟩
   ·exact ⟨b0, h0⟩
   ·exact ⟨d, e⟩
  obtain ⟨d', e1⟩ := lft i d h1
  obtain ⟨e', e2⟩ := lft j e h2
  exact h.inj i j d' e' M N e1 e2 h3 h4 h5
 ·rcases hg j d e with ⟨rfl, rfl⟩ | ⟨_, e⟩
  ·exact Or.inl ⟨b0, h0⟩
  ·exact Or.inl ⟨d, e⟩
theorem post_move {f n id : Nat} {β : Bet} {g g' : View} {w w' : World} {b0 b : AB} {L M : Loc} (h : HR f β g w) (h0 : g id = some b0) (hL : β id = some L) (hf : f ≤ id) (hn : β n = none)
  (hM : M.blk = L.blk) (hw : ∀ B, B ≠ L.blk → w'.heap[B]? = w.heap[B]?) (hs : w'.heap.size = w.heap.size) (hos : w'.os = w.os) (htp : w'.tape = w.tape) (hout : w'.output = w.output)
  (hb : BR (upd β n M) M w' b) (hg : ∀ j d, g' j = some d → (j = n ∧ d = b) ∨ (j ≠ n ∧ j ≠ id ∧ g j = some d)) :
  Post f n (n + 1) β g w (upd β n M) g' w' := by
 obtain ⟨L', hL', hlt, _⟩ := h.at_ id b0 h0
 rw [hL] at hL'; cases hL'
 refine ⟨by omega, upd_sub M hn, fun i N h1 h2 => ?_, ⟨fun j d e => ?_, fun i j d e N N' h1 h2 h3 h4 h5 => ?_⟩, hos, htp, hout, by omega, fun B hB hh => hw B fun e => hh id b0 L hf h0 hL e.symm, fun i N h1 h2 => ?_, fun j d e => ?_⟩
 ·by_cases x : i = n
  ·omega
  ·rw [upd_other x, h2] at h1; cases h1
 ·rcases hg j d e with ⟨rfl, rfl⟩ | ⟨x, y, e⟩
  ·exact ⟨M, upd_same _ _ _, by omega, hb⟩
  ·obtain ⟨N, h1, h2, h3⟩ := h.at_ j d e
   exact ⟨N, by rw [upd_other x]; exact h1, by omega, h3.mono (upd_sub M hn) (hw _ fun e2 => y ((h.inj j id d b0 N L e h0 h1 hL e2).elim (fun q => q) fun q => by omega))⟩
 ·have oth : ∀ i d N, i ≠ n → i ≠ id → g i = some d → upd β n M i = some N → N.blk ≠ M.blk := fun i d N x y e1 e2 e3 => by
   rw [upd_other x] at e2
   exact y ((h.inj i id d b0 N L e1 h0 e2 hL (e3.trans hM)).elim (fun q => q) fun q => by omega)
  rcases hg i d h1 with ⟨rfl, rfl⟩ | ⟨x, x', e1⟩ <;> rcases hg j e h2 with ⟨rfl, rfl⟩ | ⟨y, y', e2⟩
  ·exact Or.inl rfl
  ·rw [upd_same] at h3; cases h3; exact absurd h5.symm (oth j e N' y y' e2 h4)
  ·rw [upd_same] at h4; cases h4; exact absurd h5 (oth i d N x x' e1 h3)
  ·rw [upd_other x] at h3; rw [upd_other y] at h4
   exact h.inj i j d e N N' e1 e2 h3 h4 h5
 ·by_cases x : i = n
  ·subst x; rw [upd_same] at h1; cases h1; exact Or.inr ⟨id, b0, L, hf, h0, hL, hM.symm⟩
  ·rw [upd_other x, h2] at h1; cases h1
 ·rcases hg j d e with ⟨rfl, rfl⟩ | ⟨_, _, e⟩
  ·exact Or.inr hn
  ·exact Or.inl ⟨d, e⟩
theorem Post.drew {f n n' : Nat} {β β' : Bet} {g g' : View} {w w' : World} {k : Nat} (h : Post f n n' β g { w with drawn := k } β' g' w') : Post f n n' β g w β' g' w' :=
 ⟨h.le, h.sub, h.fresh, h.hr, h.os, h.tape, h.output, h.size, h.frame, h.news, h.old⟩
theorem HR.drew {f : Nat} {β : Bet} {g : View} {w : World} (h : HR f β g w) (k : Nat) : HR f β g { w with drawn := k } :=
 ⟨fun id b e => by
  obtain ⟨L, h1, h2, h3⟩ := h.at_ id b e
  exact ⟨L, h1, h2, h3.mono (Sub.refl _) rfl⟩, h.inj⟩
/-! the evaluator's primitives -/
structure WF (h : H) : Prop where
 top : ∀ id, h.n ≤ id → Tr.get h.t id = none
 small : h.n ≤ 10000000
structure Step (c : C) (h h' : H) : Prop where
 le : h.n ≤ h'.n
 wf : WF h'
 touch : ∀ id, id < h.n → Tr.get h'.t id = Tr.get h.t id ∨ (c.floor ≤ id ∧ seen c.vis id = true)
theorem Step.refl {c : C} {h : H} (hw : WF h) : Step c h h := ⟨Nat.le_refl _, hw, fun _ _ => Or.inl rfl⟩
theorem Step.trans {c : C} {h h1 h2 : H} (a : Step c h h1) (b : Step c h1 h2) : Step c h h2 :=
 ⟨Nat.le_trans a.le b.le, b.wf, fun id hid => by
  rcases b.touch id (Nat.lt_of_lt_of_le hid a.le) with e | e
  ·rcases a.touch id hid with e2 | e2
   ·exact Or.inl (e.trans e2)
   ·exact Or.inr e2
  ·exact Or.inr e⟩
theorem lt_of_get {h : H} (hw : WF h) {id : Nat} {b : AB} (e : Tr.get h.t id = some b) : id < h.n := by
 rcases Nat.lt_or_ge id h.n with x | x
 ·exact x
 ·rw [hw.top id x] at e; cases e
theorem getB_get {c : C} {h : H} {id : Nat} {b : AB} (e : getB c h id = some b) : Tr.get h.t id = some b ∧ seen c.vis id = true := by
 unfold getB at e
 cases hs : seen c.vis id with
 | true => rw [hs] at e; exact ⟨e, rfl⟩
 | false => rw [hs] at e; cases e
theorem get_set40 {α : Type} (t : Tr α) (i j : Nat) (a : α) (h : i < 10000000) : Tr.get (Tr.set depth t i a) j = if i = j then some a else Tr.get t j :=
 Tr.get_set depth t i j a (by omega)
theorem newB_some {R : Type} {r : R} {h : H} {b : AB} {k : Nat → H → Option R} (e : newB h b k = some r) : h.n < 10000000 ∧ k h.n ⟨Tr.set depth h.t h.n b, h.n + 1⟩ = some r := by
 unfold newB at e
 cases hb : Nat.blt h.n 10000000 with
 | true =>
  rw [hb] at e
  simp only [cond, Tr.setK_eq, forceNat_eq] at e
  exact ⟨by simpa [Nat.blt_eq] using hb, e⟩
 | false => rw [hb] at e; cases e
theorem setB_some {R : Type} {r : R} {c : C} {h : H} {id : Nat} {b : AB} {k : H → Option R} (e : setB c h id b k = some r) : c.floor ≤ id ∧ seen c.vis id = true ∧ k ⟨Tr.set depth h.t id b, h.n⟩ = some r := by
 unfold setB at e
 cases hb : (Nat.ble c.floor id && seen c.vis id) with
 | true =>
  rw [hb] at e
  simp only [cond, Tr.setK_eq] at e
  rw [Bool.and_eq_true] at hb
  exact ⟨Nat.le_of_ble_eq_true hb.1, hb.2, e⟩
 | false => rw [hb] at e; cases e
theorem step_new {c : C} {h : H} {b : AB} (hw : WF h) (hn : h.n < 10000000) : Step c h ⟨Tr.set depth h.t h.n b, h.n + 1⟩ :=
 ⟨by simp, ⟨fun id hid => by rw [get_set40 _ _ _ _ hn, if_neg (by simp at hid; omega)]; exact hw.top id (by simp at hid; omega), by simp; omega⟩, fun id hid => Or.inl (by rw [get_set40 _ _ _ _ hn, if_neg (by omega)])⟩
theorem step_set {c : C} {h : H} {id : Nat} {b0 b : AB} (hw : WF h) (h0 : Tr.get h.t id = some b0) (hf : c.floor ≤ id) (hs : seen c.vis id = true) : Step c h ⟨Tr.set depth h.t id b, h.n⟩ := by
 have hlt := lt_of_get hw h0
 have hid : id < 10000000 := Nat.lt_of_lt_of_le hlt hw.small
 refine ⟨Nat.le_refl _, ⟨fun j hj => by rw [get_set40 _ _ _ _ hid, if_neg (by simp at hj; omega)]; exact hw.top j hj, hw.small⟩, fun j hj => ?_⟩
 rw [get_set40 _ _ _ _ hid]
 by_cases e : id = j
 ·subst e; exact Or.inr ⟨hf, hs⟩
 ·rw [if_neg e]; exact Or.inl rfl
theorem view_get {c : C} {h : H} {id : Nat} {b : AB} (e : view c h id = some b) : getB c h id = some b := by
 unfold view at e
 split at e
 ·cases e
 ·exact e
theorem view_live {c : C} {h : H} {id : Nat} {b : AB} (e : getB c h id = some b) (hb : b ≠ .dead) : view c h id = some b := by
 unfold view; rw [e]
 cases b <;> first | rfl | exact absurd rfl hb
theorem view_cells {c : C} {h : H} {id : Nat} {vs : List AV} (e : getB c h id = some (.cells vs)) : view c h id = some (.cells vs) := view_live e (fun q => by cases q)
theorem view_map {c : C} {h : H} {id : Nat} {es : List (AV × AV × Nat)} {k : Nat} (e : getB c h id = some (.map es k)) : view c h id = some (.map es k) := view_live e (fun q => by cases q)
theorem view_new {c : C} {h : H} {b d : AB} {id : Nat} (hn : h.n < 10000000) (e : view c ⟨Tr.set depth h.t h.n b, h.n + 1⟩ id = some d) : (id = h.n ∧ d = b) ∨ (id ≠ h.n ∧ view c h id = some d) := by
 have e1 := view_get e
 obtain ⟨e2, e3⟩ := getB_get e1
 rw [get_set40 _ _ _ _ hn] at e2
 by_cases x : h.n = id
 ·rw [if_pos x] at e2; cases e2; exact Or.inl ⟨x.symm, rfl⟩
 ·refine Or.inr ⟨Ne.symm x, ?_⟩
  have e4 : getB c h id = getB c ⟨Tr.set depth h.t h.n b, h.n + 1⟩ id := by unfold getB; simp only [get_set40 _ _ _ _ hn, if_neg x]
  unfold view at e ⊢
  rw [e4]; exact e
theorem view_set {c : C} {h : H} {b d : AB} {id j : Nat} (hid : id < 10000000) (e : view c ⟨Tr.set depth h.t id b, h.n⟩ j = some d) : (j = id ∧ d = b) ∨ (j ≠ id ∧ view c h j = some d) := by
 have e1 := view_get e
 obtain ⟨e2, e3⟩ := getB_get e1
 rw [get_set40 _ _ _ _ hid] at e2
 by_cases x : id = j
 ·rw [if_pos x] at e2; cases e2; exact Or.inl ⟨x.symm, rfl⟩
 ·refine Or.inr ⟨Ne.symm x, ?_⟩
  have e4 : getB c h j = getB c ⟨Tr.set depth h.t id b, h.n⟩ j := by unfold getB; simp only [get_set40 _ _ _ _ hid, if_neg x]
  unfold view at e ⊢
  rw [e4]; exact e
def OpsR (β : Bet) (sl : Tr AV) (a : Act) (ys : List Operand) : Prop := ∀ y ∈ ys, ∀ x, cV y = some x → VR β (evV sl x) (a.eval y)
def Did (P : Program) (ng : Nat) (o : Oper) (c : C) (sl : Tr AV) (h : H) (v : AV) (h' : H) : Prop :=
 Step c h h' ∧ ∀ β a w, GB ng β → HR c.floor β (view c h) w → OpsR β sl a o.op.operands.toList → (∀ id, h.n ≤ id → id < h'.n → β id = none) → ∀ (K : Act → World → Prop) (Q : Exit → Act → World → Prop),
  (∀ β' val w', Post c.floor h.n h'.n β (view c h) w β' (view c h') w' → VR β' v val → K (a.put o.dst val) w') → Oper.wp P o a w K Q
section
variable {P : Program} {ng : Nat} {o : Oper} {c : C} {sl : Tr AV} {h : H}
theorem did_pure {v : AV} (hw : WF h) (hrun : ∀ β a w, HR c.floor β (view c h) w → OpsR β sl a o.op.operands.toList → ∃ val, (execOp a.eval o).run P w = .ok (.value val) w ∧ VR β v val) : Did P ng o c sl h v h := by
 refine ⟨Step.refl hw, fun β a w _ hr ho _ K Q hK => ?_⟩
 obtain ⟨val, h1, h2⟩ := hrun β a w hr ho
 unfold Oper.wp
 rw [h1]
 exact hK β val w (Post.refl hr) h2
theorem did_move {y : Operand} {x : XV} (ho : o.op = .move y ∨ o.op = .assign y) (hx : cV y = some x) (hw : WF h) : Did P ng o c sl h (evV sl x) h := by
 refine did_pure hw fun β a w hr hop => ⟨a.eval y, ?_, hop y ?_ x hx⟩
 ·rcases ho with ho | ho <;> simp [execOp, ho]
 ·rcases ho with ho | ho <;> simp [ho, Op.operands]
theorem did_pick {b y z : Operand} {xb xy xz : XV} {t : Bool} (ho : o.op = .pick b y z) (hb : cV b = some xb) (hy : cV y = some xy) (hz : cV z = some xz) (ht : evV sl xb = .bool t) (hw : WF h) : Did P ng o c sl h (if t then evV sl xy else evV sl xz) h := by
 refine did_pure hw fun β a w hr hop => ?_
 have h1 := hop b (by simp [ho, Op.operands]) xb hb
 have h2 := hop y (by simp [ho, Op.operands]) xy hy
 have h3 := hop z (by simp [ho, Op.operands]) xz hz
 rw [ht] at h1
 simp only [VR] at h1
 refine ⟨if t then a.eval y else a.eval z, ?_, ?_⟩
 ·simp [execOp, ho, h1, asBool]
 ·cases t
  ·exact h3
  ·exact h2
theorem okT_ne {v : AV} (h : okT v = true) : v ≠ .top := fun q => by rw [q] at h; cases h
theorem VR.cells {β : Bet} {v : AV} {u : Value} (h : VR β v u) (hv : v ≠ .top) : VRs β v.cells u.cells.toList := by
 cases v with
 | agg vs =>
  simp only [VR] at h
  obtain ⟨cs, rfl, h⟩ := h
  exact h
 | bool b => simp only [VR] at h; subst h; simp [AV.cells, Value.cells, VRs, VR]
 | int k n => simp only [VR] at h; subst h; simp [AV.cells, Value.cells, VRs, VR]
 | str s => 
  simp only [VR] at h
  obtain ⟨b, rfl, h⟩ := h
  simp [AV.cells, Value.cells, VRs, VR, h]
 | nilp => simp only [VR] at h; subst h; simp [AV.cells, Value.cells, VRs, VR]
 | ptr id off =>
  have h' := h
  simp only [VR] at h
  obtain ⟨L, _, rfl⟩ := h
  simp only [AV.cells, Value.cells, VRs]
  exact ⟨_, _, rfl, h', rfl⟩
 | nils => simp only [VR] at h; subst h; simp [AV.cells, Value.cells, VRs, VR]
 | sl id off len esz cap =>
  have h' := h
  simp only [VR] at h
  obtain ⟨L, o, cp, _, rfl, _⟩ := h
  simp only [AV.cells, Value.cells, VRs]
  exact ⟨_, _, rfl, h', rfl⟩
 | nilm => simp only [VR] at h; subst h; simp [AV.cells, Value.cells, VRs, VR]
 | mp id =>
  have h' := h
  simp only [VR] at h
  obtain ⟨L, _, rfl⟩ := h
  simp only [AV.cells, Value.cells, VRs]
  exact ⟨_, _, rfl, h', rfl⟩
 | nilf => simp only [VR] at h; subst h; simp [AV.cells, Value.cells, VRs, VR]
 | raw oa n cp => simp only [VR] at h; subst h; simp [AV.cells, Value.cells, VRs, VR]
 | fn f caps =>
  have h' := h
  simp only [VR] at h
  obtain ⟨cs, rfl, _⟩ := h
  simp only [AV.cells, Value.cells, VRs]
  exact ⟨_, _, rfl, h', rfl⟩
 | nili => simp only [VR] at h; subst h; simp [AV.cells, Value.cells, VRs, VR]
 | iface t x =>
  have h' := h
  simp only [VR] at h
  obtain ⟨c, rfl, _⟩ := h
  simp only [AV.cells, Value.cells, VRs]
  exact ⟨_, _, rfl, h', rfl⟩
 | fnb f fs caps =>
  have h' := h
  simp only [VR] at h
  obtain ⟨_, _, rfl, _⟩ := h
  simp only [AV.cells, Value.cells, VRs]
  exact ⟨_, _, rfl, h', rfl⟩
 | yld id =>
  have h' := h
  simp only [VR] at h
  obtain ⟨L, _, rfl⟩ := h
  simp only [AV.cells, Value.cells, VRs]
  exact ⟨_, _, rfl, h', rfl⟩
 | tup vs =>
  have h' := h
  simp only [VR] at h
  obtain ⟨cs, rfl, _⟩ := h
  simp only [AV.cells, Value.cells, VRs]
  exact ⟨_, _, rfl, h', rfl⟩
 | var id =>
  have h' := h
  simp only [VR] at h
  obtain ⟨L, _, _, hc⟩ := h
  rw [hc]
  simp only [AV.cells, VRs]
  exact ⟨_, _, rfl, h', rfl⟩
 | top => exact absurd rfl hv
/-! new blocks -/
theorem br_new {β : Bet} {n : Nat} {w w' : World} {vs : List AV} {cs : List Value} {e : TypeId} (hv : VRs β vs cs) (hn : β n = none) (hw : w'.heap[w.heap.size]? = some (.cells cs.toArray e (0, 0))) :
  BR (upd β n ⟨w.heap.size, 0, cs.length, dv⟩) ⟨w.heap.size, 0, cs.length, dv⟩ w' (.cells vs) :=
 ⟨cs.toArray, (e, (0, 0)), hw, ⟨by simp, by have := hv.length; show 0 + vs.length ≤ cs.length; omega, fun i _ _ => by simp⟩, fun i v hi => by
  obtain ⟨u, h1, h2⟩ := hv.get hi
  exact ⟨u, by simpa using h1, VR.mono (upd_sub _ hn) _ _ h2⟩⟩
theorem post_push {f : Nat} {β : Bet} {c : C} {h : H} {w : World} {b : AB} {L : Loc} {ob : Obj} (hr : HR f β (view c h) w) (hlt : h.n < 10000000) (hn : β h.n = none) (hblk : L.blk = w.heap.size)
  (hb : BR (upd β h.n L) L { w with heap := w.heap.push ob } b) :
  Post f h.n (h.n + 1) β (view c h) w (upd β h.n L) (view c ⟨Tr.set depth h.t h.n b, h.n + 1⟩) { w with heap := w.heap.push ob } :=
 post_alloc hr hn hblk (fun B hB => by simp [Array.getElem?_push, Nat.ne_of_lt hB]) (by simp) rfl rfl rfl hb (fun id d e => view_new hlt e)
theorem did_box {e : TypeId} {y : Operand} {x : XV} (ho : o.op = .box e y) (hx : cV y = some x) (hok : okT (evV sl x) = true) (hw : WF h) (hlt : h.n < 10000000) :
  Did P ng o c sl h (.ptr h.n 0) ⟨Tr.set depth h.t h.n (.cells (evV sl x).cells), h.n + 1⟩ := by
 refine ⟨step_new hw hlt, fun β a w hgb hr hop hfr K Q hK => ?_⟩
 have hv := (hop y (by simp [ho, Op.operands]) x hx).cells (okT_ne hok)
 have hn := hfr h.n (Nat.le_refl _) (by simp)
 unfold Oper.wp
 have hrun : (execOp a.eval o).run P w = .ok (.value (.pointer (some ⟨w.heap.size, 0, none⟩))) { w with heap := w.heap.push (.cells (a.eval y).cells e) } := by
  simp [execOp, ho, Instr.box, newVar, newRow]
 rw [hrun]
 refine hK _ _ _ (post_push (L := ⟨w.heap.size, 0, (a.eval y).cells.toList.length, dv⟩) hr hlt hn rfl (br_new (e := e) hv hn (by simp))) ?_
 simp only [VR]
 exact ⟨_, upd_same _ _ _, rfl⟩
theorem did_alloc {e : TypeId} {z : Value} {az : AV} {i : TypeInfo} (ho : o.op = .alloc e) (hi : P.info? e = some i) (hz : i.zero = some z) (hv : ∀ β, VR β az z) (hok : okT az = true) (hw : WF h) (hlt : h.n < 10000000) :
  Did P ng o c sl h (.ptr h.n 0) ⟨Tr.set depth h.t h.n (.cells az.cells), h.n + 1⟩ := by
 refine ⟨step_new hw hlt, fun β a w hgb hr hop hfr K Q hK => ?_⟩
 have hn := hfr h.n (Nat.le_refl _) (by simp)
 unfold Oper.wp
 have hrun : (execOp a.eval o).run P w = .ok (.value (.pointer (some ⟨w.heap.size, 0, none⟩))) { w with heap := w.heap.push (.cells z.cells e) } := by
  simp [execOp, ho, Instr.alloc, newVar, newRow, zeroValue, run_typeInfo w hi, hz]
 rw [hrun]
 refine hK _ _ _ (post_push (L := ⟨w.heap.size, 0, z.cells.toList.length, dv⟩) hr hlt hn rfl (br_new (e := e) ((hv β).cells (okT_ne hok)) hn (by simp))) ?_
 simp only [VR]
 exact ⟨_, upd_same _ _ _, rfl⟩
/-! reading -/
theorem cell_of_br {β : Bet} {L : Loc} {w : World} {vs : List AV} (hb : BR β L w (.cells vs)) {i : Nat} {v : AV} (hi : vs[i]? = some v) : ∃ u, w.cell? ⟨L.blk, L.base + i, none⟩ = some u ∧ VR β v u := by
 obtain ⟨cur, e, h1, h2, h3⟩ := hb
 obtain ⟨u, h4, h5⟩ := h3 i v hi
 exact ⟨u, by simp [World.cell?, h1, h4], h5⟩
theorem add_lit (b off n : Nat) : (⟨b, off, none⟩ : Addr).add n = ⟨b, off + n, none⟩ := by unfold Addr.add; split <;> simp_all
theorem part_of_br {β : Bet} {L : Loc} {w : World} {vs : List AV} (hb : BR β L w (.cells vs)) {off n : Nat} (hn : off + n ≤ vs.length) :
  ∃ cs : List Value, VRs β ((vs.drop off).take n) cs ∧ ∀ j u, cs[j]? = some u → w.cell? ((⟨L.blk, L.base + off, none⟩ : Addr).add j) = some u := by
 obtain ⟨cur, e, h1, h2, h3⟩ := hb
 have hc : ∀ i, i < n → ∃ u, cur[L.base + (off + i)]? = some u ∧ ∀ v, vs[off + i]? = some v → VR β v u := fun i hi => by
  have e1 : vs[off + i]? = some (vs[off + i]'(by omega)) := by simp
  obtain ⟨u, a, b⟩ := h3 _ _ e1
  exact ⟨u, a, fun v hv => by rw [e1] at hv; cases hv; exact b⟩
 have hsz : 0 < n → L.base + (off + n) ≤ cur.size := fun hp => by
  obtain ⟨u, a, _⟩ := hc (n - 1) (by omega)
  have := (Array.getElem?_eq_some_iff.1 a).1
  omega
 have hl : ((cur.toList.drop (L.base + off)).take n).length = n := by
  rcases Nat.eq_zero_or_pos n with z | z
  ·subst z; simp
  ·have := hsz z; simp; omega
 have hget : ∀ j, j < n → ((cur.toList.drop (L.base + off)).take n)[j]? = cur[L.base + (off + j)]? := fun j hj => by
  rw [List.getElem?_take_of_lt hj, List.getElem?_drop, Array.getElem?_toList, Nat.add_assoc]
 refine ⟨(cur.toList.drop (L.base + off)).take n, VRs.of (by rw [hl]; simp; omega) ?_, fun j u hj => ?_⟩
 ·intro i v u h4 h5
  have hi : i < n := by
   have := (List.getElem?_eq_some_iff.1 h5).1
   rwa [hl] at this
  rw [hget i hi] at h5
  rw [List.getElem?_take_of_lt hi, List.getElem?_drop] at h4
  obtain ⟨u', a, b⟩ := hc i hi
  rw [a] at h5; cases h5
  exact b v h4
 ·have hi : j < n := by
   have := (List.getElem?_eq_some_iff.1 hj).1
   rwa [hl] at this
  rw [hget j hi] at hj
  rw [add_lit]
  simp only [World.cell?, h1, Option.isSome_none, Bool.false_eq_true, if_false]
  rw [Nat.add_assoc]; exact hj
end
section
variable {P : Program} {ng : Nat} {o : Oper} {c : C} {sl : Tr AV} {h : H}
theorem isA_none {t : TypeId} (e : isA P t = some none) (w : World) : (isAgg t).run P w = .ok false w := by
 unfold isA at e
 split at e <;> try (cases e; done)
 rename_i d i h1 h2 hd hi
 simp only [isAgg, Sem.run_bind, run_underlying hd, Result.andThen_ok]
 cases d <;> first | rfl | exact absurd rfl (h1 _) | exact absurd rfl (h2 _ _)
theorem isA_some {t : TypeId} {n : Nat} (e : isA P t = some (some n)) (w : World) : (isAgg t).run P w = .ok true w ∧ (sizeOf t).run P w = .ok n w := by
 unfold isA at e
 split at e
 ·rename_i fs i h1 h2
  cases e
  exact ⟨by simp [isAgg, run_underlying h1], by simp [sizeOf, run_typeInfo w h2]⟩
 ·rename_i a b i h1 h2
  cases e
  exact ⟨by simp [isAgg, run_underlying h1], by simp [sizeOf, run_typeInfo w h2]⟩
 ·cases e
 ·cases e
theorem ptr_of {β : Bet} {w : World} {id off : Nat} {u : Value} {vs : List AV} (hr : HR c.floor β (view c h) w) (hv : VR β (.ptr id off) u) (hg : getB c h id = some (.cells vs)) :
  ∃ L, β id = some L ∧ u = .pointer (some ⟨L.blk, L.base + off, none⟩) ∧ BR β L w (.cells vs) := by
 simp only [VR] at hv
 obtain ⟨L, h1, h2⟩ := hv
 obtain ⟨L', h3, _, h4⟩ := hr.at_ id _ (view_cells hg)
 rw [h1] at h3; cases h3
 exact ⟨L, h1, h2, h4⟩
theorem did_load1 {t : TypeId} {y : Operand} {x : XV} {id off : Nat} {vs : List AV} {v : AV} (ho : o.op = .load t y) (hx : cV y = some x) (ht : isA P t = some none) (hv : evV sl x = .ptr id off)
  (hg : getB c h id = some (.cells vs)) (hn : vs[off]? = some v) (hw : WF h) : Did P ng o c sl h v h := by
 refine did_pure hw fun β a w hr hop => ?_
 have h1 := hop y (by simp [ho, Op.operands]) x hx
 rw [hv] at h1
 obtain ⟨L, hL, hu, hb⟩ := ptr_of hr h1 hg
 obtain ⟨u, hc, hvr⟩ := cell_of_br hb hn
 refine ⟨u, ?_, hvr⟩
 simp [execOp, ho, Instr.loadAt, Instr.sureAddr, hu, loadVar, isA_none ht, hc]
theorem did_loadN {t : TypeId} {y : Operand} {x : XV} {id off n : Nat} {vs : List AV} (ho : o.op = .load t y) (hx : cV y = some x) (ht : isA P t = some (some n)) (hv : evV sl x = .ptr id off)
  (hg : getB c h id = some (.cells vs)) (hn : off + n ≤ vs.length) (hw : WF h) : Did P ng o c sl h (.agg ((vs.drop off).take n)) h := by
 refine did_pure hw fun β a w hr hop => ?_
 have h1 := hop y (by simp [ho, Op.operands]) x hx
 rw [hv] at h1
 obtain ⟨L, hL, hu, hb⟩ := ptr_of hr h1 hg
 obtain ⟨cs, hvr, hc⟩ := part_of_br hb hn
 have hl : cs.length = n := by rw [← hvr.length]; simp; omega
 have hld := run_loadCells_list (P := P) w _ cs hc
 rw [hl] at hld
 refine ⟨.agg cs.toArray, ?_, ?_⟩
 ·simp [execOp, ho, Instr.loadAt, Instr.sureAddr, hu, loadVar, (isA_some ht w).1, (isA_some ht w).2, hld]
 ·simp only [VR]; exact ⟨_, rfl, by simpa using hvr⟩
/-! writing -/
theorem setCells_block (b : Nat) (e : TypeId) (fr : Nat × Nat) : ∀ (vs : List Value) (o : Nat) (w : World) (cur : Array Value), w.heap[b]? = some (.cells cur e fr) → o + vs.length ≤ cur.size →
  ∃ cur', (w.setCells b o vs).heap[b]? = some (.cells cur' e fr) ∧ cur'.size = cur.size ∧ (∀ i, i < o ∨ o + vs.length ≤ i → cur'[i]? = cur[i]?) ∧ ∀ j, j < vs.length → cur'[o + j]? = vs[j]?
 | [], o, w, cur, h, _ => ⟨cur, h, rfl, fun _ _ => rfl, fun j hj => by simp at hj⟩
 | v :: vs, o, w, cur, h, hl => by
  have hl' : o + 1 + vs.length ≤ cur.size := by simp at hl; omega
  have h1 : (w.setCell ⟨b, o, none⟩ v).heap[b]? = some (.cells (cur.setIfInBounds o v) e fr) := by
   simp [World.setCell, Array.getElem?_modify, h]
  obtain ⟨cur', a1, a2, a3, a4⟩ := setCells_block b e fr vs (o + 1) (w.setCell ⟨b, o, none⟩ v) (cur.setIfInBounds o v) h1 (by simpa using hl')
  refine ⟨cur', a1, by simpa using a2, fun i hi => ?_, fun j hj => ?_⟩
  ·rw [a3 i (by simp at hi; omega)]
   rw [Array.getElem?_setIfInBounds_ne (by simp at hi; omega)]
  ·cases j with
   | zero =>
    have := a3 o (by omega)
    rw [Nat.add_zero, this]
    simp [Array.getElem?_setIfInBounds]; omega
   | succ j =>
    have := a4 j (by simpa using hj)
    rw [show o + (j + 1) = o + 1 + j by omega, this]; simp
theorem setCells_other (b k : Nat) (hk : k ≠ b) : ∀ (vs : List Value) (o : Nat) (w : World), (w.setCells b o vs).heap[k]? = w.heap[k]?
 | [], o, w => rfl
 | v :: vs, o, w => by
  have := setCells_other b k hk vs (o + 1) (w.setCell ⟨b, o, none⟩ v)
  refine Eq.trans this ?_
  simp [World.setCell, Array.getElem?_modify, Ne.symm hk]
theorem setCells_rest (b : Nat) : ∀ (vs : List Value) (o : Nat) (w : World), (w.setCells b o vs).heap.size = w.heap.size ∧ (w.setCells b o vs).os = w.os ∧ (w.setCells b o vs).tape = w.tape ∧ (w.setCells b o vs).output = w.output
 | [], o, w => ⟨rfl, rfl, rfl, rfl⟩
 | v :: vs, o, w => by
  obtain ⟨h1, h2, h3, h4⟩ := setCells_rest b vs (o + 1) (w.setCell ⟨b, o, none⟩ v)
  exact ⟨Eq.trans h1 (by simp [World.setCell]), h2, h3, h4⟩
theorem one_of {β : Bet} {v : AV} {u : Value} (h : VR β v u) (ho : one v = true) : u.oneCell' = true := by
 cases v <;> simp only [one, Bool.false_eq_true] at ho <;> simp only [VR] at h <;> first
  | (subst h; rfl)
  | (obtain ⟨_, rfl, _⟩ := h; rfl)
  | (obtain ⟨_, _, rfl⟩ := h; rfl)
  | (obtain ⟨_, _, rfl, _⟩ := h; rfl)
  | (obtain ⟨_, _, _, _, rfl, _⟩ := h; rfl)
theorem ones_of {β : Bet} : ∀ {vs : List AV} {cs : List Value}, VRs β vs cs → ones vs = true → ∀ u ∈ cs, u.oneCell' = true
 | [], cs, h, _, u, hu => by simp only [VRs] at h; subst h; cases hu
 | v :: vs, cs, h, ho, u, hu => by
  simp only [VRs] at h
  obtain ⟨c', cs', rfl, h1, h2⟩ := h
  have hh : one v = true ∧ ones vs = true := by
   unfold ones at ho
   cases hv : one v with
   | true => rw [hv] at ho; exact ⟨rfl, ho⟩
   | false => rw [hv] at ho; cases ho
  rcases List.mem_cons.1 hu with rfl | hu
  ·exact one_of h1 hh.1
  ·exact ones_of h2 hh.2 u hu
theorem br_splice {β : Bet} {L : Loc} {w : World} {vs us : List AV} {cs : List Value} {off : Nat} (hb : BR β L w (.cells vs)) (hu : VRs β us cs) (hn : off + us.length ≤ vs.length) :
  BR β L (w.setCells L.blk (L.base + off) cs) (.cells (vs.take off ++ (us ++ vs.drop (off + us.length)))) ∧ L.base + off + cs.length ≤ L.size ∨ us = [] := by
 by_cases hz : us = []
 ·exact Or.inr hz
 left
 obtain ⟨cur, e, h1, h2, h3⟩ := hb
 have hlen := hu.length
 have hpos : 0 < us.length := List.length_pos_iff.2 hz
 have hsz : L.base + off + cs.length ≤ cur.size := by
  have e1 : vs[off + us.length - 1]? = some (vs[off + us.length - 1]'(by omega)) := by simp
  obtain ⟨u, a, _⟩ := h3 _ _ e1
  have := (Array.getElem?_eq_some_iff.1 a).1
  omega
 obtain ⟨cur', a1, a2, a3, a4⟩ := setCells_block L.blk e.1 e.2 cs (L.base + off) w cur h1 hsz
 have hfit := h2.fit
 refine ⟨⟨cur', e, a1, ⟨by rw [a2]; exact h2.le, by simp; omega, h2.nf⟩, fun i v hi => ?_⟩, by omega⟩
 by_cases x : i < off
 ·rw [List.getElem?_append_left (by simp; omega), List.getElem?_take_of_lt x] at hi
  obtain ⟨u, b1, b2⟩ := h3 i v hi
  exact ⟨u, by rw [a3 _ (by omega)]; exact b1, b2⟩
 ·have e0 : (vs.take off).length = off := by simp; omega
  rw [List.getElem?_append_right (by omega), e0] at hi
  by_cases y : i - off < us.length
  ·rw [List.getElem?_append_left y] at hi
   obtain ⟨u, b1, b2⟩ := hu.get hi
   refine ⟨u, ?_, b2⟩
   rw [show L.base + i = L.base + off + (i - off) by omega, a4 _ (by omega)]; exact b1
  ·rw [List.getElem?_append_right (by omega), List.getElem?_drop] at hi
   obtain ⟨u, b1, b2⟩ := h3 _ v hi
   refine ⟨u, ?_, b2⟩
   rw [a3 _ (by omega), ← b1]; congr 1; omega
theorem szA_some {t : TypeId} {n : Nat} (e : szA P t = some n) (w : World) : (sizeOf t).run P w = .ok n w := by
 unfold szA at e
 cases hi : P.info? t with
 | none => rw [hi] at e; cases e
 | some i => rw [hi] at e; cases e; simp [sizeOf, run_typeInfo w hi]
theorem did_store {t : TypeId} {y z : Operand} {x xz : XV} {id off n : Nat} {vs : List AV} (ho : o.op = .store t y z) (hx : cV y = some x) (hxz : cV z = some xz) (ht : szA P t = some n) (hv : evV sl x = .ptr id off)
  (hg : getB c h id = some (.cells vs)) (hl : (evV sl xz).cells.length = n) (h1 : ones (evV sl xz).cells = true) (hn : off + n ≤ vs.length) (hf : c.floor ≤ id) (hw : WF h) :
  Did P ng o c sl h (.tup []) ⟨Tr.set depth h.t id (.cells (vs.take off ++ ((evV sl xz).cells ++ vs.drop (off + (evV sl xz).cells.length)))), h.n⟩ := by
 obtain ⟨g1, g2⟩ := getB_get hg
 have hid : id < 10000000 := Nat.lt_of_lt_of_le (lt_of_get hw g1) hw.small
 refine ⟨step_set hw g1 hf g2, fun β a w hgb hr hop hfr K Q hK => ?_⟩
 have k1 := hop y (by simp [ho, Op.operands]) x hx
 have k2 := hop z (by simp [ho, Op.operands]) xz hxz
 rw [hv] at k1
 obtain ⟨L, hL, hu, hb⟩ := ptr_of hr k1 hg
 have hcs := k2.cells (fun q => by rw [q] at h1; cases h1)
 have hlen := hcs.length
 have hblk : L.blk < w.heap.size := by
  obtain ⟨L', h3, h4, _⟩ := hr.at_ id _ (view_cells hg)
  rw [hL] at h3; cases h3; exact h4
 have hrun : (execOp a.eval o).run P w = .ok .skip (w.setCells L.blk (L.base + off) (a.eval z).cells.toList) := by
  obtain ⟨cur, e, b1, b2, b3⟩ := hb
  have hst := run_storeCells_cells (P := P) L.blk (L.base + off) (a.eval z).cells.toList 0 w (fun j hj => by
    have e1 : vs[off + j]? = some (vs[off + j]'(by omega)) := by simp
    obtain ⟨u, d1, _⟩ := b3 _ _ e1
    simp [World.cell?, b1, Nat.add_assoc, d1]) (fun j hj => by unfold World.frozen?; simp only [b1]; exact b2.nf _ (by omega) (by have := b2.fit; omega)) (ones_of hcs h1)
  simp only [Nat.add_zero] at hst
  have hsz : (a.eval z).cells.size = n := by rw [← hl, hlen]; simp
  simp [execOp, ho, Instr.storeAt, Instr.sureAddr, hu, storeVar, szA_some ht, hsz, hst]
 unfold Oper.wp
 rw [hrun]
 obtain ⟨r1, r2, r3, r4⟩ := setCells_rest L.blk (a.eval z).cells.toList (L.base + off) w
 refine hK β undef _ (post_write hr (view_cells hg) hL hf (fun B hB => setCells_other L.blk B hB _ _ _) r1 r2 r3 r4 ?_ (fun j d e => view_set hid e)) (by simp [VR, VRs, undef])
 rcases br_splice hb hcs (by rw [hl]; exact hn) with h5 | h5
 ·exact h5.1
 ·have e2 : (a.eval z).cells.toList = [] := by rw [← List.length_eq_zero_iff, ← hlen, h5]; rfl
  rw [h5, e2]
  simpa [World.setCells] using hb
end
section
variable {P : Program} {ng : Nat} {o : Oper} {c : C} {sl : Tr AV} {h : H}
theorem did_nilc_ptr {y : Operand} {x : XV} {id off : Nat} (ho : o.op = .nilCheck y) (hx : cV y = some x) (hv : evV sl x = .ptr id off) (hw : WF h) : Did P ng o c sl h (.ptr id off) h := by
 refine did_pure hw fun β a w hr hop => ?_
 have h1 := hop y (by simp [ho, Op.operands]) x hx
 rw [hv] at h1
 have h2 := h1
 simp only [VR] at h2
 obtain ⟨L, hL, hu⟩ := h2
 exact ⟨a.eval y, by simp [execOp, ho, hu], h1⟩
theorem did_nilc_fn {y : Operand} {x : XV} {f : Nat} {cs : List AV} (ho : o.op = .nilCheck y) (hx : cV y = some x) (hv : evV sl x = .fn f cs) (hw : WF h) : Did P ng o c sl h (.fn f cs) h := by
 refine did_pure hw fun β a w hr hop => ?_
 have h1 := hop y (by simp [ho, Op.operands]) x hx
 rw [hv] at h1
 have h2 := h1
 simp only [VR] at h2
 obtain ⟨ds, hu, hd⟩ := h2
 exact ⟨a.eval y, by simp [execOp, ho, hu], h1⟩
theorem did_faddr {s : TypeId} {y : Operand} {x : XV} {id off k : Nat} {fs : Array Field} {f : Field} (ho : o.op = .fieldAddr s y k) (hx : cV y = some x) (hs : P.underlying s = some (.struct fs)) (hf : fs[k]? = some f) {m : Nat} (hm : szA P f.type = some (m + 1)) (hv : evV sl x = .ptr id off) (hw : WF h) :
  Did P ng o c sl h (.ptr id (off + f.offset)) h := by
 refine did_pure hw fun β a w hr hop => ?_
 have h1 := hop y (by simp [ho, Op.operands]) x hx
 rw [hv] at h1
 simp only [VR] at h1
 obtain ⟨L, hL, hu⟩ := h1
 refine ⟨.pointer (some ⟨L.blk, L.base + (off + f.offset), none⟩), ?_, by simp only [VR]; exact ⟨L, hL, rfl⟩⟩
 simp [execOp, ho, Instr.fieldAt, Instr.sureAddr, hu, run_underlying hs, hf, fieldPlace, szA_some hm, add_lit, Nat.add_assoc]
theorem did_extr {y : Operand} {x : XV} {i : Nat} {vs : List AV} {v : AV} (ho : o.op = .extract y i) (hx : cV y = some x) (hv : evV sl x = .tup vs) (hn : vs[i]? = some v) (hw : WF h) : Did P ng o c sl h v h := by
 refine did_pure hw fun β a w hr hop => ?_
 have h1 := hop y (by simp [ho, Op.operands]) x hx
 rw [hv] at h1
 simp only [VR] at h1
 obtain ⟨cs, hu, hcs⟩ := h1
 obtain ⟨u, k1, k2⟩ := hcs.get hn
 refine ⟨u, ?_, k2⟩
 have k3 : cs[i]? = some u := by simpa using k1
 simp [execOp, ho, Instr.extract, hu, k3]
theorem intK_some {k : IntKind} {n : Int} {K : Kont} {r : Tr AV × H} (e : intK k n h K = some r) : k.wrap n = n ∧ K (.int k n) h = some r := by
 unfold intK at e
 cases hb : inR k n with
 | true => rw [hb] at e; simp only [cond, forceInt_eq] at e; exact ⟨inR_wrap hb, e⟩
 | false => rw [hb] at e; cases e
theorem wrap_neg {m : Nat} (hm : m ≤ 18446744073709551615) : IntKind.wrap .u64 (Int.negSucc m) = Int.ofNat (Nat.sub 18446744073709551615 m) := by
 show (if (false && decide (Int.negSucc m % (2 ^ 64 : Int) ≥ 2 ^ 63)) = true then Int.negSucc m % (2 ^ 64 : Int) - 2 ^ 64 else Int.negSucc m % (2 ^ 64 : Int)) = Int.ofNat (18446744073709551615 - m)
 rw [Bool.false_and, if_neg (by decide)]
 have h2 : ((2 : Int) ^ 64) = ((18446744073709551616 : Nat) : Int) := by decide
 rw [h2]
 have e1 : Int.negSucc m = ((18446744073709551615 - m : Nat) : Int) + ((18446744073709551616 : Nat) : Int) * (-1) := by
  rw [Int.negSucc_eq]
  omega
 rw [e1, Int.add_mul_emod_self_left]
 rw [Int.ofNat_eq_natCast]
 have h3 : ((18446744073709551615 - m : Nat) : Int) % ((18446744073709551616 : Nat) : Int) = ((18446744073709551615 - m : Nat) : Int) := Int.emod_eq_of_lt (by omega) (by omega)
 exact h3
theorem intW_some {k : IntKind} {n : Int} {K : Kont} {r : Tr AV × H} (e : intW k n h K = some r) : K (.int k (k.wrap n)) h = some r := by
 unfold intW at e
 split at e
 ·rename_i m
  cases hb : Nat.ble m 18446744073709551615 with
  | false => rw [hb] at e; cases e
  | true =>
   rw [hb] at e
   simp only [cond, forceNat_eq] at e
   have hm := Nat.le_of_ble_eq_true hb
   rw [wrap_neg hm]; exact e
 ·obtain ⟨h1, h2⟩ := intK_some e
  rw [h1]; exact h2
theorem boolK_some {b : Bool} {K : Kont} {r : Tr AV × H} (e : boolK b h K = some r) : K (.bool b) h = some r := by
 unfold boolK at e; rw [forceBool_eq] at e; exact e
theorem did_int2 {op : BinOp} {t t' : TypeId} {y z : Operand} {xy xz : XV} {k : IntKind} {a b : Int} {v : AV} (ho : o.op = .binOp op t y z t') (hy : cV y = some xy) (hz : cV z = some xz) (h1 : evV sl xy = .int k a) (h2 : evV sl xz = .int k b)
  (hg : op ≠ .eql ∧ op ≠ .neq) (hw : WF h) (hrun : ∀ w : World, ∃ u, (binOp op t (.int k a) (.int k b)).run P w = .ok u w ∧ ∀ β, VR β v u) : Did P ng o c sl h v h := by
 refine did_pure hw fun β A w hr hop => ?_
 have k1 := hop y (by simp [ho, Op.operands]) xy hy
 have k2 := hop z (by simp [ho, Op.operands]) xz hz
 rw [h1] at k1
 rw [h2] at k2
 simp only [VR] at k1 k2
 obtain ⟨u, hu, hv⟩ := hrun w
 refine ⟨u, ?_, hv β⟩
 have he : (eqGuard op t y z (.int k a) (.int k b)).run P w = .ok () w := by
  unfold eqGuard
  cases op <;> first | rfl | (exact absurd rfl hg.1) | (exact absurd rfl hg.2)
 simp [execOp, ho, k1, k2, he, hu]
theorem did_fld1 {s : TypeId} {y : Operand} {x : XV} {k : Nat} {fs : Array Field} {f : Field} {vs : List AV} {v : AV} (ho : o.op = .field s y k) (hx : cV y = some x) (hs : P.underlying s = some (.struct fs)) (hf : fs[k]? = some f) (ht : isA P f.type = some none)
  (hv : evV sl x = .agg vs) (hn : vs[f.offset]? = some v) (hw : WF h) : Did P ng o c sl h v h := by
 refine did_pure hw fun β a w hr hop => ?_
 have h1 := hop y (by simp [ho, Op.operands]) x hx
 rw [hv] at h1
 simp only [VR] at h1
 obtain ⟨cs, hu, hcs⟩ := h1
 obtain ⟨u, k1, k2⟩ := hcs.get hn
 have k3 : cs[f.offset]? = some u := by simpa using k1
 exact ⟨u, by simp [execOp, ho, Instr.field, run_underlying hs, hf, hu, asAgg, part, isA_none ht, k3], k2⟩
theorem did_fldN {s : TypeId} {y : Operand} {x : XV} {k n : Nat} {fs : Array Field} {f : Field} {vs : List AV} (ho : o.op = .field s y k) (hx : cV y = some x) (hs : P.underlying s = some (.struct fs)) (hf : fs[k]? = some f) (ht : isA P f.type = some (some n))
  (hv : evV sl x = .agg vs) (hn : f.offset + n ≤ vs.length) (hw : WF h) : Did P ng o c sl h (.agg ((vs.drop f.offset).take n)) h := by
 refine did_pure hw fun β a w hr hop => ?_
 have h1 := hop y (by simp [ho, Op.operands]) x hx
 rw [hv] at h1
 simp only [VR] at h1
 obtain ⟨cs, hu, hcs⟩ := h1
 refine ⟨.agg (cs.extract f.offset (f.offset + n)), ?_, ?_⟩
 ·simp [execOp, ho, Instr.field, run_underlying hs, hf, hu, asAgg, part, (isA_some ht w).1, (isA_some ht w).2]
 ·simp only [VR]
  refine ⟨_, rfl, ?_⟩
  have := (hcs.drop f.offset).take n
  simpa [Array.toList_extract, List.extract_eq_take_drop] using this
theorem did_not {t : TypeId} {y : Operand} {x : XV} {b : Bool} (ho : o.op = .unOp .not t y) (hx : cV y = some x) (hv : evV sl x = .bool b) (hw : WF h) : Did P ng o c sl h (.bool (!b)) h := by
 refine did_pure hw fun β a w hr hop => ?_
 have h1 := hop y (by simp [ho, Op.operands]) x hx
 rw [hv] at h1
 simp only [VR] at h1
 exact ⟨.bool (!b), by simp [execOp, ho, Op.unary, h1], by simp [VR]⟩
end
section
variable {P : Program} {ng : Nat} {o : Oper} {c : C} {sl : Tr AV} {h : H}
theorem did_iaddr {t e : TypeId} {y z : Operand} {xy xz : XV} {id off len es esz i : Nat} {cap : Option Nat} {k : IntKind} (ho : o.op = .indexAddr t y z) (hy : cV y = some xy) (hz : cV z = some xz) (ht : P.underlying t = some (.slice e)) (hs : szA P e = some esz)
  (h1 : evV sl xy = .sl id off len es cap) (h2 : evV sl xz = .int k (.ofNat i)) (hi : i < len) (hw : WF h) : Did P ng o c sl h (.ptr id (off + i * esz)) h := by
 refine did_pure hw fun β a w hr hop => ?_
 have k1 := hop y (by simp [ho, Op.operands]) xy hy
 have k2 := hop z (by simp [ho, Op.operands]) xz hz
 rw [h1] at k1
 rw [h2] at k2
 simp only [VR] at k1 k2
 obtain ⟨L, o', cp, hL, hu, hle, hsz, hoo, hcap⟩ := k1
 have ho' : o' = L.base + off := by
  rcases hoo with e | ⟨e, _⟩
  ·exact e
  ·omega
 subst ho'
 have hi' : ((i : Nat) : Int) < ((len : Nat) : Int) := by omega
 refine ⟨.pointer (some ⟨L.blk, L.base + (off + i * esz), none⟩), ?_, by simp only [VR]; exact ⟨L, hL, rfl⟩⟩
 simp [execOp, ho, Instr.indexAt, k2, hu, asIntOf, run_underlying ht, szA_some hs, hi', hi, add_lit, Nat.add_assoc]
theorem did_idxS {t : TypeId} {y z : Operand} {xy xz : XV} {s : List Nat} {i b : Nat} {k : IntKind} (ho : o.op = .index t y z) (hy : cV y = some xy) (hz : cV z = some xz) (ht : P.underlying t = some .string)
  (h1 : evV sl xy = .str s) (h2 : evV sl xz = .int k (.ofNat i)) (hi : s[i]? = some b) (hw : WF h) : Did P ng o c sl h (.int .u8 (.ofNat b)) h := by
 refine did_pure hw fun β a w hr hop => ?_
 have k1 := hop y (by simp [ho, Op.operands]) xy hy
 have k2 := hop z (by simp [ho, Op.operands]) xz hz
 rw [h1] at k1
 rw [h2] at k2
 simp only [VR] at k1 k2
 obtain ⟨bs, hu, hbs⟩ := k1
 subst hbs
 rw [List.getElem?_map] at hi
 obtain ⟨c0, hc0, rfl⟩ := Option.map_eq_some_iff.1 hi
 have hc1 : bs[i]? = some c0 := by
  have : bs.data[i]? = some c0 := by simpa using hc0
  obtain ⟨hlt, he⟩ := Array.getElem?_eq_some_iff.1 this
  exact (getElem?_pos bs i hlt).trans (congrArg some he)
 refine ⟨.int .u8 c0.toNat, ?_, by simp [VR]⟩
 simp [execOp, ho, Instr.index, k2, hu, asIntOf, run_underlying ht, hc1]
theorem vr_sliced {β : Bet} {id off len esz l u cp : Nat} {cap : Option Nat} {L : Loc} {oo : Nat} (hL : β id = some L) (hle : len ≤ cp) (hsz : oo + cp * esz ≤ L.size) (hoo : oo = L.base + off ∨ (len = 0 ∧ cp = 0)) (hcap : ∀ c, cap = some c → cp = c)
  (hlu : l ≤ u) (hun : u ≤ len) : VR β (.sl id (off + l * esz) (u - l) esz (cap.map (· - l))) (.slice (if cp = l then some ⟨L.blk, oo, none⟩ else (some (⟨L.blk, oo, none⟩ : Addr)).map (·.add (l * esz))) (u - l) (cp - l)) := by
 simp only [VR]
 have hc : ∀ d, cap.map (· - l) = some d → cp - l = d := fun d hd => by
  cases cap with
  | none => cases hd
  | some c => cases hd; rw [hcap c rfl]
 by_cases e : cp = l
 ·rw [if_pos e]
  refine ⟨L, oo, cp - l, hL, rfl, by omega, ?_, Or.inr ⟨by omega, by omega⟩, hc⟩
  have : cp - l = 0 := by omega
  rw [this, Nat.zero_mul]; omega
 ·rw [if_neg e]
  refine ⟨L, oo + l * esz, cp - l, hL, by simp [add_lit], by omega, ?_, Or.inl ?_, hc⟩
  ·have : oo + l * esz + (cp - l) * esz = oo + cp * esz := by rw [Nat.add_assoc, ← Nat.add_mul]; congr 2; omega
   omega
  ·rcases hoo with h1 | ⟨h1, h2⟩
   ·omega
   ·omega
theorem opt_of {β : Bet} {a : Act} {d n : Nat} {y : Option Operand} {x : Option XV} (hx : cOpt y = some x) (hop : ∀ z, y = some z → ∀ q, cV z = some q → VR β (evV sl q) (a.eval z)) (hn : optNat sl d x = some n) :
  (y = none ∧ n = d) ∨ ∃ z k, y = some z ∧ a.eval z = .int k (n : Int) := by
 cases y with
 | none => simp [cOpt] at hx; subst hx; simp [optNat] at hn; exact Or.inl ⟨rfl, hn.symm⟩
 | some z =>
  simp only [cOpt, Option.map_eq_some_iff] at hx
  obtain ⟨q, hq, rfl⟩ := hx
  have h1 := hop z rfl q hq
  simp only [optNat] at hn
  cases hv : evV sl q with
  | int k m =>
   rw [hv] at hn h1
   cases m with
   | ofNat m => simp [asNat] at hn; subst hn; simp only [VR] at h1; exact Or.inr ⟨z, k, rfl, h1⟩
   | negSucc m => simp [asNat] at hn
  | _ => rw [hv] at hn; simp [asNat] at hn
theorem did_slice {t e : TypeId} {y : Operand} {lo hi : Option Operand} {xy : XV} {xl xh : Option XV} {id off len esz l u : Nat} {cap : Option Nat} (ho : o.op = .slice t y lo hi none) (hy : cV y = some xy) (hl : cOpt lo = some xl) (hh : cOpt hi = some xh)
  (ht : P.underlying t = some (.slice e)) (hs : szA P e = some esz) (h1 : evV sl xy = .sl id off len esz cap) (h2 : optNat sl 0 xl = some l) (h3 : optNat sl len xh = some u) (hlu : l ≤ u) (hun : u ≤ len) (hw : WF h) :
  Did P ng o c sl h (.sl id (off + l * esz) (u - l) esz (cap.map (· - l))) h := by
 refine did_pure hw fun β a w hr hop => ?_
 have k1 := hop y (by simp [ho, Op.operands]) xy hy
 rw [h1] at k1
 simp only [VR] at k1
 obtain ⟨L, oo, cp, hL, hu, hle, hsz, hoo, hcap⟩ := k1
 have b1 := opt_of (β := β) (a := a) hl (fun z hz q hq => hop z (by subst hz; simp [ho, Op.operands]) q hq) h2
 have b2 := opt_of (β := β) (a := a) hh (fun z hz q hq => hop z (by subst hz; simp [ho, Op.operands]) q hq) h3
 refine ⟨_, ?_, vr_sliced hL hle hsz hoo hcap hlu hun⟩
 have hlz : ((l : Nat) : Int) ≤ ((u : Nat) : Int) := by omega
 have huz : ((u : Nat) : Int) ≤ ((cp : Nat) : Int) := by omega
 have hucp : u ≤ cp := by omega
 have hnu : ¬ cp < u := by omega
 have hnl : ¬ u < l := by omega
 rcases b1 with ⟨rfl, rfl⟩ | ⟨z1, q1, rfl, e1⟩ <;> rcases b2 with ⟨rfl, rfl⟩ | ⟨z2, q2, rfl, e2⟩ <;>
  simp [execOp, ho, Instr.sliceAt, Instr.slice, Instr.sliceBounds, Instr.sliceBound, asIntOf, run_underlying ht, hu, szA_some hs, *]
end
section
variable {P : Program} {ng : Nat} {o : Oper} {c : C} {sl : Tr AV} {h : H}
theorem did_mkfn {f : Nat} {ys : Array Operand} {xs : List XV} (ho : o.op = .makeFunc (.func f) #[] ys) (hx : ys.toList.mapM cV = some xs) (hw : WF h) : Did P ng o c sl h (.fn f (xs.map (evV sl))) h := by
 refine did_pure hw fun β a w hr hop => ?_
 refine ⟨.func (.func f) #[] (ys.map a.eval), by simp [execOp, ho, Instr.makeFunc], ?_⟩
 simp only [VR]
 refine ⟨_, rfl, ?_⟩
 have key : ∀ (l : List Operand) (xs : List XV), l.mapM cV = some xs → (∀ y ∈ l, y ∈ o.op.operands.toList) → VRs β (xs.map (evV sl)) (l.map a.eval) := by
  intro l
  induction l with
  | nil => intro xs hxs _; simp at hxs; subst hxs; simp [VRs]
  | cons y l ih =>
   intro xs hxs hm
   simp only [List.mapM_cons, Option.bind_eq_bind, Option.bind_eq_some_iff, Option.pure_def, Option.some.injEq] at hxs
   obtain ⟨x, h1, xs', h2, rfl⟩ := hxs
   simp only [List.map_cons, VRs]
   exact ⟨_, _, rfl, hop y (hm y (by simp)) x h1, ih xs' h2 fun z hz => hm z (by simp [hz])⟩
 have := key ys.toList xs hx (fun y hy => by simp [ho, Op.operands]; simpa using hy)
 simpa using this
def isLen (o : Oper) (y : Operand) (t : TypeId) : Prop := o.op = .call { callee := .builtin .len, args := #[y], argTypes := #[t] }
theorem len_run {y : Operand} {t : TypeId} (ho : isLen o y t) (a : Act) (w : World) {u : Value} (hr : (Builtin.len_ #[t] o.type #[a.eval y]).run P w = .ok u w) : (execOp a.eval o).run P w = .ok (.value u) w := by
 unfold isLen at ho
 simp [execOp, ho, resolve, invoke, builtin, hr]
theorem did_len_sl {y : Operand} {x : XV} {t e : TypeId} {id off len es : Nat} {cap : Option Nat} (ho : isLen o y t) (hx : cV y = some x) (ht : P.underlying t = some (.slice e)) (hv : evV sl x = .sl id off len es cap) (hw : WF h) :
  Did P ng o c sl h (.int .i64 (.ofNat len)) h := by
 refine did_pure hw fun β a w hr hop => ?_
 have h1 := hop y (by unfold isLen at ho; simp [ho, Op.operands, Call.operands]) x hx
 rw [hv] at h1
 simp only [VR] at h1
 obtain ⟨L, oo, cp, hL, hu, _⟩ := h1
 exact ⟨.int .i64 len, len_run ho a w (by simp [Builtin.len_, hu, run_underlying ht, goInt]), by simp [VR]⟩
theorem did_len_nils {y : Operand} {x : XV} {t e : TypeId} (ho : isLen o y t) (hx : cV y = some x) (ht : P.underlying t = some (.slice e)) (hv : evV sl x = .nils) (hw : WF h) : Did P ng o c sl h (.int .i64 (.ofNat 0)) h := by
 refine did_pure hw fun β a w hr hop => ?_
 have h1 := hop y (by unfold isLen at ho; simp [ho, Op.operands, Call.operands]) x hx
 rw [hv] at h1
 simp only [VR] at h1
 exact ⟨.int .i64 (0 : Nat), len_run ho a w (by simp [Builtin.len_, h1, run_underlying ht, goInt]), by simp [VR]⟩
theorem did_len_raw {y : Operand} {x : XV} {t e : TypeId} {oa : Option Addr} {len cp : Nat} (ho : isLen o y t) (hx : cV y = some x) (ht : P.underlying t = some (.slice e)) (hv : evV sl x = .raw oa len cp) (hw : WF h) : Did P ng o c sl h (.int .i64 (.ofNat len)) h := by
 refine did_pure hw fun β a w hr hop => ?_
 have h1 := hop y (by unfold isLen at ho; simp [ho, Op.operands, Call.operands]) x hx
 rw [hv] at h1
 simp only [VR] at h1
 have hu := h1
 exact ⟨.int .i64 len, len_run ho a w (by simp [Builtin.len_, hu, run_underlying ht, goInt]), by simp [VR]⟩
theorem did_len_str {y : Operand} {x : XV} {t : TypeId} {s : List Nat} (ho : isLen o y t) (hx : cV y = some x) (ht : P.underlying t = some .string) (hv : evV sl x = .str s) (hw : WF h) : Did P ng o c sl h (.int .i64 (.ofNat s.length)) h := by
 refine did_pure hw fun β a w hr hop => ?_
 have h1 := hop y (by unfold isLen at ho; simp [ho, Op.operands, Call.operands]) x hx
 rw [hv] at h1
 simp only [VR] at h1
 obtain ⟨b, hu, hb⟩ := h1
 have hl : s.length = b.size := by rw [← hb]; simp
 exact ⟨.int .i64 b.size, len_run ho a w (by simp [Builtin.len_, hu, run_underlying ht, goInt]), by simp [VR, hl]⟩
end
section
variable {P : Program} {ng : Nat} {o : Oper} {c : C} {sl : Tr AV} {h : H}
theorem cellsAt_some {id : Nat} {k : List AV → Out} {r : Tr AV × H} (e : cellsAt c h id k = some r) : ∃ vs, getB c h id = some (.cells vs) ∧ k vs = some r := by
 unfold cellsAt at e
 split at e
 ·exact ⟨_, by assumption, e⟩
 ·cases e
theorem srcK_some {esz : Nat} {x : AV} {k : Nat → List AV → Out} {r : Tr AV × H} (e : srcK c h esz x k = some r) :
  ∃ n news, k n news = some r ∧ news.length = n * esz ∧ ∀ (t2 e' : TypeId), P.underlying t2 = some (.slice e') → ∀ β w u, HR c.floor β (view c h) w → VR β x u → ones news = true → ∃ cs, Src P esz t2 u n cs w ∧ VRs β news cs := by
 unfold srcK at e
 split at e
 ·refine ⟨0, [], e, by simp, fun t2 e' ht β w u hr hv _ => ?_⟩
  simp only [VR] at hv
  subst hv
  exact ⟨[], Src.ofNil w ht 0, by simp [VRs]⟩
 ·rename_i id off n es cap
  cases hb : Nat.beq es esz with
  | false => rw [hb] at e; cases e
  | true =>
   rw [hb] at e
   simp only [cond] at e
   obtain ⟨vs, hg, e⟩ := cellsAt_some e
   obtain ⟨h1, e⟩ := dropK_some e
   obtain ⟨h2, e⟩ := takeK_some e
   have hl : ((vs.drop off).take (Nat.mul n esz)).length = n * esz := by
    rw [List.length_take]; exact Nat.min_eq_left h2
   refine ⟨n, _, e, hl, fun t2 e' ht β w u hr hv ho => ?_⟩
   simp only [VR] at hv
   obtain ⟨L, oo, cp, hL, hu, hle, hsz, hoo, hcap⟩ := hv
   obtain ⟨L', h3, _, h4⟩ := hr.at_ id _ (view_cells hg)
   rw [hL] at h3; cases h3
   have hn2 : off + n * esz ≤ vs.length := by
    have : n * esz ≤ (vs.drop off).length := h2
    simp at this; omega
   obtain ⟨cs, k1, k2⟩ := part_of_br h4 hn2
   refine ⟨cs, ?_, k1⟩
   subst hu
   refine Src.ofSlice w ht _ n cp cs (by rw [← k1.length]; exact hl) (fun j u hj => ?_) (ones_of k1 ho)
   rcases hoo with rfl | ⟨z1, z2⟩
   ·exact k2 j u hj
   ·have : cs = [] := by rw [← List.length_eq_zero_iff, ← k1.length]; simp; left; rw [z1]; simp
    subst this; simp at hj
 ·rename_i oa n cp
  cases hb : Nat.beq n 0 with
  | false => rw [hb] at e; cases e
  | true =>
   rw [hb] at e
   have hn := Nat.eq_of_beq_eq_true hb
   subst hn
   refine ⟨0, [], e, by simp, fun t2 e' ht β w u hr hv _ => ?_⟩
   simp only [VR] at hv
   subst hv
   cases oa with
   | none => exact ⟨[], Src.ofNil w ht cp, by simp [VRs]⟩
   | some a => exact ⟨[], Src.ofSlice w ht a 0 cp [] (by simp) (fun j u hj => by simp at hj) (fun u hu => absurd hu (by simp)), by simp [VRs]⟩
 ·cases e
theorem post_grown {f : Nat} {β : Bet} {w : World} {vs : List AV} {cs : List Value} {e : TypeId} {rest : Array Value} (hr : HR f β (view c h) w) (hlt : h.n < 10000000) (hn : β h.n = none) (hv : VRs β vs cs) :
  Post f h.n (h.n + 1) β (view c h) w (upd β h.n ⟨w.heap.size, 0, cs.length + rest.size, dv⟩) (view c ⟨Tr.set depth h.t h.n (.cells vs), h.n + 1⟩) (w.drew.alloc (.cells (cs.toArray ++ rest) e)) := by
 refine post_alloc hr hn rfl (fun B hB => ?_) ?_ rfl rfl rfl ?_ (fun id d e => view_new hlt e)
 ·show (w.heap.push _)[B]? = _
  simp [Array.getElem?_push, Nat.ne_of_lt hB]
 ·show (w.heap.push _).size = _
  simp
 ·refine ⟨cs.toArray ++ rest, (e, (0, 0)), ?_, ⟨by simp, by have := hv.length; show 0 + vs.length ≤ cs.length + rest.size; omega, fun i _ _ => by simp⟩, fun i v hi => ?_⟩
  ·show (w.heap.push _)[w.heap.size]? = _
   simp
  ·obtain ⟨u, h1, h2⟩ := hv.get hi
   have hlt' := (List.getElem?_eq_some_iff.1 h1).1
   refine ⟨u, ?_, VR.mono (upd_sub _ hn) _ _ h2⟩
   rw [Nat.zero_add, Array.getElem?_append_left (by simpa using hlt')]
   simpa using h1
def isApp (o : Oper) (y z : Operand) (t t2 : TypeId) : Prop := o.op = .call { callee := .builtin .append, args := #[y, z], argTypes := #[t, t2] }
theorem app_run {y z : Operand} {t t2 : TypeId} (ho : isApp o y z t t2) (a : Act) (w : World) {u : Value} {w' : World} (hr : (Builtin.append_ #[t, t2] o.type #[a.eval y, a.eval z]).run P w = .ok u w') : (execOp a.eval o).run P w = .ok (.value u) w' := by
 unfold isApp at ho
 simp [execOp, ho, resolve, invoke, builtin, hr]
theorem app_grow {f : Nat} {β : Bet} {a : Act} {w : World} {y z : Operand} {t t2 e : TypeId} {i : TypeInfo} {zv : Value} {esz n m cp : Nat} {base : Option Addr} {ovs news : List AV} {olds cs : List Value} (ho : isApp o y z t t2) (ht : P.underlying t = some (.slice e)) (hi : P.info? e = some i) (hz : i.zero = some zv)
  (hsz : i.size = esz) (hzs : zv.cells.size = esz) (hby : i.bytes ≤ 1000000) (hr : HR f β (view c h) w) (hlt : h.n < 10000000) (hn : β h.n = none) (hy : a.eval y = .slice base m cp)
  (hold : (Builtin.firstCells i.size m (.slice base m cp)).run P w.drew = .ok olds.toArray w.drew) (hov : VRs β ovs olds) (hol : olds.length = m * esz) (hs : Src P esz t2 (a.eval z) n cs w) (hnv : VRs β news cs) (hg : cp < m + n) (hb : m + n ≤ 1000000) :
  ∃ val w' β', (execOp a.eval o).run P w = .ok (.value val) w' ∧ VR β' (.sl h.n 0 (m + n) esz none) val ∧ Post f h.n (h.n + 1) β (view c h) w β' (view c ⟨Tr.set depth h.t h.n (.cells (ovs ++ news)), h.n + 1⟩) w' := by
 have hfit : Builtin.nextslicecap (m + n) cp * i.bytes ≤ 281474976710656 := by
  have := nextslicecap_le hg
  calc Builtin.nextslicecap (m + n) cp * i.bytes ≤ (2 * (m + n)) * 1000000 := Nat.mul_le_mul this hby
   _ ≤ 281474976710656 := by omega
 subst hsz
 have hrun := run_append_grow_src (P := P) w t t2 o.type e i zv ht hi hz base m cp olds hold (a.eval z) n cs hs hg (by omega) hfit
 rw [← hy] at hrun
 have hp := post_grown (f := f) (e := e) (rest := Builtin.zeroCells zv.cells (grownCap w (m + n) cp e - (m + n))) hr hlt hn (hov.append hnv)
 refine ⟨_, _, _, app_run ho a w hrun, ?_, hp⟩
 have hge := grownCap_ge w (m + n) cp e
 simp only [VR]
 refine ⟨_, 0, _, upd_same _ _ _, rfl, hge, ?_, Or.inl rfl, fun d hd => by cases hd⟩
 have hnl := hs.newsLen
 simp only [List.length_append, size_zeroCells, hzs, hol, hnl, ← Nat.add_mul]
 rw [Nat.zero_add]
 apply Nat.mul_le_mul_right
 omega
theorem app_room {f : Nat} {β : Bet} {a : Act} {w : World} {y z : Operand} {t t2 e : TypeId} {i : TypeInfo} {esz n m cp id oo off : Nat} {vs news : List AV} {cs : List Value} {L : Loc} (ho : isApp o y z t t2) (ht : P.underlying t = some (.slice e)) (hi : P.info? e = some i)
  (hsz : i.size = esz) (hw : WF h) (hr : HR f β (view c h) w) (hlt : h.n < 10000000) (hn : β h.n = none) (hg : getB c h id = some (.cells vs)) (hL : β id = some L) (hf : f ≤ id) (hy : a.eval y = .slice (some ⟨L.blk, oo, none⟩) m cp)
  (hoo : oo = L.base + off) (hbd : oo + cp * esz ≤ L.size) (hov : off + m * esz ≤ vs.length) (hs : Src P esz t2 (a.eval z) n cs w) (hnv : VRs β news cs) (hroom : m + n ≤ cp) :
  ∃ val w' β', (execOp a.eval o).run P w = .ok (.value val) w' ∧ VR β' (.sl h.n 0 (m + n) esz none) val ∧
   Post f h.n (h.n + 1) β (view c h) w β' (view c ⟨Tr.set depth (Tr.set depth h.t id .dead) h.n (.cells ((vs.drop off).take (m * esz) ++ news)), h.n + 1⟩) w' := by
 subst hsz
 subst hoo
 obtain ⟨g1, g2⟩ := getB_get hg
 have hid := lt_of_get hw g1
 obtain ⟨L', h3, h4, hb⟩ := hr.at_ id _ (view_cells hg)
 rw [hL] at h3; cases h3
 obtain ⟨cur, et, b1, b2, b3⟩ := hb
 have hle2 := b2.le
 have hnl := hs.newsLen
 have hmul : m * i.size + n * i.size ≤ cp * i.size := by rw [← Nat.add_mul]; exact Nat.mul_le_mul_right _ hroom
 have hrun := run_append_room_src (P := P) w t t2 o.type e i ht hi L.blk (L.base + off) m cp (a.eval z) n cs hs hroom (fun j hj => by
   have : L.base + off + m * i.size + j < cur.size := by omega
   simp [World.cell?, b1, this]) (fun j hj => by unfold World.frozen?; simp only [b1]; exact b2.nf _ (by omega) (by omega))
 rw [← hy] at hrun
 obtain ⟨cur', c1, c2, c3, c4⟩ := setCells_block L.blk et.1 et.2 cs (L.base + off + m * i.size) w cur b1 (by omega)
 obtain ⟨r1, r2, r3, r4⟩ := setCells_rest L.blk cs (L.base + off + m * i.size) w
 have hp : Post f h.n (h.n + 1) β (view c h) w (upd β h.n ⟨L.blk, L.base + off, L.size, dv⟩) (view c ⟨Tr.set depth (Tr.set depth h.t id .dead) h.n (.cells ((vs.drop off).take (m * i.size) ++ news)), h.n + 1⟩) (w.setCells L.blk (L.base + off + m * i.size) cs) := by
  refine post_move (b := .cells ((vs.drop off).take (m * i.size) ++ news)) hr (view_cells hg) hL hf hn rfl (fun B hB => setCells_other L.blk B hB _ _ _) r1 r2 r3 r4 ?_ (fun j d ej => ?_)
  ·refine ⟨cur', et, c1, ⟨by rw [c2]; exact hle2, by (show L.base + off + ((vs.drop off).take (m * i.size) ++ news).length ≤ L.size; rw [List.length_append, List.length_take]; have := hnv.length; omega), fun k q1 q2 => b2.nf k (Nat.le_trans (Nat.le_add_right _ _) q1) q2⟩, fun k v hk => ?_⟩
   have e0 : ((vs.drop off).take (m * i.size)).length = m * i.size := by simp; omega
   by_cases x : k < m * i.size
   ·rw [List.getElem?_append_left (by omega), List.getElem?_take_of_lt x, List.getElem?_drop] at hk
    obtain ⟨u, d1, d2⟩ := b3 _ v hk
    refine ⟨u, ?_, VR.mono (upd_sub _ hn) _ _ d2⟩
    rw [c3 _ (by simp; omega), ← d1, Nat.add_assoc]
   ·rw [List.getElem?_append_right (by omega), e0] at hk
    obtain ⟨u, d1, d2⟩ := hnv.get hk
    refine ⟨u, ?_, VR.mono (upd_sub _ hn) _ _ d2⟩
    have := c4 (k - m * i.size) (List.getElem?_eq_some_iff.1 d1).1
    rw [← d1, ← this]; congr 1; simp; omega
  ·have hlt2 : (⟨Tr.set depth h.t id .dead, h.n⟩ : H).n < 10000000 := hlt
   rcases view_new (h := ⟨Tr.set depth h.t id .dead, h.n⟩) hlt2 ej with ⟨q1, q2⟩ | ⟨q1, q2⟩
   ·exact Or.inl ⟨q1, q2⟩
   ·rcases view_set (h := h) (by omega) q2 with ⟨p1, p2⟩ | ⟨p1, p2⟩
    ·subst p2
     have := view_get q2
     unfold view at q2
     rw [this] at q2; cases q2
    ·exact Or.inr ⟨q1, p1, p2⟩
 refine ⟨_, _, _, app_run ho a w hrun, ?_, hp⟩
 simp only [VR]
 exact ⟨_, L.base + off, cp, upd_same _ _ _, rfl, hroom, hbd, Or.inl rfl, fun d hd => by cases hd⟩
end
end Go.Proofs.YtmdceifbbmnfgaaGreatDoor.Ev
