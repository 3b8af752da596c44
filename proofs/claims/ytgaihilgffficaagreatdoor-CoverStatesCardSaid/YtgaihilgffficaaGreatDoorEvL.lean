/- CoverStates, part 5 -/
import Derived.Test.YtgaihilgffficaaGreatDoorEvF
set_option linter.all false
namespace Go.Proofs.YtgaihilgffficaaGreatDoor.Ev
open Go
variable {dr : Prop}
structure Ctx (c : C) (h : H) : Prop where
 low : c.floor ≤ h.n
 cM : ∀ id, h.n ≤ id → seen c.cM id = true
theorem Ctx.mono {c : C} {h h' : H} (hc : Ctx c h) (hle : h.n ≤ h'.n) : Ctx c h' := ⟨Nat.le_trans hc.low hle, fun id h1 => hc.cM id (Nat.le_trans hle h1)⟩
theorem cI.NW {f n m n1 n2 : Nat} {β β1 β2 : cn} {g g1 g2 : View} {w w1 w2 : World} (h : cI dr f n n1 β g w β1 g1 w1) (h' : cI dr f m n2 β1 g1 w1 β2 g2 w2) (hm : n ≤ m) (hn : n1 ≤ n2) :
    cI dr f n n2 β g w β2 g2 w2 := by
 have back : ∀ id b L, f ≤ id → g1 id = some b → β1 id = some L → w.heap.size ≤ L.cm ∨ ∃ i d M, f ≤ i ∧ g i = some d ∧ β i = some M ∧ M.cm = L.cm := by
  intro id b L bV h1 h2
  cases hb : β id with
  | some M =>
   have : M = L := by have := h.sub id M hb; rw [this] at h2; cases h2; rfl
   subst this
   rcases h.jG id b h1 with ⟨d, hd⟩ | hn
   ·exact Or.inr ⟨id, d, M, bV, hd, hb, rfl⟩
   ·rw [hn] at hb; cases hb
  | none => exact h.news id L h2 hb
 have hle := h.le
 have hle' := h'.le
 refine ⟨om, h.sub.trans h'.sub, ?_, h'.hr, h'.os.trans h.os, ⟨h'.tape.1.trans h.tape.1, fun q => Nat.le_trans (h.tape.2 q) (h'.tape.2 q)⟩, h'.output.trans h.output, Nat.le_trans h.size h'.size, ?_, ?_, ?_⟩
 ·intro id L h1 h2
  cases hb : β1 id with
  | some M => have := h.fresh id M hb h2; omega
  | none => have := h'.fresh id L h1 hb; omega
 ·intro B hB hf
  refine (h'.frame B (Nat.lt_of_lt_of_le hB h.size) fun id b L bV h1 h2 e => ?_).trans (h.frame B hB hf)
  rcases back id b L bV h1 h2 with hk | ⟨i, d, M, hi, hd, hM, e2⟩
  ·omega
  ·exact hf i d M hi hd hM (e2.trans e)
 ·intro id L h1 h2
  cases hb : β1 id with
  | some M =>
   have : M = L := by have := h'.sub id M hb; rw [this] at h1; cases h1; rfl
   subst this
   exact h.news id M hb h2
  | none =>
   rcases h'.news id L h1 hb with hk | ⟨i, b, M, hi, hg, hM, e⟩
   ·exact Or.inl (Nat.le_trans h.size hk)
   ·rcases back i b M hi hg hM with hk | ⟨j, d, M', hj, hd, hM', e2⟩
    ·exact Or.inl om
    ·exact Or.inr ⟨j, d, M', hj, hd, hM', e2.trans e⟩
 ·intro id b h1
  rcases h'.jG id b h1 with ⟨d, hd⟩ | hn
  ·exact h.jG id d hd
  ·cases hb : β id with
   | none => exact Or.inr rfl
   | some M => have := h.sub id M hb; rw [this] at hn; cases hn
theorem cI.wide {f f0 n n' m m' : Nat} {β β' : cn} {g g' V V' : View} {w w' : World} (h : cI dr f n n' β g w β' g' w') (hV : HR f0 β V w) (hg : ∀ id b, g id = some b → V id = some b) (hf : f0 ≤ f) (hfn : f ≤ n) (hm : m ≤ n) (hm' : n' ≤ m')
    (hV' : ∀ id b, V' id = some b → g' id = some b ∨ (V id = some b ∧ g id = none)) : cI dr f0 m m' β V w β' V' w' := by
 have hle := h.le
 have jT : ∀ id b L, V id = some b → g id = none → β id = some L → L.cm < w.heap.size → w'.heap[L.cm]? = w.heap[L.cm]? := fun id b L e1 e2 e3 e4 =>
  h.frame L.cm e4 fun i d M hfi h1 h2 h3 => by
   rcases hV.inj i id d b M L (hg i d h1) e1 h2 e3 h3 with this | this
   ·subst this; rw [h1] at e2; cases e2
   ·omega
 have placed : ∀ id b L, V id = some b → β id = some L → L.cm < w.heap.size := fun id b L e1 e2 => by
  obtain ⟨L', h1, h2, _⟩ := hV.at_ id b e1
  rw [h1] at e2; cases e2; exact h2
 have cross : ∀ i b M j d N, g' i = some b → β' i = some M → V j = some d → g j = none → β' j = some N → M.cm = N.cm → i = j ∨ (i < f0 ∧ j < f0) := fun i b M j d N e1 e2 e3 e4 e5 e6 => by
  obtain ⟨N', k1, k2, _⟩ := hV.at_ j d e3
  have k3 := h.sub j N' k1
  rw [k3] at e5; cases e5
  cases hb : β i with
  | some M0 =>
   have k4 := h.sub i M0 hb
   rw [k4] at e2; cases e2
   rcases h.jG i b e1 with ⟨d', hd'⟩ | hn
   ·exact hV.inj i j d' d _ _ (hg i d' hd') e3 hb k1 e6
   ·rw [hn] at hb; cases hb
  | none =>
   rcases h.news i M e2 hb with hk | ⟨i', b', M', hi', hg', hM', e⟩
   ·omega
   ·rcases hV.inj i' j b' d M' _ (hg i' b' hg') e3 hM' k1 (e.trans e6) with this | this
    ·subst this; rw [hg'] at e4; cases e4
    ·omega
 refine ⟨om, h.sub, fun id L h1 h2 => by have := h.fresh id L h1 h2; omega, ⟨fun id b e => ?_, fun i j b d L M h1 h2 h3 h4 h5 => ?_⟩, h.os, h.tape, h.output, h.size, fun B hB hh => h.frame B hB fun id b L h1 h2 h3 => hh id b L (Nat.le_trans hf h1) (hg id b h2) h3, fun id L h1 h2 => ?_, fun id b e => ?_⟩
 ·rcases hV' id b e with e | ⟨e1, e2⟩
  ·exact h.hr.at_ id b e
  ·obtain ⟨L, h1, h2, h3⟩ := hV.at_ id b e1
   have := h.size
   exact ⟨L, h.sub id L h1, om, h3.mono h.sub (jT id b L e1 e2 h1 h2)⟩
 ·rcases hV' i b h1 with e | ⟨e1, e2⟩ <;> rcases hV' j d h2 with e' | ⟨e1', e2'⟩
  ·rcases h.hr.inj i j b d L M e e' h3 h4 h5 with q | q
   ·exact Or.inl q
   ·have was : ∀ i b L, i < f → g' i = some b → β' i = some L → ∃ d, g i = some d ∧ β i = some L := fun i b L q1 q2 q3 => by
      cases hb : β i with
      | none => have := (h.fresh i L q3 hb).1; omega
      | some L0 =>
       have k4 := h.sub i L0 hb
       rw [k4] at q3; cases q3
       rcases h.jG i b q2 with ⟨d', hd'⟩ | hn
       ·exact ⟨d', hd', rfl⟩
       ·rw [hn] at hb; cases hb
    obtain ⟨di, gi, bi⟩ := was i b L q.1 e h3
    obtain ⟨dj, gj, bj⟩ := was j d M q.2 e' h4
    exact hV.inj i j di dj L M (hg _ _ gi) (hg _ _ gj) bi bj h5
  ·exact cross i b L j d M e h3 e1' e2' h4 h5
  ·exact (cross j d M i b L e' h4 e1 e2 h3 h5.symm).elim (fun q => Or.inl q.symm) fun q => Or.inr ⟨q.2, q.1⟩
  ·obtain ⟨L', k1, _, _⟩ := hV.at_ i b e1
   obtain ⟨M', k2, _, _⟩ := hV.at_ j d e1'
   have k3 := h.sub i L' k1
   have k4 := h.sub j M' k2
   rw [k3] at h3; rw [k4] at h4; cases h3; cases h4
   exact hV.inj i j b d _ _ e1 e1' k1 k2 h5
 ·rcases h.news id L h1 h2 with hk | ⟨i, b, M, hi, hgi, hM, e⟩
  ·exact Or.inl hk
  ·exact Or.inr ⟨i, b, M, Nat.le_trans hf hi, hg i b hgi, hM, e⟩
 ·rcases hV' id b e with e | ⟨e1, e2⟩
  ·rcases h.jG id b e with ⟨d, hd⟩ | hn
   ·exact Or.inl ⟨d, hg id d hd⟩
   ·exact Or.inr hn
  ·exact Or.inl ⟨b, e1⟩
/-! the bd -/
structure tu (nt : Nat) (df : List Deferred) (β : cn) (sl : Tr AV) (a : Act) : Prop where
 size : a.tmps.size = nt
 defers : a.defers = df
 at_ : ∀ t, VR β (slot sl t) (a.tmps.getD t undef)
theorem tu.mono {nt : Nat} {df : List Deferred} {β β' : cn} {sl : Tr AV} {a : Act} (h : tu nt df β sl a) (hs : Sub β β') : tu nt df β' sl a := ⟨h.size, h.defers, fun t => VR.mono hs _ _ (h.at_ t)⟩
theorem mu {sl : Tr AV} {d t : Nat} {v : AV} (hd : d < d + 1) : slot (Tr.set depth sl d v) t = if d = t then v else slot sl t := by
 unfold slot
 rw [bZ _ _ _ _ hd]
 by_cases e : d = t
 ·rw [if_pos e, if_pos e]
 ·rw [if_neg e, if_neg e]
theorem u9 {a : Act} {d t : Nat} {v : Value} (hd : d < a.tmps.size) : (a.put (some d) v).tmps.getD t undef = if d = t then v else a.tmps.getD t undef := by
 simp only [Act.put, Array.getD_eq_getD_getElem?, Array.getElem?_setIfInBounds]
 by_cases e : d = t
 ·subst e; simp [hd]
 ·simp [e]
theorem Bt {a : Act} {d : Option Nat} {v : Value} : (a.put d v).tmps.size = a.tmps.size := by cases d <;> simp [Act.put]
theorem put_defers {a : Act} {d : Option Nat} {v : Value} : (a.put d v).defers = a.defers := by cases d <;> simp [Act.put]
theorem tu.put {nt : Nat} {df : List Deferred} {β : cn} {sl : Tr AV} {a : Act} {d : Nat} {v : AV} {u : Value} (h : tu nt df β sl a) (hd : d < nt) (hnt : nt ≤ 1000000) (hv : VR β v u) : tu nt df β (Tr.set depth sl d v) (a.put (some d) u) := by
 refine ⟨Bt.trans h.size, put_defers.trans h.defers, fun t => ?_⟩
 rw [mu (by omega), u9 (by rw [h.size]; exact hd)]
 by_cases e : d = t
 ·rw [if_pos e, if_pos e]; exact hv
 ·rw [if_neg e, if_neg e]; exact h.at_ t
theorem tu.eval {nt : Nat} {df : List Deferred} {β : cn} {sl : Tr AV} {a : Act} {ng : Nat} (h : tu nt df β sl a) (hc : ∀ v x, NQ v = some x → VR β x v) (hg : GB ng β) {y : Operand} {x : XV} (hx : cV y = some x) (hy : ∀ g, y = .global g → g < ng) : VR β (bR sl x) (a.eval y) := by
 cases y with
 | tmp t => simp [cV] at hx; subst hx; exact h.at_ t
 | const v =>
  simp only [cV, Option.map_eq_some_iff] at hx
  obtain ⟨z, h1, rfl⟩ := hx
  exact hc v z h1
 | global g =>
  simp [cV] at hx; subst hx
  obtain ⟨s, e⟩ := hg g (hy g rfl)
  simp only [bR, Act.eval, VR]
  exact ⟨_, e, rfl⟩
 | func f =>
  simp [cV] at hx; subst hx
  simp only [bR, Act.eval, VR, bE]
  exact ⟨#[], rfl, rfl⟩
theorem Bu {β : cn} {v : Value} {x : AV} (h : mo v = some x) : VR β x v := by
 unfold mo at h
 split at h <;> first | (cases h; done) | skip
 all_goals first
  | (simp only [Option.some.injEq] at h; subst h; simp [VR]; done)
  | skip
 split at h
 ·rename_i f first caps hh
  simp only [Bool.and_eq_true, Array.isEmpty_iff] at hh
  obtain ⟨h1, h2⟩ := hh
  subst h1 h2
  cases h
  simp [VR, bE]
 ·cases h
theorem rr {β : cn} : ∀ (l : List Value) (xs : List AV), l.mapM mo = some xs → bE β xs l
 | [], xs, h => by simp at h; subst h; simp [bE]
 | y :: l, xs, h => by
  simp only [List.mapM_cons, Option.bind_eq_bind, Option.bind_eq_some_iff, Option.pure_def, Option.some.injEq] at h
  obtain ⟨x, h1, xs', h2, rfl⟩ := h
  simp only [bE]
  exact ⟨_, _, rfl, Bu h1, rr l xs' h2⟩
theorem Iw {β : cn} {v : Value} {x : AV} (h : NQ v = some x) : VR β x v := by
 unfold NQ at h
 split at h
 ·simp only [Option.map_eq_some_iff] at h
  obtain ⟨xs, h1, rfl⟩ := h
  simp only [VR]
  exact ⟨_, rfl, rr _ _ h1⟩
 ·simp only [Option.map_eq_some_iff] at h
  obtain ⟨xs, h1, rfl⟩ := h
  simp only [VR]
  exact ⟨_, rfl, rr _ _ h1⟩
 ·exact Bu h
structure TF (c : C) (m : Nat) (hs : Nat → H) (sls : Nat → Tr AV) (vs : Nat → AV) (cs : Nat → C) (pre : Nat → Nat → Prop) (looks writes : Nat → Nat → Prop) : Prop where
 le : ∀ j, j < m → (hs j).n ≤ (hs (j + 1)).n
 wf : ∀ j, j ≤ m → WF (hs j)
 r9 : ∀ j, j < m → ∀ id, id < (hs j).n → Tr.get (hs (j + 1)).t id = Tr.get (hs j).t id ∨ seen (cs j).cM id = true
 back : ∀ j i, pre j i → i < j
 apart : ∀ i j, i < m → j < m → i ≠ j → ¬ pre j i → ¬ pre i j → ∀ id, id < (hs j).n → id < (hs i).n → Tr.get (hs (j + 1)).t id ≠ Tr.get (hs j).t id → seen (cs i).cM id = true → False
 bd : ∀ j i t, j < m → i < m → looks j t → writes i t → i ≠ j → (i < j → pre j i) ∧ (j < i → pre i j)
 own : ∀ j t, writes j t → looks j t
 wrote : ∀ j t, j < m → writes j t → slot (sls (j + 1)) t = vs j
 kept : ∀ j t, j < m → ¬ writes j t → slot (sls (j + 1)) t = slot (sls j) t
 low : ∀ j, j < m → c.floor ≤ (cs j).floor ∧ (cs j).floor ≤ (hs j).n
 Dp : ∀ j, j < m → ∀ id, seen (cs j).cM id = true → (hs j).n ≤ id ∨ (seen c.cM id = true ∧ id < (hs 0).n) ∨ ∃ i, i < j ∧ pre j i ∧ (hs i).n ≤ id ∧ id < (hs (i + 1)).n
 Bv : ∀ j, j < m → ∀ id, (hs j).n ≤ id → id < (hs (j + 1)).n → seen (cs j).cM id = true
section
variable {c : C} {m : Nat} {hs : Nat → H} {sls : Nat → Tr AV} {vs : Nat → AV} {cs : Nat → C} {pre : Nat → Nat → Prop} {looks writes : Nat → Nat → Prop}
theorem TF.mono (F : TF c m hs sls vs cs pre looks writes) : ∀ (d i : Nat), i + d ≤ m → (hs i).n ≤ (hs (i + d)).n
 | 0, i, _ => Nat.le_refl _
 | d + 1, i, h => Nat.le_trans (F.mono d i om) (F.le (i + d) om)
theorem TF.gE (F : TF c m hs sls vs cs pre looks writes) {i j : Nat} (h : i ≤ j) (hj : j ≤ m) : (hs i).n ≤ (hs j).n := by
 have := F.mono (j - i) i om
 rwa [show i + (j - i) = j by omega] at this
theorem TF.same (F : TF c m hs sls vs cs pre looks writes) {i id : Nat} (bV : id < (hs i).n) : ∀ (d : Nat), i + d ≤ m → (∀ k, i ≤ k → k < i + d → Tr.get (hs (k + 1)).t id ≠ Tr.get (hs k).t id → False) → Tr.get (hs (i + d)).t id = Tr.get (hs i).t id
 | 0, _, _ => rfl
 | d + 1, h, hb => by
  have e := F.same bV d om (fun k h1 h2 => hb k h1 om)
  by_cases q : Tr.get (hs (i + d + 1)).t id = Tr.get (hs (i + d)).t id
  ·exact q.trans e
  ·exact (hb (i + d) om om q).elim
theorem TF.Ix (F : TF c m hs sls vs cs pre looks writes) {i j id : Nat} (h : i ≤ j) (hj : j ≤ m) (bV : id < (hs i).n) (hb : ∀ k, i ≤ k → k < j → Tr.get (hs (k + 1)).t id ≠ Tr.get (hs k).t id → False) : Tr.get (hs j).t id = Tr.get (hs i).t id := by
 have := F.same (i := i) bV (j - i) om (fun k h1 h2 => hb k h1 om)
 rwa [show i + (j - i) = j by omega] at this
theorem TF.owner (F : TF c m hs sls vs cs pre looks writes) {i id : Nat} : ∀ (d : Nat), i + d ≤ m → (hs i).n ≤ id → id < (hs (i + d)).n → ∃ k, i ≤ k ∧ k < i + d ∧ (hs k).n ≤ id ∧ id < (hs (k + 1)).n
 | 0, _, h1, h2 => absurd h2 (by simp; exact h1)
 | d + 1, h, h1, h2 => by
  rcases Nat.lt_or_ge id (hs (i + d)).n with x | x
  ·obtain ⟨k, a, b, e⟩ := F.owner d om h1 x
   exact ⟨k, a, om, e⟩
  ·exact ⟨i + d, om, om, x, h2⟩
theorem TF.NX (F : TF c m hs sls vs cs pre looks writes) {i j id : Nat} (hi : i < m) (hj : j < m) (h1 : (hs i).n ≤ id) (h2 : id < (hs (i + 1)).n) (h3 : (hs j).n ≤ id) (h4 : id < (hs (j + 1)).n) : i = j := by
 rcases Nat.lt_trichotomy i j with x | x | x
 ·have := F.gE (i := i + 1) (j := j) om om; omega
 ·exact x
 ·have := F.gE (i := j + 1) (j := i) om om; omega
theorem TF.Dq (F : TF c m hs sls vs cs pre looks writes) {i t : Nat} : ∀ (d : Nat), i + d ≤ m → (∀ k, i ≤ k → k < i + d → ¬ writes k t) → slot (sls (i + d)) t = slot (sls i) t
 | 0, _, _ => rfl
 | d + 1, h, hk => (F.kept (i + d) t om (hk _ om om)).trans (F.Dq d om fun k h1 h2 => hk k h1 om)
structure Inv (dr : Prop) (F : TF c m hs sls vs cs pre looks writes) (nt : Nat) (df : List Deferred) (N : Nat) (β0 : cn) (w0 : World) (X : Nat → Prop) (β : cn) (a : Act) (w : World) : Prop where
 SH : ∀ i, X i → i < m
 dc : ∀ i p, X i → pre i p → X p
 heap : ∃ V, cI dr c.floor (hs 0).n N β0 (view c (hs 0)) w0 β V w ∧ ∀ j, j ≤ m → ¬ X j → ∀ id b, (j < m → seen (cs j).cM id = true) → view c (hs j) id = some b →
  (∃ i, i < m ∧ ¬ X i ∧ (hs i).n ≤ id ∧ id < (hs (i + 1)).n) ∨ (∃ i, i < j ∧ i < m ∧ ¬ X i ∧ id < (hs i).n ∧ Tr.get (hs (i + 1)).t id ≠ Tr.get (hs i).t id) ∨ V id = some b
 SJ : ∀ id L, β id = some L → β0 id = none → ∃ i, X i ∧ (hs i).n ≤ id ∧ id < (hs (i + 1)).n
 sl : ∀ j, j ≤ m → ¬ X j → ∀ t, (j < m → looks j t) → (∃ i, i < j ∧ i < m ∧ ¬ X i ∧ writes i t) ∨ VR β (slot (sls j) t) (a.tmps.getD t undef)
 size : a.tmps.size = nt
 defers : a.defers = df
variable {F : TF c m hs sls vs cs pre looks writes} {nt : Nat} {df : List Deferred} {N : Nat} {β0 : cn} {w0 : World} {X : Nat → Prop} {β : cn} {a : Act} {w : World}
theorem da {c : C} {h : H} {id : Nat} {b : AB} (e : view c h id = some b) : Tr.get h.t id = some b ∧ seen c.cM id = true := dQ (jk e)
theorem ru {c d : C} {h k : H} {id : Nat} (e : Tr.get h.t id = Tr.get k.t id) (h1 : seen c.cM id = true) (h2 : seen d.cM id = true) : view c h id = view d k id := by
 unfold view cT; rw [h1, h2, e]
theorem FU {c : C} {h : H} {id : Nat} (h1 : seen c.cM id = false) : view c h id = none := by
 unfold view cT; rw [h1]; rfl
theorem Inv.runs (I : Inv dr F nt df N β0 w0 X β a w) (hc : Ctx c (hs 0)) {j : Nat} (hj : j < m) (hX : ¬ X j) (hp : ∀ p, pre j p → X p) (hfr : ∀ id, (hs 0).n ≤ id → id < (hs m).n → β0 id = none) :
    HR (cs j).floor β (view (cs j) (hs j)) w ∧ (∀ t, looks j t → VR β (slot (sls j) t) (a.tmps.getD t undef)) ∧ (∀ id, (hs j).n ≤ id → id < (hs (j + 1)).n → β id = none) ∧
    ∃ V, cI dr c.floor (hs 0).n N β0 (view c (hs 0)) w0 β V w ∧ (∀ id b, view (cs j) (hs j) id = some b → V id = some b) ∧ ∀ j, j ≤ m → ¬ X j → ∀ id b, (j < m → seen (cs j).cM id = true) → view c (hs j) id = some b →
    (∃ i, i < m ∧ ¬ X i ∧ (hs i).n ≤ id ∧ id < (hs (i + 1)).n) ∨ (∃ i, i < j ∧ i < m ∧ ¬ X i ∧ id < (hs i).n ∧ Tr.get (hs (i + 1)).t id ≠ Tr.get (hs i).t id) ∨ V id = some b := by
 obtain ⟨V, hP, hV⟩ := I.heap
 have hsub : ∀ id b, view (cs j) (hs j) id = some b → V id = some b := fun id b e => by
  obtain ⟨e1, e2⟩ := da e
  have hlt := fO (F.wf j om) e1
  have hsm := (F.wf j om).small
  have h0 : (hs 0).n ≤ (hs j).n := F.gE om om
  have hseen : seen c.cM id = true ∧ (∀ i, i < m → ¬ X i → (hs i).n ≤ id → id < (hs (i + 1)).n → False) := by
   rcases F.Dp j hj id e2 with q | ⟨q1, q2⟩ | ⟨i, q1, q2, q3, q4⟩
   ·omega
   ·refine ⟨q1, fun i hi _ h1 _ => ?_⟩
    have := F.gE (i := 0) (j := i) om om; omega
   ·refine ⟨hc.cM id ?_, fun k hk hkX h1 h2 => ?_⟩
    ·have := F.gE (i := 0) (j := i) om om; omega
    ·have := F.NX om hk q3 q4 h1 h2
     subst this; exact hkX (hp _ q2)
  have e3 : view c (hs j) id = some b := (ru rfl hseen.1 e2).trans e
  rcases hV j om hX id b (fun _ => e2) e3 with ⟨i, h1, h2, h3, h4⟩ | ⟨i, h1, h2, h3, h4, h5⟩ | h
  ·exact (hseen.2 i h1 h2 h3 h4).elim
  ·exact (F.apart j i hj h2 om (fun q => by have := F.back _ _ q; omega) (fun q => h3 (hp i q)) id h4 hlt h5 e2).elim
  ·exact h
 refine ⟨(hP.hr.sub hsub).up (F.low j hj).1, fun t ht => ?_, fun id h1 h2 => ?_, V, hP, hsub, hV⟩
 ·rcases I.sl j om hX t (fun _ => ht) with ⟨i, h1, h2, h3, h4⟩ | h
  ·exact absurd (hp i ((F.bd j i t hj h2 ht h4 om).1 h1)) h3
  ·exact h
 ·cases hb : β id with
  | none => rfl
  | some L =>
   have q1 := F.gE (i := 0) (j := j) om om
   have q2 := F.gE (i := j + 1) (j := m) om om
   obtain ⟨i, h3, h4, h5⟩ := I.SJ id L hb (hfr id om om)
   have := F.NX (I.SH i h3) hj h4 h5 h1 h2
   subst this; exact absurd h3 hX
theorem Inv.step (I : Inv dr F nt df N β0 w0 X β a w) (hc : Ctx c (hs 0)) {j : Nat} (hj : j < m) (hX : ¬ X j) (hp : ∀ p, pre j p → X p) (hfr : ∀ id, (hs 0).n ≤ id → id < (hs m).n → β0 id = none) (hN : (hs m).n ≤ N)
    {β' : cn} {w' : World} {a' : Act} (hPo : cI dr (cs j).floor (hs j).n (hs (j + 1)).n β (view (cs j) (hs j)) w β' (view (cs j) (hs (j + 1))) w')
    (ha1 : a'.tmps.size = nt) (ha2 : a'.defers = df) (ha3 : ∀ t, writes j t → VR β' (vs j) (a'.tmps.getD t undef)) (ha4 : ∀ t, ¬ writes j t → a'.tmps.getD t undef = a.tmps.getD t undef) :
    Inv dr F nt df N β0 w0 (fun i => X i ∨ i = j) β' a' w' := by
 obtain ⟨_, _, _, V, hP, hsub, hV⟩ := I.runs hc hj hX hp hfr
 have q0 := F.gE (i := 0) (j := j) om om
 have q1 := F.gE (i := j + 1) (j := m) om om
 have q2 := F.le j hj
 have wfj := F.wf j om
 have wfj1 := F.wf (j + 1) om
 let V' : View := fun id => if seen (cs j).cM id = true ∧ id < (hs (j + 1)).n then view (cs j) (hs (j + 1)) id else V id
 have hV' : ∀ id b, V' id = some b → view (cs j) (hs (j + 1)) id = some b ∨ (V id = some b ∧ view (cs j) (hs j) id = none) := fun id b e => by
  simp only [V'] at e
  split at e
  ·exact Or.inl e
  ·rename_i hn
   refine Or.inr ⟨e, ?_⟩
   cases hs1 : seen (cs j).cM id with
   | false => exact FU hs1
   | true =>
    have : ¬ id < (hs (j + 1)).n := fun x => hn ⟨hs1, x⟩
    cases hg : view (cs j) (hs j) id with
    | none => rfl
    | some b' =>
     have := fO wfj (da hg).1
     omega
 have hw := hPo.wide (f0 := c.floor) (m := (hs 0).n) (m' := N) (V := V) (V' := V') hP.hr hsub (F.low j hj).1 (F.low j hj).2 q0 om hV'
 refine ⟨fun i h => by rcases h with h | h; exact I.SH i h; omega, fun i p h hpr => ?_, ⟨V', hP.NW hw (Nat.le_refl _) (Nat.le_refl _), fun j' hj' hX' id b hsee e => ?_⟩, fun id L h1 h2 => ?_, fun j' hj' hX' t ht => ?_, ha1, ha2⟩
 ·rcases h with h | h
  ·exact Or.inl (I.dc i p h hpr)
  ·subst h; exact Or.inl (hp p hpr)
 ·have hX1 : ¬ X j' := fun x => hX' (Or.inl x)
  have hne : j' ≠ j := fun x => hX' (Or.inr x)
  by_cases c1 : ∃ i, i < m ∧ ¬ (X i ∨ i = j) ∧ (hs i).n ≤ id ∧ id < (hs (i + 1)).n
  ·exact Or.inl c1
  by_cases c2 : ∃ i, i < j' ∧ i < m ∧ ¬ (X i ∨ i = j) ∧ id < (hs i).n ∧ Tr.get (hs (i + 1)).t id ≠ Tr.get (hs i).t id
  ·exact Or.inr (Or.inl c2)
  refine Or.inr (Or.inr ?_)
  have hbars : ∀ i, i < j' → i < m → id < (hs i).n → Tr.get (hs (i + 1)).t id ≠ Tr.get (hs i).t id → X i ∨ i = j := fun i h1 h2 h3 h5 => Classical.byContradiction fun h4 => c2 ⟨i, h1, h2, h4, h3, h5⟩
  have hrng : ∀ i, i < m → (hs i).n ≤ id → id < (hs (i + 1)).n → X i ∨ i = j := fun i h1 h2 h3 => Classical.byContradiction fun h4 => c1 ⟨i, h1, h4, h2, h3⟩
  obtain ⟨e1, e2⟩ := da e
  have wfj' := F.wf j' hj'
  have hlt := fO wfj' e1
  have three := hV j' hj' hX1 id b hsee e
  by_cases hcase : seen (cs j).cM id = true ∧ id < (hs (j + 1)).n
  ·have hVV : V' id = view (cs j) (hs (j + 1)) id := by simp only [V']; rw [if_pos hcase]
   rw [hVV]
   have key : Tr.get (hs (j + 1)).t id = Tr.get (hs j').t id := by
    rcases Nat.lt_or_ge j' j with x | x
    ·have hsj' := hsee om
     have hl' := F.gE (i := j') (j := j) om om
     refine F.Ix om om hlt fun k h1 h2 hd => ?_
     have hidk : id < (hs k).n := Nat.lt_of_lt_of_le hlt (F.gE om om)
     by_cases hk2 : k = j'
     ·subst hk2
      exact F.apart j k hj om om (fun q => by have := F.back _ _ q; omega) (fun q => hX1 (hp k q)) id hidk om hd hcase.1
     ·by_cases hk : k = j
      ·subst hk
       exact F.apart j' k om hj om (fun q => hX1 (hp j' q)) (fun q => by have := F.back _ _ q; omega) id hidk hlt hd hsj'
      ·by_cases hXk : X k
       ·exact F.apart j' k om om om (fun q => hX1 (I.dc k j' hXk q)) (fun q => by have := F.back _ _ q; omega) id hidk hlt hd hsj'
       ·exact F.apart j k hj om om (fun q => by have := F.back _ _ q; omega) (fun q => hXk (hp k q)) id hidk om hd hcase.1
    ·refine (F.Ix (i := j + 1) (j := j') om hj' hcase.2 fun k h1 h2 hd => ?_).symm
     have hidk : id < (hs k).n := Nat.lt_of_lt_of_le hcase.2 (F.gE om om)
     have hXk : X k := by
      rcases hbars k h2 om hidk hd with q | q
      ·exact q
      ·omega
     have hnp : ¬ pre k j := fun q => hX (I.dc k j hXk q)
     rcases Nat.lt_or_ge id (hs j).n with q | q
     ·exact F.apart j k hj om om hnp (fun q' => by have := F.back _ _ q'; omega) id hidk q hd hcase.1
     ·rcases F.r9 k om id hidk with p | p
      ·exact hd p
      ·rcases F.Dp k om id p with p | p | ⟨i, p1, p2, p3, p4⟩
       ·omega
       ·have := F.gE (i := 0) (j := j) om om; omega
       ·have := F.NX om hj p3 p4 q hcase.2
        subst this
        exact hnp p2
   exact (ru key hcase.1 e2).trans e
  ·have hVV : V' id = V id := by simp only [V']; rw [if_neg hcase]
   rw [hVV]
   rcases three with ⟨i, h1, h2, h3, h4⟩ | ⟨i, h1, h2, h3, h4, h5⟩ | h
   ·rcases hrng i h1 h3 h4 with y | y
    ·exact absurd y h2
    ·subst y; exact absurd ⟨F.Bv i hj id h3 h4, h4⟩ hcase
   ·rcases hbars i h1 h2 h4 h5 with y | y
    ·exact absurd y h3
    ·subst y
     rcases F.r9 i hj id h4 with p | p
     ·exact absurd p h5
     ·exact absurd ⟨p, om⟩ hcase
   ·exact h
 ·cases hb : β id with
  | some M =>
   obtain ⟨i, h3, h4⟩ := I.SJ id M hb h2
   exact ⟨i, Or.inl h3, h4⟩
  | none => exact ⟨j, Or.inr rfl, hPo.fresh id L h1 hb⟩
 ·have hX1 : ¬ X j' := fun x => hX' (Or.inl x)
  have hne : j' ≠ j := fun x => hX' (Or.inr x)
  by_cases c1 : ∃ i, i < j' ∧ i < m ∧ ¬ (X i ∨ i = j) ∧ writes i t
  ·exact Or.inl c1
  refine Or.inr ?_
  have hall : ∀ i, i < j' → i < m → writes i t → X i ∨ i = j := fun i h1 h2 h3 => Classical.byContradiction fun h4 => c1 ⟨i, h1, h2, h4, h3⟩
  have bj : ∀ hwt : writes j t, j < j' := fun hwt => by
   rcases Nat.lt_or_ge j j' with y | y
   ·exact y
   ·exact absurd (hp j' ((F.bd j j' t hj om (F.own j t hwt) (by
      have := ht om
      exact Classical.byContradiction fun hnw => absurd (hp j' ((F.bd j' j t om hj this hwt om).2 om)) hX1) hne).1 om)) hX1
  by_cases hwt : writes j t
  ·have hlt := bj hwt
   have e : slot (sls j') t = vs j := by
    have := F.Dq (i := j + 1) (t := t) (j' - (j + 1)) om (fun k h1 h2 hwk => by
     rcases hall k om om hwk with y | y
     ·exact absurd (I.dc k j y ((F.bd k j t om hj (F.own k t hwk) hwt om).1 om)) hX
     ·omega)
    rw [show j + 1 + (j' - (j + 1)) = j' by omega] at this
    exact this.trans (F.wrote j t hj hwt)
   rw [e]; exact ha3 t hwt
  ·rw [ha4 t hwt]
   rcases I.sl j' hj' hX1 t ht with ⟨i, h1, h2, h3, h4⟩ | h
   ·rcases hall i h1 h2 h4 with y | y
    ·exact absurd y h3
    ·subst y; exact absurd h4 hwt
   ·exact VR.mono hPo.sub _ _ h
end
end Go.Proofs.YtgaihilgffficaaGreatDoor.Ev
