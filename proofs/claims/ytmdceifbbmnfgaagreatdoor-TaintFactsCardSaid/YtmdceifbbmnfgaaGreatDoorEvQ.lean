/- The evaluator: drawn regions, code, sequences, rounds. -/
import Derived.Test.YtmdceifbbmnfgaaGreatDoorEvK
import Derived.Laws.Sem
import Derived.RangeFuncLeaves
set_option linter.unusedVariables false
set_option linter.unusedSimpArgs false
namespace Go.Proofs.YtmdceifbbmnfgaaGreatDoor.Ev
open Go
section
variable {P : Program} {ng : Nat} {c : C} {call : Caller} {nt : Nat} {ops : Array Oper}
theorem cR_plain (p : Nat) (o : Oper) : (cR P ops p o).dst = o.dst ∧ (cR P ops p o).preds = p := by
 unfold cR
 split <;> exact ⟨rfl, rfl⟩
def Good (P : Program) (ops : Array Oper) (p : Nat) (o : Oper) : Prop := ∃ xo g, cO P o = some xo ∧ cGuard ops o.guard = some g ∧ o.op.operands.toList.all (gOk P) = true ∧ cR P ops p o = { dst := o.dst, op := xo, guard := g, preds := p, mem := memO o, bar := false, foot := none }
def DD (P : Program) (ng : Nat) (ops : Array Oper) (j : Nat) (c : C) (sl : Tr AV) (h : H) (v : AV) (h' : H) : Prop := ∃ o, ops[j]? = some o ∧ DidR P ng o c sl h v h' ∧ Good P ops ((Region.before ops).getD j 0) o
def preJ (ops : Array Oper) (j i : Nat) : Prop := j < ops.size ∧ ((Region.before ops).getD j 0).testBit i = true
def looksJ (ops : Array Oper) (j t : Nat) : Prop := ∃ o, ops[j]? = some o ∧ (t ∈ o.looksAt ops ∨ o.dst = some t)
def writesJ (ops : Array Oper) (j t : Nat) : Prop := ∃ o, ops[j]? = some o ∧ o.dst = some t
theorem cDs_get {j : Nat} (hj : j < ops.size) : (cDs P ops)[j]? = some (cD P ops (Region.before ops) j) := by
 unfold cDs
 simp [List.getElem?_map, List.getElem?_range hj]
theorem cDs_lt {j : Nat} {x : XR} (h : (cDs P ops)[j]? = some x) : j < ops.size ∧ x = cD P ops (Region.before ops) j := by
 have hlt : j < ops.size := by
  have := (List.getElem?_eq_some_iff.1 h).1
  simpa [cDs] using this
 rw [cDs_get hlt] at h
 cases h
 exact ⟨hlt, rfl⟩
theorem oper_at {j : Nat} (hj : j < ops.size) : ∃ o, ops[j]? = some o := ⟨ops[j], by simp [hj]⟩
theorem dreg_tf {h : H} {T : Nat → TE} (hok : okD ops (Region.before ops) = true) (hnt : nt ≤ 1000000) (hw : WF h) (h0 : (T 0).h = h)
  (hL : ∀ j x, (cDs P ops)[j]? = some x → Link c nt (cutBase h.n c.vis) [] [] [] (DD P ng ops) 0 T j x) :
  TF c ops.size (fun j => (T j).h) (fun j => (T j).sl) (fun j => (T j).v) (fun j => (T j).c) (preJ ops) (looksJ ops) (writesJ ops) := by
 have L : ∀ j, j < ops.size → Link c nt (cutBase h.n c.vis) [] [] [] (DD P ng ops) 0 T j (cD P ops (Region.before ops) j) := fun j hj => hL j _ (cDs_get hj)
 have hpr : ∀ j, (cD P ops (Region.before ops) j).preds = (Region.before ops).getD j 0 := fun j => (cR_plain (P := P) (ops := ops) _ _).2
 refine ⟨fun j hj => (L j hj).step.le, fun j hj => ?_, fun j hj id hid => ?_, fun j i hp => ?_, fun i j hi hj hne hn1 hn2 id h1 h2 hd hsn => ?_, fun j i t hj hi hl hwr hne => ?_, fun j t hwr => ?_, fun j t hj hwr => ?_, fun j t hj hwr => ?_, fun j hj => (L j hj).low, fun j hj id hs => ?_, fun j hj => (L j hj).newer⟩
 ·cases j with
  | zero => show WF (T 0).h; rw [h0]; exact hw
  | succ j => exact (L j (by omega)).step.wf
 ·rcases (L j hj).step.touch id hid with e | ⟨e1, e2⟩
  ·exact Or.inl e
  ·exact Or.inr e2
 ·obtain ⟨hj, hb⟩ := hp
  obtain ⟨o, ho⟩ := oper_at hj
  exact (okD_spec hok ho).1 i hb
 ·have hbar : (T j).bar = true := by
   cases hb : (T j).bar with
   | true => rfl
   | false =>
    exfalso
    have q := (L j hj).quiet hb
    rcases (L j hj).step.touch id h1 with e | ⟨e1, _⟩
    ·exact hd e
    ·have h1' : id < (T j).h.n := h1
     omega
  have bit : ∀ a b, a < ops.size → ¬ preJ ops a b → ((Region.before ops).getD a 0).testBit b = false := fun a b ha hn => by
   cases hq : ((Region.before ops).getD a 0).testBit b with
   | false => rfl
   | true => exact absurd ⟨ha, hq⟩ hn
  rcases (L i hi).old id h2 hsn with hf | hm
  ·rcases Nat.lt_or_ge i j with q | q
   ·exact hd (((L j hj).barF hbar).2 i id q hf (by rw [hpr, Nat.zero_add]; exact bit j i hj hn1))
   ·exact hd (((L i hi).footB id hf).2 j (by omega) hbar (by rw [hpr, Nat.zero_add]; exact bit i j hi hn2))
  ·obtain ⟨oi, hoi⟩ := oper_at hi
   obtain ⟨hb, _⟩ := (L j hj).isbar hbar
   have hb' : (memO (ops.getD j default) && barOf ops (Region.before ops) j) = true := hb
   rw [Bool.and_eq_true] at hb'
   have hm' : memO (ops.getD i default) = true := hm
   rw [getD_of hoi] at hm'
   have := barOf_spec (o := oi) hb'.2 hoi hm' hne
   rcases Nat.lt_or_ge i j with q | q
   ·exact hn1 ⟨hj, this.1 q⟩
   ·exact hn2 ⟨hi, this.2 (by omega)⟩
 ·obtain ⟨oj, ho, hlk⟩ := hl
  obtain ⟨oi, hoi, hd⟩ := hwr
  have := (okD_spec hok hoi).2.2 t hd j oj ho (Ne.symm hne) hlk
  exact ⟨fun q => ⟨hj, this.2 q⟩, fun q => ⟨hi, this.1 q⟩⟩
 ·obtain ⟨o, h1, h2⟩ := hwr
  exact ⟨o, h1, Or.inr h2⟩
 ·obtain ⟨o, h1, h2⟩ := hwr
  have hp := (L j hj).put
  have hd : (cD P ops (Region.before ops) j).dst = some t := by
   show (cR P ops _ (ops.getD j default)).dst = some t
   rw [(cR_plain _ _).1, getD_of h1, h2]
  rw [hd] at hp
  obtain ⟨h3, h4⟩ := hp
  show slot (T (j + 1)).sl t = (T j).v
  rw [h4, slot_set (by omega), if_pos rfl]
 ·have hp := (L j hj).put
  obtain ⟨o, h1⟩ := oper_at hj
  have hd : (cD P ops (Region.before ops) j).dst = o.dst := by
   show (cR P ops _ (ops.getD j default)).dst = o.dst
   rw [(cR_plain _ _).1, getD_of h1]
  rw [hd] at hp
  cases ho : o.dst with
  | none => rw [ho] at hp; show slot (T (j + 1)).sl t = slot (T j).sl t; rw [show (T (j + 1)).sl = (T j).sl from hp]
  | some d =>
   rw [ho] at hp
   obtain ⟨h3, h4⟩ := hp
   show slot (T (j + 1)).sl t = slot (T j).sl t
   rw [h4, slot_set (by omega), if_neg]
   intro e; subst e
   exact hwr ⟨o, h1, ho⟩
 ·rcases (L j hj).sees id hs with q | q | ⟨r, q, _⟩ | ⟨k, q1, q2, q3⟩
  ·exact Or.inl q
  ·have := cutBase_seen q
   refine Or.inr (Or.inl ⟨this.1, ?_⟩)
   show id < (T 0).h.n
   rw [h0]; exact this.2
  ·cases q
  ·refine Or.inr (Or.inr ⟨k, q1, ⟨hj, ?_⟩, q3⟩)
   rw [hpr, Nat.zero_add] at q2
   exact q2
theorem tf_step {m : Nat} {hs : Nat → H} {sls : Nat → Tr AV} {vs : Nat → AV} {cs : Nat → C} {pre : Nat → Nat → Prop} {looks writes : Nat → Nat → Prop} (F : TF c m hs sls vs cs pre looks writes)
  (hst : ∀ j, j < m → Step (cs j) (hs j) (hs (j + 1))) : Step c (hs 0) (hs m) := by
 have : ∀ j, j ≤ m → ∀ id, id < (hs 0).n → Tr.get (hs j).t id = Tr.get (hs 0).t id ∨ (c.floor ≤ id ∧ seen c.vis id = true) := by
  intro j
  induction j with
  | zero => intro _ id _; exact Or.inl rfl
  | succ j ih =>
   intro hj id hid
   have h0 := F.mono' (i := 0) (j := j) (by omega) (by omega)
   rcases (hst j (by omega)).touch id (by omega) with e | ⟨e1, e2⟩
   ·rcases ih (by omega) id hid with e' | e'
    ·exact Or.inl (e.trans e')
    ·exact Or.inr e'
   ·refine Or.inr ⟨Nat.le_trans (F.low j (by omega)).1 e1, ?_⟩
    rcases F.sees j (by omega) id e2 with q | q | ⟨i, q1, q2, q3, q4⟩
    ·omega
    ·exact q.1
    ·have := F.mono' (i := 0) (j := i) (by omega) (by omega); omega
 exact ⟨F.mono' (by omega) (by omega), F.wf m (by omega), this m (by omega)⟩
theorem inv_start {df : List Deferred} {m : Nat} {hs : Nat → H} {sls : Nat → Tr AV} {vs : Nat → AV} {cs : Nat → C} {pre : Nat → Nat → Prop} {looks writes : Nat → Nat → Prop} (F : TF c m hs sls vs cs pre looks writes)
  {X : Nat → Prop} (hX : ∀ i, ¬ X i) {β : Bet} {w : World} {a : Act} (hr : HR c.floor β (view c (hs 0)) w) (hsl : SlR nt df β (sls 0) a) : Inv F nt df (hs m).n β w X β a w := by
 have hmm := F.mono' (i := 0) (j := m) (by omega) (by omega)
 have hP : Post c.floor (hs 0).n (hs m).n β (view c (hs 0)) w β (view c (hs 0)) w :=
  ⟨hmm, Sub.refl _, fun id L h1 h2 => by (rw [h2] at h1; cases h1), hr, rfl, rfl, rfl, Nat.le_refl _, fun _ _ _ => rfl, fun id L h1 h2 => by (rw [h2] at h1; cases h1), fun id b h => Or.inl ⟨b, h⟩⟩
 refine ⟨fun i h => absurd h (hX i), fun i p h => absurd h (hX i), ⟨_, hP, fun j hj _ id b _ e => ?_⟩, fun id L h1 h2 => by (rw [h2] at h1; cases h1), fun j hj _ t _ => ?_, hsl.size, hsl.defers⟩
 ·by_cases c1 : ∃ i, i < j ∧ i < m ∧ ¬ X i ∧ id < (hs i).n ∧ Tr.get (hs (i + 1)).t id ≠ Tr.get (hs i).t id
  ·exact Or.inr (Or.inl c1)
  ·obtain ⟨e1, e2⟩ := getB_view e
   have hlt := lt_of_get (F.wf j hj) e1
   rcases Nat.lt_or_ge id (hs 0).n with x | x
   ·refine Or.inr (Or.inr ?_)
    have := F.same' (i := 0) (j := j) (by omega) hj x (fun k _ h2 hd => c1 ⟨k, h2, by omega, hX k, Nat.lt_of_lt_of_le x (F.mono' (by omega) (by omega)), hd⟩)
    exact (view_same this.symm e2 e2).trans e
   ·obtain ⟨k, h1, h2, h3⟩ := F.owner (i := 0) (id := id) j (by omega) x (by simpa using hlt)
    exact Or.inl ⟨k, by omega, hX k, h3⟩
 ·by_cases c1 : ∃ i, i < j ∧ i < m ∧ ¬ X i ∧ writes i t
  ·exact Or.inl c1
  ·refine Or.inr ?_
   have := F.keptTo (i := 0) (t := t) j (by omega) (fun k _ h2 h3 => c1 ⟨k, by omega, by omega, hX k, h3⟩)
   rw [Nat.zero_add] at this
   rw [this]; exact hsl.at_ t
theorem listed_all {listed : Array Bool} (hsz : listed.size = ops.size) (hok : okD ops (Region.before ops) = true) (hr : Region.ready .any ops listed = []) : ∀ n j, j < n → j < ops.size → listed.getD j false = true := by
 intro n
 induction n with
 | zero => intro j h; omega
 | succ n ih =>
  intro j hj hlt
  cases hb : listed.getD j false with
  | true => rfl
  | false =>
   exfalso
   obtain ⟨o, ho⟩ := oper_at hlt
   have : j ∈ Region.ready .any ops listed := by
    rw [mem_ready]
    refine ⟨?_, o, ho, fun e he hbn => ?_⟩
    ·have hl : j < listed.size := by omega
     simp [Array.getD_eq_getD_getElem?, hl] at hb ⊢
     exact hb
    ·have := (okD_spec hok ho).2.1 e he hbn
     exact ih e.on (by omega) (by omega)
   rw [hr] at this; cases this
theorem dreg_any {df : List Deferred} {rd : Option Nat} {m : Nat} {h : H} {T : Nat → TE} (hng : P.globals.size ≤ ng) (hok : okD ops (Region.before ops) = true) (hnt : nt ≤ 1000000) (hw : WF h) (h0 : (T 0).h = h) (hc : Ctx c h)
  (hL : ∀ j x, (cDs P ops)[j]? = some x → Link c nt (cutBase h.n c.vis) [] [] [] (DD P ng ops) 0 T j x)
  (F : TF c ops.size (fun j => (T j).h) (fun j => (T j).sl) (fun j => (T j).v) (fun j => (T j).c) (preJ ops) (looksJ ops) (writesJ ops))
  {β0 : Bet} {w0 : World} (hgb : GB ng β0) (hfr : ∀ id, (T 0).h.n ≤ id → id < (T ops.size).h.n → β0 id = none) {Q : Exit → Act → World → Prop}
  (hQ : ∀ β' a' w', Post c.floor (T 0).h.n (T ops.size).h.n β0 (view c (T 0).h) w0 β' (view c (T ops.size).h) w' → SlR nt df β' (T ops.size).sl a' → Q .normal a' w') :
  ∀ (fuel : Nat) (listed : Array Bool) (β : Bet) (a : Act) (w : World), listed.size = ops.size → (List.range ops.size).countP (fun i => !listed.getD i false) ≤ fuel → Inv F nt df (T ops.size).h.n β0 w0 (fun i => listed.getD i false = true) β a w →
   wpAnyIn (W rd) m P .any ops Q fuel listed a w := by
 have fin : ∀ (listed : Array Bool) (β : Bet) (a : Act) (w : World), listed.size = ops.size → (∀ j, j < ops.size → listed.getD j false = true) → Inv F nt df (T ops.size).h.n β0 w0 (fun i => listed.getD i false = true) β a w → Q .normal a w := by
  intro listed β a w hsz hall I
  have hnX : ¬ (listed.getD ops.size false = true) := by simp [Array.getD_eq_getD_getElem?, Array.getElem?_eq_none (Nat.le_of_eq hsz)]
  obtain ⟨V, hP, hV⟩ := I.heap
  refine hQ β a w (hP.toSub fun id b e => ?_) ⟨I.size, I.defers, fun t => ?_⟩
  ·rcases hV ops.size (Nat.le_refl _) hnX id b (fun q => absurd q (Nat.lt_irrefl _)) e with ⟨i, h1, h2, _⟩ | ⟨i, _, h1, h2, _⟩ | q
   ·exact absurd (hall i h1) h2
   ·exact absurd (hall i h1) h2
   ·exact q
  ·rcases I.sl ops.size (Nat.le_refl _) hnX t (fun q => absurd q (Nat.lt_irrefl _)) with ⟨i, _, h1, h2, _⟩ | q
   ·exact absurd (hall i h1) h2
   ·exact q
 intro fuel
 induction fuel with
 | zero =>
  intro listed β a w hsz hcnt I
  have hall : ∀ j, j < ops.size → listed.getD j false = true := fun j hj => by
   have := List.countP_eq_zero.1 (Nat.le_zero.1 hcnt) j (List.mem_range.2 hj)
   simpa using this
  refine ⟨?_, fin listed β a w hsz hall I⟩
  cases hr : Region.ready .any ops listed with
  | nil => rfl
  | cons j rest =>
   exfalso
   have : j ∈ Region.ready .any ops listed := by rw [hr]; simp
   rw [mem_ready] at this
   obtain ⟨h1, o, h2, _⟩ := this
   have hlt := (Array.getElem?_eq_some_iff.1 h2).1
   have h3 := hall j hlt
   have hl : j < listed.size := by omega
   simp [Array.getD_eq_getD_getElem?, hl] at h1 h3
   rw [h1] at h3; cases h3
 | succ fuel ih =>
  intro listed β a w hsz hcnt I
  refine ⟨fun hr => fin listed β a w hsz (fun j hj => listed_all hsz hok hr (j + 1) j (by omega) hj) I, fun j hj => ?_⟩
  rw [mem_ready] at hj
  obtain ⟨h1, o, ho, h3⟩ := hj
  have hlt := (Array.getElem?_eq_some_iff.1 ho).1
  have hl : j < listed.size := by omega
  have hnX : ¬ (listed.getD j false = true) := by
   simp [Array.getD_eq_getD_getElem?, hl] at h1 ⊢
   exact h1
  have hp : ∀ p, preJ ops j p → listed.getD p false = true := fun p hpp => by
   obtain ⟨o', q1, e, q2, q3, q4⟩ := before_ok ops j p hpp.2
   rw [ho] at q1; cases q1
   have q5 := h3 e q2 q3
   rcases q4 with q4 | q4
   ·rw [q4]; exact q5
   ·have := (okD_spec hok ho).2.1 e q2 q3
    exact I.dc e.on p q5 ⟨by omega, q4⟩
  have hLj := hL j _ (cDs_get hlt)
  have hc' : Ctx c ((fun j => (T j).h) 0) := by show Ctx c (T 0).h; rw [h0]; exact hc
  obtain ⟨r1, r2, r3, _⟩ := I.runs hc' hlt hnX hp hfr
  have hsub : Sub β0 β := by obtain ⟨V, hP, _⟩ := I.heap; exact hP.sub
  have hXeq : (fun k => (listed.setIfInBounds j true).getD k false = true) = (fun k => listed.getD k false = true ∨ k = j) := by
   funext k
   apply propext
   by_cases hk : k = j
   ·subst hk; simp [Array.getD_eq_getD_getElem?, Array.getElem?_setIfInBounds, hl]
   ·rw [getD_set_ne false (Ne.symm hk)]; simp [hk]
  have hcnt' : (List.range ops.size).countP (fun i => !(listed.setIfInBounds j true).getD i false) ≤ fuel := by
   have := countP_lt (p := fun i => !listed.getD i false) (q := fun i => !(listed.setIfInBounds j true).getD i false) (List.mem_range.2 hlt) (by simpa using hnX) (by simp [Array.getD_eq_getD_getElem?, Array.getElem?_setIfInBounds, hl]) (fun k hk => by
    by_cases hkj : k = j
    ·subst hkj; simp [Array.getD_eq_getD_getElem?, Array.getElem?_setIfInBounds, hl] at hk
    ·rw [getD_set_ne false (Ne.symm hkj)] at hk; exact hk)
   omega
  have hsz' : (listed.setIfInBounds j true).size = ops.size := by simpa using hsz
  have hput : PutR nt (T j).sl o.dst (T j).v (T (j + 1)).sl := by
   have := hLj.put
   have hd : (cD P ops (Region.before ops) j).dst = o.dst := by
    show (cR P ops _ (ops.getD j default)).dst = o.dst
    rw [(cR_plain _ _).1, getD_of ho]
   rw [hd] at this; exact this
  -- behind the operation
  have next : ∀ β' val w', Post (T j).c.floor (T j).h.n (T (j + 1)).h.n β (view (T j).c (T j).h) w β' (view (T j).c (T (j + 1)).h) w' → VR β' (T j).v val → wpAnyIn (W rd) m P .any ops Q fuel (listed.setIfInBounds j true) (a.put o.dst val) w' := fun β' val w' hPo hv => by
   refine ih _ β' _ w' hsz' hcnt' ?_
   rw [hXeq]
   refine I.step hc' hlt hnX hp hfr (Nat.le_refl _) hPo (put_size.trans I.size) (put_defers.trans I.defers) (fun t hwt => ?_) (fun t hwt => ?_)
   ·obtain ⟨o', q1, q2⟩ := hwt
    rw [ho] at q1; cases q1
    rw [q2] at hput ⊢
    rw [getD_put (by rw [I.size]; exact hput.1), if_pos rfl]
    exact hv
   ·cases hd : o.dst with
    | none => rfl
    | some d =>
     rw [hd] at hput
     rw [getD_put (by rw [I.size]; exact hput.1), if_neg]
     intro e; subst e
     exact hwt ⟨o, ho, hd⟩
  unfold wpOpIn
  rw [ho]
  have good : Good P ops ((Region.before ops).getD j 0) o := by
   rcases cR_spec (P := P) (ops := ops) ((Region.before ops).getD j 0) o with q | ⟨q1, q2⟩
   ·exact q
   ·have hgd : (cD P ops (Region.before ops) j).guard = none := by
     show (cR P ops _ (ops.getD j default)).guard = none
     rw [getD_of ho, q2]
    have hd := hLj.on (by rw [hgd]; rfl)
    rw [Nat.zero_add] at hd
    obtain ⟨o', e1, _, e2⟩ := hd
    rw [ho] at e1; cases e1
    exact e2
  obtain ⟨xo, g, q1, q2, q3, q4⟩ := good
  have hgd : (cD P ops (Region.before ops) j).guard = g := by
   show (cR P ops _ (ops.getD j default)).guard = g
   rw [getD_of ho, q4]
  have hwt : wants (T j).sl g = Region.wanted o (yielded ops a.tmps) := wants_eq (ops := ops) (β := β) q2 (fun t ht => r2 t ⟨o, ho, Or.inl (by
   obtain ⟨k, wt, e1, e2⟩ := ht
   unfold Oper.looksAt
   rw [e1]
   simp only [e2]
   simp)⟩) (fun q => by have := (hLj.off (by rw [hgd]; exact q)).2.2; rwa [hgd] at this)
  cases hwn : wants (T j).sl g with
  | true =>
   have hd := hLj.on (by rw [hgd]; exact hwn)
   rw [Nat.zero_add] at hd
   obtain ⟨o', e1, ⟨hst, hdd⟩, _⟩ := hd
   rw [ho] at e1; cases e1
   simp only [← hwt, hwn, if_true]
   exact (hdd β a w (hgb.mono hsub) r1 (opsR_of hng (hgb.mono hsub) q3 fun t ht => r2 t ⟨o, ho, Or.inl (by
    unfold Oper.looksAt
    refine List.mem_append.2 (Or.inl (List.mem_filterMap.2 ⟨.tmp t, ht, rfl⟩)))⟩) r3 _ _ _ Q next)
  | false =>
   obtain ⟨e1, e2, _⟩ := hLj.off (by rw [hgd]; exact hwn)
   simp only [← hwt, hwn, Bool.false_eq_true, if_false]
   refine ⟨fun _ _ => trivial, next β undef w ?_ (by rw [e2]; exact vr_undef)⟩
   rw [e1]; exact Post.refl r1
end
def LoopWp (F : Fence) (m : Nat) (P : Program) (x : Code) (Q : Exit → Act → World → Prop) (a : Act) (w : World) : Prop :=
 ∀ (b : Frame) (k : List Item) (cs : List Frame), b.roundOf = F.round → F.fn b.fn → F.room (cs.length + 1 + m) → ∃ e a' w', Q e a' w' ∧ ArrivesIn (Machine.fenced P F) P (lone (b.atR a (.code x :: .inLoop x :: k)) cs w) b k cs e a' w'
theorem loop_unroll {F : Fence} {m : Nat} {P : Program} {x : Code} {Q : Exit → Act → World → Prop} {a : Act} {w : World} (h : x.wpIn F m P (Exit.then (LoopWp F m P x Q) Q) a w) : LoopWp F m P x Q a w := by
 intro b k cs hro hb hr
 obtain ⟨e, a₁, w₁, hq, harr⟩ := h b (.inLoop x :: k) cs hro hb hr
 cases e with
 | normal =>
  obtain ⟨e₂, a₂, w₂, hq₂, harr₂⟩ := hq b k cs hro hb hr
  exact ⟨e₂, a₂, w₂, hq₂, .of_steps (StepsIn.trans harr (.one (fenced_calm hb hr rfl) stepR_inLoop)) harr₂⟩
 | exit id => exact ⟨_, a₁, w₁, hq, .pass (x := .inLoop x) rfl (fun _ _ => .inl (by simp)) harr⟩
 | goto l => exact ⟨_, a₁, w₁, hq, .pass (x := .inLoop x) rfl (fun _ _ => .inl (by simp)) harr⟩
 | ret => exact ⟨_, a₁, w₁, hq, .pass (x := .inLoop x) rfl (fun _ _ => .inl (by simp)) harr⟩
 | panic ch => exact ⟨_, a₁, w₁, hq, .pass (x := .inLoop x) rfl (fun _ _ => .inl (by simp)) harr⟩
 | outgrown => exact ⟨_, a₁, w₁, hq, .pass (x := .inLoop x) rfl (fun _ _ => .inl (by simp)) harr⟩
def WPx (F : Fence) (m : Nat) (P : Program) (code : Code) (Q : Exit → Act → World → Prop) (a : Act) (w : World) : Prop :=
 match code with
 | .loop x => LoopWp F m P x Q a w
 | x => x.wpIn F m P Q a w
theorem WPx.wp {F : Fence} {m : Nat} {P : Program} {code : Code} {Q : Exit → Act → World → Prop} {a : Act} {w : World} (h : WPx F m P code Q a w) : code.wpIn F m P Q a w := by
 unfold WPx at h
 split at h
 ·rename_i x
  intro b k cs hro hb hr
  obtain ⟨e, a', w', hq, harr⟩ := h b k cs hro hb hr
  exact ⟨e, a', w', hq, .of_steps (.one (fenced_calm hb hr rfl) stepR_loop) harr⟩
 ·exact h
def Ex.toExit : Ex → Exit
 | .normal => .normal
 | .exit id => .exit id
 | .ret => .ret
def DfR (β : Bet) : List Nat → List Deferred → Prop
 | [], df => df = []
 | d :: ds, df => ∃ D df', df = { target := .collected D.blk, args := #[] } :: df' ∧ β d = some D ∧ DfR β ds df'
theorem DfR.mono {β β' : Bet} (h : Sub β β') : ∀ {ds : List Nat} {df : List Deferred}, DfR β ds df → DfR β' ds df
 | [], df, e => e
 | d :: ds, df, ⟨D, df', h1, h2, h3⟩ => ⟨D, df', h1, h _ _ h2, h3.mono h⟩
def CodeDid (P : Program) (ng nt : Nat) (rd : Bool) (code : Code) (c : C) (sl : Tr AV) (ds : List Nat) (h : H) (e : Ex) (sl' : Tr AV) (ds' : List Nat) (h' : H) : Prop :=
 Step c h h' ∧ ∀ β a w df, GB ng β → HR c.floor β (view c h) w → DfR β ds df → SlR nt df β sl a → (∀ id, h.n ≤ id → id < h'.n → β id = none) → ∀ (r : Option Nat) (m : Nat), (rd = false → r = none) → ∀ Q : Exit → Act → World → Prop,
  (∀ β' a' w' df', Post c.floor h.n h'.n β (view c h) w β' (view c h') w' → DfR β' ds' df' → SlR nt df' β' sl' a' → Q e.toExit a' w') → WPx (W r) m P code Q a w
section
variable {P : Program} {ng : Nat} {c : C} {call : Caller} {nt : Nat} {ops : Array Oper}
theorem foot_none {o : Oper} (h : memO o = true) : footO P o = none := by
 unfold memO at h
 unfold footO
 cases ho : o.op <;> rw [ho] at h <;> first | rfl | (cases h; done) | skip
 rename_i q
 obtain ⟨cal, args, ts⟩ := q
 cases cal with
 | builtin b => cases b <;> first | rfl | (cases h; done)
 | value f => rfl
 | invoke y n => rfl
theorem dreg_sound {rd : Bool} {ds : List Nat} {sl : Tr AV} {h : H} {r : Tr AV × H} {id : Nat} (hmx : P.follows .mixedOrders = true) (hO : OpOk P ng) (hC : CallOk P ng call) (hng : P.globals.size ≤ ng) (hnt : nt ≤ 1000000) (hok : okD ops (Region.before ops) = true) (hw : WF h) (hc : Ctx c h)
  (e : evDreg c call nt (cutBase h.n c.vis) (cDs P ops) 0 [] [] [] sl h = some r) : CodeDid P ng nt rd (.region id ops true) c sl ds h .normal r.1 ds r.2 := by
 obtain ⟨T, t1, t2, t3, t4, t5⟩ := evDreg_trace (D := DD P ng ops) (fun j c sl h v h' hd => by obtain ⟨o, _, hd, _⟩ := hd; exact hd.1) (cDs P ops) 0 [] [] [] sl h r hw hc.low (fun j x hx c' sl h k r hctx hw' ex => by
  obtain ⟨hlt, rfl⟩ := cDs_lt hx
  obtain ⟨o, ho⟩ := oper_at hlt
  rw [Nat.zero_add]
  have hop : (cD P ops (Region.before ops) j).op = (cR P ops ((Region.before ops).getD j 0) o).op := by
   show (cR P ops _ (ops.getD j default)).op = _
   rw [getD_of ho]
  have hme : (cD P ops (Region.before ops) j).mem = memO o := by
   show memO (ops.getD j default) = memO o
   rw [getD_of ho]
  have hfo : (cD P ops (Region.before ops) j).foot = (footO P o).bind cV := by
   show (footO P (ops.getD j default)).bind cV = _
   rw [getD_of ho]
  have hctx' : memO o = true → Ctx c' h := fun q => hctx (by rw [hme]; exact q) (by rw [hfo, foot_none q]; rfl)
  rw [hop] at ex
  rcases cR_spec (P := P) (ops := ops) ((Region.before ops).getD j 0) o with q | ⟨q1, q2⟩
  ·have q' := q
   obtain ⟨xo, g, q1, q2, q3, q4⟩ := q
   rw [q4] at ex
   obtain ⟨v, h', e1, e2⟩ := hO o xo q1 c' call sl h k r hctx' hw' hC ex
   exact ⟨v, h', e1, o, ho, e2, q'⟩
  ·rw [q1] at ex; cases ex) e
 have hlen : (cDs P ops).length = ops.size := by simp [cDs]
 rw [hlen] at t3 t4
 have F := dreg_tf (ng := ng) hok hnt hw t2 t5
 have hst : Step c h r.2 := by
  have := tf_step F (fun j hj => (t5 j _ (cDs_get hj)).step)
  rw [t2, t4] at this; exact this
 refine ⟨hst, fun β a w df hgb hr hdf hsl hfr ro m hro Q hQ => ?_⟩
 show (Code.region id ops true).wpIn (W ro) m P Q a w
 refine wpIn_region_any hmx ?_
 refine dreg_any (β0 := β) (w0 := { w with drawn := w.drawn + 1 }) hng hok hnt hw t2 hc t5 F hgb (by rw [t2, t4]; exact hfr) (fun β' a' w' hP hs => ?_) ops.size (Array.replicate ops.size false) β a _ (by simp) (by
   refine Nat.le_trans List.countP_le_length ?_
   simp) (inv_start F (fun i hi => by
    rcases Nat.lt_or_ge i ops.size with x | x
    ·simp [Array.getD_eq_getD_getElem?, x] at hi
    ·simp [Array.getD_eq_getD_getElem?, Nat.not_lt.2 x] at hi) (by show HR c.floor β (view c (T 0).h) _; rw [t2]; exact hr.drew _) (by show SlR nt df β (T 0).sl a; rw [t1]; exact hsl))
 ·rw [t2, t4] at hP
  rw [t3] at hs
  exact hQ β' a' w' df hP.drew (hdf.mono hP.sub) hs
theorem reg_sound {rd : Bool} {ds : List Nat} {sl : Tr AV} {h : H} {r : Tr AV × H} {id : Nat} (hO : OpOk P ng) (hC : CallOk P ng call) (hng : P.globals.size ≤ ng) (hnt : nt ≤ 1000000) (hw : WF h) (hc : Ctx c h)
  (e : evReg c call nt (cRs P ops) sl h = some r) : CodeDid P ng nt rd (.region id ops false) c sl ds h .normal r.1 ds r.2 := by
 refine ⟨(evReg_sound (df := []) (rd := none) (m := 0) (c := c) (ops := ops) hO hC hng hnt ops.toList 0 sl h r (by simp) hw hc e).1, fun β a w df hgb hr hdf hsl hfr ro m hro Q hQ => ?_⟩
 obtain ⟨h1, h2⟩ := evReg_sound (df := df) (rd := ro) (m := m) (c := c) (ops := ops) hO hC hng hnt ops.toList 0 sl h r (by simp) hw hc e
 show (Code.region id ops false).wpIn (W ro) m P Q a w
 refine wpIn_region ?_
 have := h2 β a w hgb hr hsl hfr Q fun β' a' w' hP hs => hQ β' a' w' df hP (hdf.mono hP.sub) hs
 rw [List.range_eq_range']
 simpa using this
theorem fresh_next {h h1 h2 : H} {β β1 : Bet} {g g1 : View} {w w1 : World} {f : Nat} (hP : Post f h.n h1.n β g w β1 g1 w1) (hfr : ∀ id, h.n ≤ id → id < h2.n → β id = none) : ∀ id, h1.n ≤ id → id < h2.n → β1 id = none := fun id q1 q2 => by
 cases hb : β1 id with
 | none => rfl
 | some L =>
  have h0 := hfr id (Nat.le_trans hP.le q1) q2
  have := hP.fresh id L hb h0
  omega
/-! results -/
theorem run_mapM_list {α β : Type} {f : α → Sem β} {w : World} : ∀ (l : List α) (ys : List β), l.length = ys.length → (∀ (i : Nat) (x : α) (y : β), l[i]? = some x → ys[i]? = some y → (f x).run P w = .ok y w) → (l.mapM f).run P w = .ok ys w
 | [], [], _, _ => by simp
 | [], _ :: _, h, _ => by simp at h
 | _ :: _, [], h, _ => by simp at h
 | x :: l, y :: ys, h, hh => by
  have h1 := hh 0 x y (by simp) (by simp)
  have h2 := run_mapM_list l ys (by simpa using h) fun i x y e1 e2 => hh (i + 1) x y (by simpa using e1) (by simpa using e2)
  simp [List.mapM_cons, h1, h2]
def resF (tmps : Array Value) : ResultVar → Sem Value
 | .tmp t => pure (tmps.getD t undef)
 | .cell a t => do loadVar t (← asAddr (tmps.getD a undef))
theorem resOf_some {df : List Deferred} {sl : Tr AV} {h : H} {r : Res} (hr : r ≠ .bad) : ∀ (l : List ResultVar) (rs : List (Nat × Option (Option Nat))) (k : List AV → Res), l.mapM (cRes P) = some rs → resOf c h sl rs k = r →
  ∃ vs, k vs = r ∧ ∀ β a w, HR c.floor β (view c h) w → SlR nt df β sl a → ∃ us, VRs β vs us ∧ us.length = l.length ∧ ∀ (i : Nat) (x : ResultVar) (y : Value), l[i]? = some x → us[i]? = some y → (resF a.tmps x).run P w = .ok y w
 | [], rs, k, hm, e => by
  simp at hm; subst hm
  exact ⟨[], e, fun β a w _ _ => ⟨[], by simp [VRs], rfl, fun i x y h1 => by simp at h1⟩⟩
 | x :: l, rs, k, hm, e => by
  simp only [List.mapM_cons, Option.bind_eq_bind, Option.bind_eq_some_iff, Option.pure_def, Option.some.injEq] at hm
  obtain ⟨q, h1, rs', h2, rfl⟩ := hm
  have glue : ∀ (v : AV), resOf c h sl rs' (fun vs => k (v :: vs)) = r → (∀ β a w, HR c.floor β (view c h) w → SlR nt df β sl a → ∃ u, VR β v u ∧ (resF a.tmps x).run P w = .ok u w) →
    ∃ vs, k vs = r ∧ ∀ β a w, HR c.floor β (view c h) w → SlR nt df β sl a → ∃ us, VRs β vs us ∧ us.length = (x :: l).length ∧ ∀ (i : Nat) (x' : ResultVar) (y : Value), (x :: l)[i]? = some x' → us[i]? = some y → (resF a.tmps x').run P w = .ok y w := fun v e' hv => by
   obtain ⟨vs, k1, k2⟩ := resOf_some hr l rs' _ h2 e'
   refine ⟨v :: vs, k1, fun β a w hrr hsl => ?_⟩
   obtain ⟨u, u1, u2⟩ := hv β a w hrr hsl
   obtain ⟨us, w1, w2, w3⟩ := k2 β a w hrr hsl
   refine ⟨u :: us, by simp only [VRs]; exact ⟨u, us, rfl, u1, w1⟩, by simp [w2], fun i x' y e1 e2 => ?_⟩
   cases i with
   | zero => simp at e1 e2; subst e1 e2; exact u2
   | succ i => exact w3 i x' y (by simpa using e1) (by simpa using e2)
  cases x with
  | tmp t =>
   simp [cRes] at h1; subst h1
   simp only [resOf] at e
   exact glue _ e fun β a w hrr hsl => ⟨_, hsl.at_ t, by simp [resF]⟩
  | cell at_ t =>
   simp only [cRes, Option.bind_eq_bind, Option.bind_eq_some_iff, Option.pure_def, Option.some.injEq] at h1
   obtain ⟨n, h3, rfl⟩ := h1
   simp only [resOf] at e
   cases hs : slot sl at_ <;> rw [hs] at e <;> try (exact absurd e.symm hr)
   rename_i id off
   simp only at e
   cases hg : getB c h id with
   | none => rw [hg] at e; exact absurd e.symm hr
   | some b =>
    rw [hg] at e
    cases b with
    | map _ _ => exact absurd e.symm hr
    | iter _ _ _ _ => exact absurd e.symm hr
    | iterL _ _ _ _ _ => exact absurd e.symm hr
    | bld _ _ _ => exact absurd e.symm hr
    | byt _ _ => exact absurd e.symm hr
    | kbox _ => exact absurd e.symm hr
    | defd => exact absurd e.symm hr
    | loop _ _ _ _ _ _ _ _ => exact absurd e.symm hr
    | dead => exact absurd e.symm hr
    | cells vs =>
     simp only at e
     have pt : ∀ β a w, HR c.floor β (view c h) w → SlR nt df β sl a → ∃ L, β id = some L ∧ a.tmps.getD at_ undef = .pointer (some ⟨L.blk, L.base + off, none⟩) ∧ BR β L w (.cells vs) := fun β a w hrr hsl => by
      have := hsl.at_ at_
      rw [hs] at this
      exact ptr_of hrr this hg
     cases n with
     | none =>
      simp only at e
      cases hn : nth off vs with
      | none => rw [hn] at e; exact absurd e.symm hr
      | some v =>
       rw [hn] at e
       rw [nth_eq] at hn
       refine glue v e fun β a w hrr hsl => ?_
       obtain ⟨L, hL, hu, hb⟩ := pt β a w hrr hsl
       obtain ⟨u, hc, hvr⟩ := cell_of_br hb hn
       exact ⟨u, hvr, by simp only [resF]; rw [hu]; simp [asAddr, loadVar, isA_none h3, hc]⟩
     | some n =>
      simp only at e
      cases hn : (dropK off vs fun vs => takeK n vs fun vs => some vs) with
      | none => rw [hn] at e; exact absurd e.symm hr
      | some cs =>
       rw [hn] at e
       obtain ⟨q1, hn⟩ := dropK_some hn
       obtain ⟨q2, hn⟩ := takeK_some hn
       cases hn
       refine glue _ e fun β a w hrr hsl => ?_
       obtain ⟨L, hL, hu, hb⟩ := pt β a w hrr hsl
       obtain ⟨cs, hvr, hc⟩ := part_of_br hb (off := off) (n := n) (by simp at q2; omega)
       have hl : cs.length = n := by rw [← hvr.length]; simp; simp at q2; omega
       have hld := run_loadCells_list (P := P) w _ cs hc
       rw [hl] at hld
       refine ⟨.agg cs.toArray, by simp only [VR]; exact ⟨_, rfl, by simpa using hvr⟩, ?_⟩
       simp only [resF]; rw [hu]
       simp [asAddr, loadVar, (isA_some h3 w).1, (isA_some h3 w).2, hld]
def resV : List Value → Value
 | [u] => u
 | us => .tuple us.toArray
theorem run_results {fn : Func} {tmps : Array Value} {w : World} {us : List Value} (hl : us.length = fn.results.toList.length) (h : ∀ (i : Nat) (x : ResultVar) (y : Value), fn.results.toList[i]? = some x → us[i]? = some y → (resF tmps x).run P w = .ok y w) :
  (results fn tmps).run P w = .ok (resV us) w := by
 have h1 := run_mapM_list (P := P) (f := resF tmps) fn.results.toList us hl.symm h
 have e : results fn tmps = (do
   let vs ← fn.results.mapM (resF tmps)
   pure (if h : vs.size = 1 then vs[0] else .tuple vs)) := by
  unfold results
  rfl
 rw [e, Array.mapM_eq_mapM_toList]
 simp only [Sem.run_bind, map_eq_pure_bind, bind_assoc, pure_bind, h1, Result.andThen_ok]
 cases us with
 | nil => simp [resV]
 | cons u us =>
  cases us with
  | nil => simp [resV]
  | cons u' us => simp [resV]
end
def setAll : List AV → Nat → Tr AV → Tr AV
 | [], _, sl => sl
 | v :: vs, i, sl => setAll vs (i + 1) (Tr.set depth sl i v)
theorem slotsOf_eq : ∀ (vs : List AV) (i : Nat) (sl : Tr AV) (k : Tr AV → Res), slotsOf vs i sl k = k (setAll vs i sl)
 | [], _, _, _ => rfl
 | v :: vs, i, sl, k => by
  unfold slotsOf setAll
  rw [Tr.setK_eq]
  exact slotsOf_eq vs (i + 1) _ k
theorem slot_setAll : ∀ (vs : List AV) (i : Nat) (sl : Tr AV) (t : Nat), i + vs.length ≤ 1000000 → slot (setAll vs i sl) t = if i ≤ t ∧ t < i + vs.length then vs.getD (t - i) (.tup []) else slot sl t
 | [], i, sl, t, _ => by
  unfold setAll
  rw [if_neg]; simp
 | v :: vs, i, sl, t, h => by
  unfold setAll
  simp only [List.length_cons] at h ⊢
  rw [slot_setAll vs (i + 1) _ t (by omega), slot_set (by omega)]
  by_cases e : i = t
  ·subst e
   rw [if_neg (by omega), if_pos rfl, if_pos (by omega)]; simp
  ·by_cases q : i + 1 ≤ t ∧ t < i + 1 + vs.length
   ·rw [if_pos q, if_pos (by omega), show t - i = (t - (i + 1)) + 1 by omega]; simp
   ·rw [if_neg q, if_neg e, if_neg (by omega)]
section
variable {P : Program} {ng : Nat}
theorem start_slots {β : Bet} {args : List AV} {cargs : List Value} {nt : Nat} (hv : VRs β args cargs) (hl : args.length ≤ nt) (hnt : nt ≤ 1000000) :
  SlR nt [] β (setAll args 0 .nil) { tmps := cargs.toArray ++ Array.replicate (nt - cargs.toArray.size) undef, defers := [] } := by
 have hlen := hv.length
 refine ⟨by simp; omega, rfl, fun t => ?_⟩
 rw [slot_setAll args 0 _ t (by omega)]
 by_cases q : t < args.length
 ·rw [if_pos (by omega)]
  have e1 : args[t]? = some args[t] := by simp
  obtain ⟨u, h1, h2⟩ := hv.get e1
  have hlt := (List.getElem?_eq_some_iff.1 h1).1
  have e2 : (cargs.toArray ++ Array.replicate (nt - cargs.toArray.size) undef).getD t undef = u := by
   rw [Array.getD_eq_getD_getElem?, Array.getElem?_append_left (by simpa using hlt)]
   simp [h1]
  have e3 : args.getD (t - 0) (.tup []) = args[t] := by simp [q]
  show VR β _ ((cargs.toArray ++ Array.replicate (nt - cargs.toArray.size) undef).getD t undef)
  rw [e2, e3]; exact h2
 ·rw [if_neg (by omega)]
  have e2 : (cargs.toArray ++ Array.replicate (nt - cargs.toArray.size) undef).getD t undef = undef := by
   rw [Array.getD_eq_getD_getElem?, Array.getElem?_append_right (by simp; omega)]
   rw [Array.getElem?_replicate]
   split <;> rfl
  show VR β _ ((cargs.toArray ++ Array.replicate (nt - cargs.toArray.size) undef).getD t undef)
  rw [e2]
  have : slot (Tr.nil : Tr AV) t = .tup [] := by unfold slot; rw [Tr.get_nil]
  rw [this]; exact vr_undef
theorem outRes_some {o : Out} {e : Ex} {ds ds' : List Nat} {sl' : Tr AV} {h' : H} (x : outRes ds o = .code e sl' ds' h') : e = .normal ∧ ds' = ds ∧ o = some (sl', h') := by
 unfold outRes at x
 split at x
 ·cases x; exact ⟨rfl, rfl, rfl⟩
 ·cases x
theorem thenR_some {x : Option Res} {r : Res} (hr : r ≠ .bad) (e : thenR x = r) : x = some r := by
 unfold thenR at e
 split at e
 ·rw [e]
 ·exact absurd e.symm hr
def CodeOk (P : Program) (ng : Nat) (ih : Runner) : Prop := ∀ (c : C) (nt : Nat) (rd : Bool) (code : Code) (sl : Tr AV) (ds : List Nat) (h : H) (e : Ex) (sl' : Tr AV) (ds' : List Nat) (h' : H), nt ≤ 1000000 → Ctx c h → WF h → ih c (.code nt rd (cC P code) sl ds) h = .code e sl' ds' h' → CodeDid P ng nt rd code c sl ds h e sl' ds' h'
section
variable {c : C} {nt : Nat} {rd : Bool} {x y : Code} {sl sl1 sl2 : Tr AV} {ds ds1 ds2 : List Nat} {h h1 h2 : H} {e : Ex}
theorem CodeDid.seq (d1 : CodeDid P ng nt rd x c sl ds h .normal sl1 ds1 h1) (d2 : CodeDid P ng nt rd y c sl1 ds1 h1 e sl2 ds2 h2) : CodeDid P ng nt rd (.seq x y) c sl ds h e sl2 ds2 h2 := by
 refine ⟨d1.1.trans d2.1, fun β a w df hgb hr hdf hsl hfr ro m hro Q hQ => ?_⟩
 show (Code.seq x y).wpIn (W ro) m P Q a w
 refine wpIn_seq (WPx.wp (d1.2 β a w df hgb hr hdf hsl (fun id q1 q2 => hfr id q1 (Nat.lt_of_lt_of_le q2 d2.1.le)) ro m hro _ fun β1 a1 w1 df1 hP1 hd1 hs1 => ?_))
 exact WPx.wp (d2.2 β1 a1 w1 df1 (hgb.mono hP1.sub) hP1.hr hd1 hs1 (fresh_next hP1 hfr) ro m hro Q fun β2 a2 w2 df2 hP2 hd2 hs2 => hQ β2 a2 w2 df2 (hP1.trans hP2) hd2 hs2)
theorem CodeDid.seqOut (d1 : CodeDid P ng nt rd x c sl ds h e sl1 ds1 h1) (he : e ≠ .normal) : CodeDid P ng nt rd (.seq x y) c sl ds h e sl1 ds1 h1 := by
 refine ⟨d1.1, fun β a w df hgb hr hdf hsl hfr ro m hro Q hQ => ?_⟩
 show (Code.seq x y).wpIn (W ro) m P Q a w
 refine wpIn_seq (WPx.wp (d1.2 β a w df hgb hr hdf hsl hfr ro m hro _ fun β1 a1 w1 df1 hP1 hd1 hs1 => ?_))
 cases e with
 | normal => exact absurd rfl he
 | exit id => exact hQ β1 a1 w1 df1 hP1 hd1 hs1
 | ret => exact hQ β1 a1 w1 df1 hP1 hd1 hs1
theorem CodeDid.loop (d1 : CodeDid P ng nt rd x c sl ds h .normal sl1 ds1 h1) (d2 : CodeDid P ng nt rd (.loop x) c sl1 ds1 h1 e sl2 ds2 h2) : CodeDid P ng nt rd (.loop x) c sl ds h e sl2 ds2 h2 := by
 refine ⟨d1.1.trans d2.1, fun β a w df hgb hr hdf hsl hfr ro m hro Q hQ => ?_⟩
 show LoopWp (W ro) m P x Q a w
 refine loop_unroll (WPx.wp (d1.2 β a w df hgb hr hdf hsl (fun id q1 q2 => hfr id q1 (Nat.lt_of_lt_of_le q2 d2.1.le)) ro m hro _ fun β1 a1 w1 df1 hP1 hd1 hs1 => ?_))
 exact d2.2 β1 a1 w1 df1 (hgb.mono hP1.sub) hP1.hr hd1 hs1 (fresh_next hP1 hfr) ro m hro Q fun β2 a2 w2 df2 hP2 hd2 hs2 => hQ β2 a2 w2 df2 (hP1.trans hP2) hd2 hs2
theorem CodeDid.loopOut (d1 : CodeDid P ng nt rd x c sl ds h e sl1 ds1 h1) (he : e ≠ .normal) : CodeDid P ng nt rd (.loop x) c sl ds h e sl1 ds1 h1 := by
 refine ⟨d1.1, fun β a w df hgb hr hdf hsl hfr ro m hro Q hQ => ?_⟩
 show LoopWp (W ro) m P x Q a w
 refine loop_unroll (WPx.wp (d1.2 β a w df hgb hr hdf hsl hfr ro m hro _ fun β1 a1 w1 df1 hP1 hd1 hs1 => ?_))
 cases e with
 | normal => exact absurd rfl he
 | exit id => exact hQ β1 a1 w1 df1 hP1 hd1 hs1
 | ret => exact hQ β1 a1 w1 df1 hP1 hd1 hs1
theorem CodeDid.nothing (hw : WF h) (hx : ∀ r m (Q : Exit → Act → World → Prop) a w, Q e.toExit a w → WPx (W r) m P x Q a w) : CodeDid P ng nt rd x c sl ds h e sl ds h :=
 ⟨Step.refl hw, fun β a w df hgb hr hdf hsl hfr ro m hro Q hQ => hx ro m Q a w (hQ β a w df (Post.refl hr) hdf hsl)⟩
end
/-! writing a block that is no row of cells -/
theorem live_place {c : C} {h : H} {id : Nat} {b : AB} {β : Bet} {w : World} (hg : getB c h id = some b) (hb : b ≠ .dead) (hr : HR c.floor β (view c h) w) : ∃ L, β id = some L ∧ L.blk < w.heap.size ∧ BR β L w b := hr.at_ id b (view_live hg hb)
theorem post_put {c : C} {h : H} {id : Nat} {b b' : AB} {β : Bet} {w : World} {L : Loc} {ob : Obj} (hw : WF h) (hg : getB c h id = some b) (hb : b ≠ .dead) (hf : c.floor ≤ id) (hr : HR c.floor β (view c h) w) (hL : β id = some L)
  (hbr : BR β L { w with heap := w.heap.setIfInBounds L.blk ob } b') : Post c.floor h.n h.n β (view c h) w β (view c ⟨Tr.set depth h.t id b', h.n⟩) { w with heap := w.heap.setIfInBounds L.blk ob } := by
 obtain ⟨g1, g2⟩ := getB_get hg
 have hid : id < 10000000 := Nat.lt_of_lt_of_le (lt_of_get hw g1) hw.small
 exact post_write (b := b') hr (view_live hg hb) hL hf (fun B hB => by simp [Array.getElem?_setIfInBounds_ne (Ne.symm hB)]) (by simp) rfl rfl rfl hbr (fun j d e => view_set hid e)
theorem set_at {w : World} {b : Nat} {ob : Obj} (hlt : b < w.heap.size) : ({ w with heap := w.heap.setIfInBounds b ob } : World).heap[b]? = some ob := by simp [hlt]
/-! the marks at a function's end -/
theorem shutD_some {c : C} {r : Res} (hr : r ≠ .bad) : ∀ (ds : List Nat) (h : H) (k : H → Res), WF h → shutD c ds h k = r → ∃ h2, k h2 = r ∧ Step c h h2 ∧ h2.n = h.n ∧ ∀ β w df, HR c.floor β (view c h) w → DfR β ds df → ∀ (n : Nat) (fn : Func) (tmps : Array Value) (R : Ending → World → Prop),
  (∀ w2, Post c.floor h.n h2.n β (view c h) w β (view c h2) w2 → ∃ v, (results fn tmps).run P w2 = .ok v w2 ∧ R (.returned v) w2) → LeavesInM (W none) n P fn tmps R df .returning w
 | [], h, k, hw, e => ⟨h, e, Step.refl hw, rfl, fun β w df hrr hdf n fn tmps R hR => by
   have : df = [] := hdf
   subst this
   exact hR w (Post.refl hrr)⟩
 | d :: ds, h, k, hw, e => by
  unfold shutD at e
  split at e
  ·rename_i hg
   have e := thenR_some hr e
   obtain ⟨hf, hs, e⟩ := setB_some e
   have e : shutD c ds ⟨Tr.set depth h.t d .dead, h.n⟩ k = r := by simpa using e
   obtain ⟨g1, g2⟩ := getB_get hg
   have st := step_set (c := c) (b := .dead) hw g1 hf hs
   obtain ⟨h2, k1, k2, k3, k4⟩ := shutD_some hr ds _ k st.wf e
   refine ⟨h2, k1, st.trans k2, k3, fun β w df hrr hdf n fn tmps R hR => ?_⟩
   obtain ⟨D, df', rfl, hD, hdf'⟩ := hdf
   obtain ⟨D', q1, q2, q3⟩ := live_place hg (fun q => by cases q) hrr
   rw [hD] at q1; cases q1
   have hP := post_put (b' := .dead) (ob := .deferred none) hw hg (fun q => by cases q) hf hrr hD trivial
   refine ⟨fun q => (by cases q), Or.inl ⟨D.blk, { w with heap := w.heap.setIfInBounds D.blk (.deferred none) }, rfl, ?_, ?_⟩⟩
   ·have q3' : w.heap[D.blk]? = some (.deferred (some [])) := q3
    simp [Instr.takeDeferred, getObj, setObj, Sem.run, q3']
   ·exact k4 β _ df' hP.hr hdf' n fn tmps R fun w2 hP2 => hR w2 (hP.trans hP2)
  ·exact absurd e.symm hr
end
section
variable {P : Program} {ng : Nat} {X : Exts}
def ExtOk (P : Program) (X : Exts) : Prop := ∀ (f : Nat) (g : List AV → Option AV), extOf X f = some g → ∀ args v, g args = some v → ∀ β cargs (w : World), VRs β args cargs → ∃ u, (callFunc f cargs.toArray).run P w = .ok (.value u) w ∧ VR β v u
theorem rf_next {c : C} {nt : Nat} {f : Operand} {xf : XV} {ps : Array Nat} {assign body : Code} {ih : Runner} {sl : Tr AV} {ds : List Nat} {h : H} {e : Ex} {sl' : Tr AV} {ds' : List Nat} {h' : H} (hng : P.globals.size ≤ ng) (ihf : CallOk P ng (callOf ih)) (hc : Ctx c h) (hw : WF h)
  (hf : cV f = some xf) (hg : gOk P f = true) (hev : rfRes ih c nt ps.toList assign body sl ds h (evV sl xf) = .code e sl' ds' h') : CodeDid P ng nt false (.rangeFunc f ps assign body) c sl ds h e sl' ds' h' := by
 unfold rfRes at hev
 split at hev
 ·rename_i fid caps hv
  have e0 := thenR_some (fun q => by cases q) hev
  obtain ⟨n1, e0⟩ := newB_some e0
  obtain ⟨n2, e0⟩ := newB_some e0
  simp only [Option.some.injEq] at e0
  cases hcall : ih c (.call (.fnB fid) (.yld (h.n + 1) :: caps)) ⟨Tr.set depth (Tr.set depth h.t h.n .defd) (h.n + 1) (.loop 0 none nt sl ps.toList assign body h.n), h.n + 1 + 1⟩ with
  | bad => rw [hcall] at e0; cases e0
  | code _ _ _ _ => rw [hcall] at e0; cases e0
  | call v3 h3 =>
   rw [hcall] at e0
   simp only at e0
   have st1 : Step c h ⟨Tr.set depth h.t h.n .defd, h.n + 1⟩ := step_new hw n1
   have st2 : Step c ⟨Tr.set depth h.t h.n .defd, h.n + 1⟩ ⟨Tr.set depth (Tr.set depth h.t h.n .defd) (h.n + 1) (.loop 0 none nt sl ps.toList assign body h.n), h.n + 1 + 1⟩ := step_new st1.wf n2
   have hfd : FnDid P ng fid (.yld (h.n + 1) :: caps) c ⟨Tr.set depth (Tr.set depth h.t h.n .defd) (h.n + 1) (.loop 0 none nt sl ps.toList assign body h.n), h.n + 1 + 1⟩ v3 h3 :=
    ihf (.fnB fid) _ c _ v3 h3 (hc.mono (st1.trans st2).le) st2.wf (by unfold callOf; rw [hcall])
   obtain ⟨st3, ⟨fn, f1, f2, f3⟩, hd⟩ := hfd
   unfold rfEnd at e0
   split at e0
   ·rename_i st pend nt' sl0 ps0 as0 bo0 d0 hgl
    cases hst : Nat.beq st 2 with
    | true => rw [hst] at e0; cases e0
    | false =>
     rw [hst] at e0
     simp only [cond] at e0
     have hst' : st ≠ 2 := fun q => by subst q; simp at hst
     have e0 := thenR_some (fun q => by cases q) e0
     obtain ⟨hfl, hsn, e0⟩ := setB_some e0
     have hwf3 := st3.wf
     have st4 : Step c h3 ⟨Tr.set depth h3.t (h.n + 1) .dead, h3.n⟩ := step_set hwf3 (getB_get hgl).1 hfl hsn
     have key : sl = sl' ∧ h.n :: ds = ds' ∧ (⟨Tr.set depth h3.t (h.n + 1) .dead, h3.n⟩ : H) = h' ∧ pend.getD .normal = e := by
      cases pend with
      | none => simp only [Option.some.injEq, Res.code.injEq] at e0; obtain ⟨a1, a2, a3, a4⟩ := e0; exact ⟨a2, a3, a4, a1⟩
      | some e1 => simp only [Option.some.injEq, Res.code.injEq] at e0; obtain ⟨a1, a2, a3, a4⟩ := e0; exact ⟨a2, a3, a4, a1⟩
     obtain ⟨k1, k2, k3, k4⟩ := key
     subst k1 k2 k3 k4
     refine ⟨((st1.trans st2).trans st3).trans st4, fun β a w df hgb hr hdf hsl hfr ro m hro Q hQ => ?_⟩
     have hro' := hro rfl
     subst hro'
     have hn3 : h.n + 1 + 1 ≤ h3.n := st3.le
     have b0 : β h.n = none := hfr h.n (Nat.le_refl _) (by show h.n < h3.n; omega)
     have b1 : β (h.n + 1) = none := hfr (h.n + 1) (by omega) (by show h.n + 1 < h3.n; omega)
     have hfv := opsR_of (P := P) (sl := sl) (a := a) (ys := [f]) hng hgb (by simp [hg]) (fun t _ => hsl.at_ t) f (by simp) xf hf
     rw [hv] at hfv
     simp only [VR] at hfv
     obtain ⟨cds, hu, hcds⟩ := hfv
     -- the two new blocks
     have P1 : Post c.floor h.n (h.n + 1) β (view c h) w (upd β h.n ⟨w.heap.size, 0, 0, dv⟩) (view c ⟨Tr.set depth h.t h.n .defd, h.n + 1⟩) { w with heap := w.heap.push (.deferred (some [])) } :=
      post_push (L := ⟨w.heap.size, 0, 0, dv⟩) (b := .defd) hr n1 b0 rfl (by show (w.heap.push _)[w.heap.size]? = _; simp)
     have b1' : upd β h.n ⟨w.heap.size, 0, 0, dv⟩ (h.n + 1) = none := by rw [upd_other (by omega)]; exact b1
     have hS12 : Sub (upd β h.n ⟨w.heap.size, 0, 0, dv⟩) (upd (upd β h.n ⟨w.heap.size, 0, 0, dv⟩) (h.n + 1) ⟨w.heap.size + 1, 0, 0, dv⟩) := upd_sub _ b1'
     have hlen : ({ w with heap := w.heap.push (.deferred (some [])) } : World).heap.size = w.heap.size + 1 := by simp
     refine wpIn_rangeFunc fun fn0 _ => ?_
     let rec0 : Loop := { state := .ready, pending := none, fn := fn0, tmps := a.tmps, params := ps, assign := assign, body := body, defers := w.heap.size }
     have P2 : Post c.floor (h.n + 1) (h.n + 1 + 1) (upd β h.n ⟨w.heap.size, 0, 0, dv⟩) (view c ⟨Tr.set depth h.t h.n .defd, h.n + 1⟩) { w with heap := w.heap.push (.deferred (some [])) } (upd (upd β h.n ⟨w.heap.size, 0, 0, dv⟩) (h.n + 1) ⟨w.heap.size + 1, 0, 0, dv⟩) (view c ⟨Tr.set depth (Tr.set depth h.t h.n .defd) (h.n + 1) (.loop 0 none nt sl ps.toList assign body h.n), h.n + 1 + 1⟩) { w with heap := (w.heap.push (.deferred (some []))).push (.loop rec0) } :=
      post_push (h := ⟨Tr.set depth h.t h.n .defd, h.n + 1⟩) (L := ⟨w.heap.size + 1, 0, 0, dv⟩) (b := .loop 0 none nt sl ps.toList assign body h.n) P1.hr n2 b1' hlen.symm (by
       refine ⟨rec0, ?_, rfl, rfl, hsl.size, fun t => VR.mono (P1.sub.trans hS12) _ _ (hsl.at_ t), rfl, rfl, rfl, ⟨w.heap.size, 0, 0, dv⟩, hS12 _ _ (upd_same _ _ _), rfl⟩
       show ((w.heap.push (.deferred (some []))).push (.loop rec0))[w.heap.size + 1]? = _
       rw [Array.getElem?_push, if_pos (by simp)])
     have f3' : ¬ fn.name = "runtime.NumGoroutine" := by simpa using f3
     have f2' : ¬ fn.body = none := fun q => by rw [q] at f2; cases f2
     refine ⟨w.heap.size + 1, [{ target := .collected w.heap.size, args := #[] }], { w with heap := (w.heap.push (.deferred (some []))).push (.loop rec0) }, { target := .fn (.func fid) cds, args := #[.func (.yield (w.heap.size + 1)) #[] #[]] }, { w with heap := (w.heap.push (.deferred (some []))).push (.loop rec0) }, fid, #[.func (.yield (w.heap.size + 1)) #[] #[]] ++ cds, { w with heap := (w.heap.push (.deferred (some []))).push (.loop rec0) }, ?_, ?_, fun _ _ => trivial, ?_, fun q => (by cases q), callsIn_w.2 ?_⟩
     ·show (Instr.enterLoop fn0 a.tmps ps assign body none).run P w = _
      simp [Instr.enterLoop, rec0]
      rfl
     ·have ec : a.eval (.const (.func (.yield (w.heap.size + 1)) #[] #[])) = .func (.yield (w.heap.size + 1)) #[] #[] := rfl
      simp [resolve, rangeCall, Deferred.ofValue, hu, ec]
     ·simp [invoke, callFunc, f1, f2', f3']
     ·have earr : #[Value.func (.yield (w.heap.size + 1)) #[] #[]] ++ cds = (Value.func (.yield (w.heap.size + 1)) #[] #[] :: cds.toList).toArray := by apply Array.ext'; simp
      rw [earr]
      have hS : Sub β (upd (upd β h.n ⟨w.heap.size, 0, 0, dv⟩) (h.n + 1) ⟨w.heap.size + 1, 0, 0, dv⟩) := P1.sub.trans hS12
      refine hd _ _ _ (hgb.mono hS) P2.hr (by simp only [VRs, VR]; exact ⟨_, _, rfl, ⟨_, upd_same _ _ _, rfl⟩, VRs.mono hS _ _ hcds⟩) (fun id q1 q2 => ?_) _ fun β3 val w3 hP3 hvr => ?_
      ·have q1' : h.n + 1 + 1 ≤ id := q1
       rw [upd_other (by omega), upd_other (by omega)]
       exact hfr id (by omega) q2
      ·have hL3 : β3 (h.n + 1) = some ⟨w.heap.size + 1, 0, 0, dv⟩ := hP3.sub _ _ (upd_same _ _ _)
       obtain ⟨L', p1, p2, p3⟩ := live_place hgl (fun q => by cases q) hP3.hr
       rw [hL3] at p1; cases p1
       obtain ⟨r3, r1, r2, r3', r4, r5, r6, r7, r8, _⟩ := p3
       have P4 := post_put (b' := .dead) (ob := .loop { r3 with state := .exhausted }) hwf3 hgl (fun q => by cases q) hfl hP3.hr hL3 trivial
       have hall := ((P1.trans P2).trans hP3).trans P4
       have hbusy : ¬ r3.state = LoopState.busy := by
        rw [r2]
        match st, hst' with
        | 0, _ => exact fun q => by cases q
        | 1, _ => exact fun q => by cases q
        | 2, q => exact absurd rfl q
        | n + 3, _ => exact fun q => by cases q
       have r1' : w3.heap[w.heap.size + 1]? = some (.loop r3) := r1
       refine ⟨pend.map exCode, { w3 with heap := w3.heap.setIfInBounds (w.heap.size + 1) (.loop { r3 with state := .exhausted }) }, ?_, ?_⟩
       ·rw [← r3']
        simp [Instr.endLoop, Instr.getLoop, getObj, setObj, Sem.run, r1', hbusy]
       ·have hqd : ∀ β' (a' : Act) (hs : a' = { a with defers := { target := .collected w.heap.size, args := #[] } :: a.defers }), β' = β3 → DfR β' (h.n :: ds) a'.defers ∧ SlR nt a'.defers β' sl a' := fun β' a' hs hb => by
         subst hs hb
         refine ⟨⟨⟨w.heap.size, 0, 0, dv⟩, a.defers, rfl, hP3.sub _ _ (hS12 _ _ (upd_same _ _ _)), ?_⟩, ⟨hsl.size, rfl, fun t => VR.mono (hS.trans hP3.sub) _ _ (hsl.at_ t)⟩⟩
         rw [hsl.defers]; exact hdf.mono (hS.trans hP3.sub)
        cases pend with
        | none =>
         obtain ⟨q1, q2⟩ := hqd β3 _ rfl rfl
         exact hQ β3 _ _ _ hall q1 q2
        | some e1 =>
         obtain ⟨q1, q2⟩ := hqd β3 _ rfl rfl
         cases e1 with
         | normal => exact wpIn_skip (hQ β3 _ _ _ hall q1 q2)
         | exit id => exact wpIn_exit (hQ β3 _ _ _ hall q1 q2)
         | ret => exact wpIn_ret (hQ β3 _ _ _ hall q1 q2)
   ·cases e0
 ·cases hev
end
section
variable {P : Program} {ng : Nat} {X : Exts}
theorem putPs_some {nt : Nat} {r : Res} (hr : r ≠ .bad) (hnt : nt ≤ 1000000) : ∀ (ps : List Nat) (vs : List AV) (sl : Tr AV) (k : Tr AV → Res), putPs nt ps vs sl k = r → ∃ sl1, k sl1 = r ∧ ps.length = vs.length ∧
  ∀ β (tmps : Array Value) (cs : List Value), VRs β vs cs → tmps.size = nt → (∀ t, VR β (slot sl t) (tmps.getD t undef)) →
   ((ps.zip cs).foldl (fun (t : Array Value) (q : Nat × Value) => t.setIfInBounds q.1 q.2) tmps).size = nt ∧ ∀ t, VR β (slot sl1 t) (((ps.zip cs).foldl (fun (t : Array Value) (q : Nat × Value) => t.setIfInBounds q.1 q.2) tmps).getD t undef)
 | [], [], sl, k, e => ⟨sl, e, rfl, fun β tmps cs hv hs ht => by
   simp only [List.zip_nil_left, List.foldl_nil]
   exact ⟨hs, ht⟩⟩
 | [], _ :: _, sl, k, e => absurd e.symm hr
 | _ :: _, [], sl, k, e => absurd e.symm hr
 | p :: ps, v :: vs, sl, k, e => by
  unfold putPs at e
  cases hb : Nat.blt p nt with
  | false => rw [hb] at e; exact absurd e.symm hr
  | true =>
   rw [hb] at e
   simp only [cond, Tr.setK_eq] at e
   have hp : p < nt := by simpa [Nat.blt_eq] using hb
   obtain ⟨sl1, h1, h2, h3⟩ := putPs_some hr hnt ps vs _ k e
   refine ⟨sl1, h1, by simp [h2], fun β tmps cs hv hs ht => ?_⟩
   simp only [VRs] at hv
   obtain ⟨u, us, rfl, hu, hus⟩ := hv
   simp only [List.zip_cons_cons, List.foldl_cons]
   refine h3 β (tmps.setIfInBounds p u) us hus (by simpa using hs) fun t => ?_
   rw [slot_set (by omega)]
   have hg : (tmps.setIfInBounds p u).getD t undef = if p = t then u else tmps.getD t undef := by
    simp only [Array.getD_eq_getD_getElem?, Array.getElem?_setIfInBounds]
    by_cases q : p = t
    ·subst q; simp [hs, hp]
    ·simp [q]
   rw [hg]
   by_cases q : p = t
   ·rw [if_pos q, if_pos q]; exact hu
   ·rw [if_neg q, if_neg q]; exact ht t
theorem round_next {c : C} {id : Nat} {args : List AV} {ih : Runner} {h : H} {v : AV} {h' : H} (ihc : CodeOk P ng ih) (hc : Ctx c h) (hw : WF h) (hev : stepY (cC P) ih c id args h = .call v h') : UpDid P ng (.yld id) args c h v h' := by
 unfold stepY at hev
 split at hev
 ·rename_i st pend nt sl ps assign body d hg0
  cases hle : Nat.ble nt 1000000 with
  | false => rw [hle] at hev; cases hev
  | true =>
   rw [hle] at hev
   simp only [cond] at hev
   have hnt := Nat.le_of_ble_eq_true hle
   obtain ⟨sl1, hev, hlen, hput⟩ := putPs_some (fun q => by cases q) hnt ps args sl _ hev
   cases hx1 : ih c (.code nt true (cC P assign) sl1 []) h with
   | bad => rw [hx1] at hev; cases hev
   | call _ _ => rw [hx1] at hev; cases hev
   | code e1 sl2 ds1 h1 =>
    rw [hx1] at hev
    cases e1 with
    | exit _ => cases hev
    | ret => cases hev
    | normal =>
     cases ds1 with
     | cons _ _ => cases hev
     | nil =>
      simp only at hev
      have d1 := ihc c nt true assign sl1 [] h .normal sl2 [] h1 hnt hc hw hx1
      unfold roundBody at hev
      split at hev
      ·rename_i pend1 nt1 sl1' ps1 as1 bo1 dd1 hg1
       have hev := thenR_some (fun q => by cases q) hev
       obtain ⟨hf1, hs1, hev⟩ := setB_some hev
       simp only [Option.some.injEq] at hev
       have stB : Step c h1 ⟨Tr.set depth h1.t id (.loop 2 pend1 nt1 sl1' ps1 as1 bo1 dd1), h1.n⟩ := step_set d1.1.wf (getB_get hg1).1 hf1 hs1
       cases hx2 : ih c (.code nt true (cC P body) sl2 []) ⟨Tr.set depth h1.t id (.loop 2 pend1 nt1 sl1' ps1 as1 bo1 dd1), h1.n⟩ with
       | bad => rw [hx2] at hev; cases hev
       | call _ _ => rw [hx2] at hev; cases hev
       | code e2 sl3 ds2 h3 =>
        rw [hx2] at hev
        cases ds2 with
        | cons _ _ => cases hev
        | nil =>
         simp only at hev
         have d2 := ihc c nt true body sl2 [] _ e2 sl3 [] h3 hnt (hc.mono (d1.1.trans stB).le) stB.wf hx2
         unfold roundEnd at hev
         split at hev
         ·rename_i st3 pend3 nt3 sl3' ps3 as3 bo3 dd3 hg3
          -- how the round ends
          have fin : ∃ (stn : Nat) (pn : Option Ex) (bv : Bool), c.floor ≤ id ∧ seen c.vis id = true ∧ v = .bool bv ∧ h' = ⟨Tr.set depth h3.t id (.loop stn pn nt3 sl3' ps3 as3 bo3 dd3), h3.n⟩ ∧
            ∀ (l : Nat) (r3 : Loop) (w3 : World) (R : Ending → World → Prop) (a3 : Act), w3.heap[l]? = some (.loop r3) → (∀ r', r'.state = stOf stn → r'.pending = pn.map exCode → r' = { r3 with state := r'.state, pending := r'.pending } → R (.returned (.bool bv)) { w3 with heap := w3.heap.setIfInBounds l (.loop r') }) → roundPost P l R e2.toExit a3 w3 := by
           have hev := thenR_some (fun q => by cases q) hev
           cases e2 with
           | normal =>
            obtain ⟨q1, q2, q3⟩ := setB_some hev
            simp only [Option.some.injEq, Res.call.injEq] at q3
            refine ⟨0, none, true, q1, q2, q3.1.symm, q3.2.symm, fun l r3 w3 R a3 hl hR => ?_⟩
            exact ⟨.bool true, _, by simp [Instr.endRound, Instr.getLoop, getObj, setObj, Sem.run, hl], hR { r3 with state := .ready, pending := none } rfl rfl rfl⟩
           | exit i =>
            obtain ⟨q1, q2, q3⟩ := setB_some hev
            simp only [Option.some.injEq, Res.call.injEq] at q3
            refine ⟨1, some (.exit i), false, q1, q2, q3.1.symm, q3.2.symm, fun l r3 w3 R a3 hl hR => ?_⟩
            exact ⟨.bool false, _, by simp [Instr.endRound, Instr.getLoop, getObj, setObj, Sem.run, hl], hR { r3 with state := .done, pending := some (.exit i) } rfl rfl rfl⟩
           | ret =>
            obtain ⟨q1, q2, q3⟩ := setB_some hev
            simp only [Option.some.injEq, Res.call.injEq] at q3
            refine ⟨1, some .ret, false, q1, q2, q3.1.symm, q3.2.symm, fun l r3 w3 R a3 hl hR => ?_⟩
            exact ⟨.bool false, _, by simp [Instr.endRound, Instr.getLoop, getObj, setObj, Sem.run, hl], hR { r3 with state := .done, pending := some .ret } rfl rfl rfl⟩
          obtain ⟨stn, pn, bv, hf3, hs3, rfl, rfl, hfin⟩ := fin
          have stE : Step c h3 ⟨Tr.set depth h3.t id (.loop stn pn nt3 sl3' ps3 as3 bo3 dd3), h3.n⟩ := step_set d2.1.wf (getB_get hg3).1 hf3 hs3
          refine ⟨((d1.1.trans stB).trans d2.1).trans stE, fun β w cargs hgb hr hv hfr S hS r n o a K Q hK => ?_⟩
          obtain ⟨L, hL, rfl⟩ := hS
          obtain ⟨L', p1, p2, p3⟩ := live_place hg0 (fun q => by cases q) hr
          rw [hL] at p1; cases p1
          obtain ⟨r0, r1, r2, r3, r4, r5, r6, r7, r8, _⟩ := p3
          have hvl := hv.length
          have hps : r0.params.size = cargs.length := by rw [← hvl, ← hlen, ← r6]; simp
          obtain ⟨t1, t2⟩ := hput β r0.tmps cargs hv r4 r5
          have hrun : (Instr.yield L.blk cargs.toArray).run P w = .ok (.round L.blk r0.fn ((r0.params.zip cargs.toArray).foldl (fun tmps (q : Nat × Value) => tmps.setIfInBounds q.1 q.2) r0.tmps) r0.assign r0.body) w := by
           simp [Instr.yield, Instr.getLoop, getObj, Sem.run, r1, hps]
          rw [hrun, Oper.uponIn_round]
          have htm : (r0.params.zip cargs.toArray).foldl (fun tmps (q : Nat × Value) => tmps.setIfInBounds q.1 q.2) r0.tmps = (ps.zip cargs).foldl (fun (t : Array Value) (q : Nat × Value) => t.setIfInBounds q.1 q.2) r0.tmps := by
           rw [← Array.foldl_toList, Array.toList_zip, r6]
          rw [htm, r7, r8]
          have n01 : h.n ≤ h1.n := d1.1.le
          have n12 : h1.n ≤ h3.n := d2.1.le
          refine ⟨fun q => (by cases q), roundIn_of_wpIn trivial ?_⟩
          refine WPx.wp (F := W (some L.blk)) (d1.2 β { tmps := _, defers := [] } w [] hgb hr rfl ⟨t1, rfl, t2⟩ (fun i q1 q2 => hfr i q1 (by show i < h3.n; omega)) (some L.blk) (n - 1) (fun q => by cases q) _ fun β1 a1 w1 df1 hP1 hd1 hsl1 => ?_)
          have hdf1 : df1 = [] := hd1
          subst hdf1
          have hL1 := hP1.sub _ _ hL
          obtain ⟨L1, y1, y2, y3⟩ := live_place hg1 (fun q => by cases q) hP1.hr
          rw [hL1] at y1; cases y1
          obtain ⟨rb, z1, z2, z3, z4, z5, z6, z7, z8, D1, z9, z10⟩ := y3
          have PB := post_put (b' := .loop 2 pend1 nt1 sl1' ps1 as1 bo1 dd1) (ob := .loop { rb with state := .busy }) d1.1.wf hg1 (fun q => by cases q) hf1 hP1.hr hL1
           ⟨{ rb with state := .busy }, set_at y2, rfl, z3, z4, z5, z6, z7, z8, D1, z9, z10⟩
          refine ⟨{ w1 with heap := w1.heap.setIfInBounds L.blk (.loop { rb with state := .busy }) }, ?_, ?_⟩
          ·have z2' : rb.state = .ready := z2
           simp [Instr.beginRound, Instr.getLoop, getObj, setObj, Sem.run, z1, z2']
          ·refine WPx.wp (F := W (some L.blk)) (d2.2 β1 a1 _ [] ((hgb.mono hP1.sub)) PB.hr rfl hsl1 (fun i q1 q2 => ?_) (some L.blk) (n - 1) (fun q => by cases q) _ fun β3 a3 w3 df3 hP3 hd3 hsl3 => ?_)
           ·cases hb : β1 i with
            | none => rfl
            | some M =>
             have q1' : h1.n ≤ i := q1
             have h0 := hfr i (by omega) q2
             have := hP1.fresh i M hb h0
             omega
           ·have hL3 := hP3.sub _ _ hL1
            obtain ⟨L3, x1, x2, x3⟩ := live_place hg3 (fun q => by cases q) hP3.hr
            rw [hL3] at x1; cases x1
            obtain ⟨re, u1, u2, u3, u4, u5, u6, u7, u8, D3, u9, u10⟩ := x3
            refine hfin L.blk re w3 _ a3 u1 fun r' v1 v2 v3 => ?_
            have PE := post_put (b' := .loop stn pn nt3 sl3' ps3 as3 bo3 dd3) (ob := .loop r') d2.1.wf hg3 (fun q => by cases q) hf3 hP3.hr hL3
             ⟨r', set_at x2, v1, v2, by rw [v3]; exact u4, by rw [v3]; exact u5, by rw [v3]; exact u6, by rw [v3]; exact u7, by rw [v3]; exact u8, D3, u9, by rw [v3]; exact u10⟩
            exact hK β3 _ _ (((hP1.trans PB).trans hP3).trans PE) (by simp [VR])
         ·cases hev
      ·cases hev
 ·cases hev
end
end Go.Proofs.YtmdceifbbmnfgaaGreatDoor.Ev
