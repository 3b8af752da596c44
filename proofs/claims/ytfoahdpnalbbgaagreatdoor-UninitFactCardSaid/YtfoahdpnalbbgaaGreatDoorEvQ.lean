/- Regions in any order: the evaluator's answer holds. -/
import Derived.Test.YtfoahdpnalbbgaaGreatDoorEvO
set_option linter.unusedVariables false
set_option linter.unusedSimpArgs false
namespace Go.Proofs.YtfoahdpnalbbgaaGreatDoor.Ev
open Go
section
variable {P : Program} {ng : Nat} {c : C} {call : Caller} {nt : Nat} {ops : Array Oper}
theorem cR_plain (p : Nat) (o : Oper) : (cR P ops p o).dst = o.dst ∧ (cR P ops p o).preds = p := by
  unfold cR
  split <;> exact ⟨rfl, rfl⟩
def Good (P : Program) (ops : Array Oper) (p : Nat) (o : Oper) : Prop := ∃ xo g, cO P o = some xo ∧ cGuard ops o.guard = some g ∧ o.op.operands.toList.all (gOk P) = true ∧ cR P ops p o = { dst := o.dst, op := xo, guard := g, preds := p, mem := memO o, bar := false, foot := none }
def DD (P : Program) (ng : Nat) (ops : Array Oper) (j : Nat) (c : C) (sl : Tr AV) (h : H) (v : AV) (h' : H) : Prop := ∃ o, ops[j]? = some o ∧ DidR P ng o c sl h v h' ∧ Good P ops ((Region.before ops).getD j 0) o
def preJ (ops : Array Oper) (j i : Nat) : Prop := j < ops.size ∧ ((Region.before ops).getD j 0).testBit i = true
def looksJ (ops : Array Oper) (j t : Nat) : Prop := ∃ o, ops[j]? = some o ∧ (t ∈ o.looksAt ops ∨ o.dst = some t)
def writesJ (ops : Array Oper) (j t : Nat) : Prop := ∃ o, ops[j]? = some o ∧ o.dst = some t
theorem cDs_get {j : Nat} (hj : j < ops.size) : (cDs P ops)[j]? = some (cD P ops (Region.before ops) j) := by
  unfold cDs
  simp [List.getElem?_map, List.getElem?_range hj]
theorem cDs_lt {j : Nat} {x : XR} (h : (cDs P ops)[j]? = some x) : j < ops.size ∧ x = cD P ops (Region.before ops) j := by
  have hlt : j < ops.size := by
    have := (List.getElem?_eq_some_iff.1 h).1
    simpa [cDs] using this
  rw [cDs_get hlt] at h
  cases h
  exact ⟨hlt, rfl⟩
theorem oper_at {j : Nat} (hj : j < ops.size) : ∃ o, ops[j]? = some o := ⟨ops[j], by simp [hj]⟩
theorem dreg_tf {h : H} {T : Nat → TE} (hok : okD ops (Region.before ops) = true) (hnt : nt ≤ 1000000) (hw : WF h) (h0 : (T 0).h = h)
    (hL : ∀ j x, (cDs P ops)[j]? = some x → Link c nt (cutBase h.n c.vis) [] [] [] (DD P ng ops) 0 T j x) :
    TF c ops.size (fun j => (T j).h) (fun j => (T j).sl) (fun j => (T j).v) (fun j => (T j).c) (preJ ops) (looksJ ops) (writesJ ops) := by
  have L : ∀ j, j < ops.size → Link c nt (cutBase h.n c.vis) [] [] [] (DD P ng ops) 0 T j (cD P ops (Region.before ops) j) := fun j hj => hL j _ (cDs_get hj)
  have hpr : ∀ j, (cD P ops (Region.before ops) j).preds = (Region.before ops).getD j 0 := fun j => (cR_plain (P := P) (ops := ops) _ _).2
  refine ⟨fun j hj => (L j hj).step.le, fun j hj => ?_, fun j hj id hid => ?_, fun j i hp => ?_, fun i j hi hj hne hn1 hn2 id h1 h2 hd hsn => ?_, fun j i t hj hi hl hwr hne => ?_, fun j t hwr => ?_, fun j t hj hwr => ?_, fun j t hj hwr => ?_, fun j hj => (L j hj).low, fun j hj id hs => ?_, fun j hj => (L j hj).newer⟩
  · cases j with
    | zero => show WF (T 0).h; rw [h0]; exact hw
    | succ j => exact (L j (by omega)).step.wf
  · rcases (L j hj).step.touch id hid with e | ⟨e1, e2⟩
    · exact Or.inl e
    · exact Or.inr e2
  · obtain ⟨hj, hb⟩ := hp
    obtain ⟨o, ho⟩ := oper_at hj
    exact (okD_spec hok ho).1 i hb
  · have hbar : (T j).bar = true := by
      cases hb : (T j).bar with
      | true => rfl
      | false =>
        exfalso
        have q := (L j hj).quiet hb
        rcases (L j hj).step.touch id h1 with e | ⟨e1, _⟩
        · exact hd e
        · have h1' : id < (T j).h.n := h1
          omega
    have bit : ∀ a b, a < ops.size → ¬ preJ ops a b → ((Region.before ops).getD a 0).testBit b = false := fun a b ha hn => by
      cases hq : ((Region.before ops).getD a 0).testBit b with
      | false => rfl
      | true => exact absurd ⟨ha, hq⟩ hn
    rcases (L i hi).old id h2 hsn with hf | hm
    · rcases Nat.lt_or_ge i j with q | q
      · exact hd (((L j hj).barF hbar).2 i id q hf (by rw [hpr, Nat.zero_add]; exact bit j i hj hn1))
      · exact hd (((L i hi).footB id hf).2 j (by omega) hbar (by rw [hpr, Nat.zero_add]; exact bit i j hi hn2))
    · obtain ⟨oi, hoi⟩ := oper_at hi
      obtain ⟨hb, _⟩ := (L j hj).isbar hbar
      have hb' : (memO (ops.getD j default) && barOf ops (Region.before ops) j) = true := hb
      rw [Bool.and_eq_true] at hb'
      have hm' : memO (ops.getD i default) = true := hm
      rw [getD_of hoi] at hm'
      have := barOf_spec (o := oi) hb'.2 hoi hm' hne
      rcases Nat.lt_or_ge i j with q | q
      · exact hn1 ⟨hj, this.1 q⟩
      · exact hn2 ⟨hi, this.2 (by omega)⟩
  · obtain ⟨oj, ho, hlk⟩ := hl
    obtain ⟨oi, hoi, hd⟩ := hwr
    have := (okD_spec hok hoi).2.2 t hd j oj ho (Ne.symm hne) hlk
    exact ⟨fun q => ⟨hj, this.2 q⟩, fun q => ⟨hi, this.1 q⟩⟩
  · obtain ⟨o, h1, h2⟩ := hwr
    exact ⟨o, h1, Or.inr h2⟩
  · obtain ⟨o, h1, h2⟩ := hwr
    have hp := (L j hj).put
    have hd : (cD P ops (Region.before ops) j).dst = some t := by
      show (cR P ops _ (ops.getD j default)).dst = some t
      rw [(cR_plain _ _).1, getD_of h1, h2]
    rw [hd] at hp
    obtain ⟨h3, h4⟩ := hp
    show slot (T (j + 1)).sl t = (T j).v
    rw [h4, slot_set (by omega), if_pos rfl]
  · have hp := (L j hj).put
    obtain ⟨o, h1⟩ := oper_at hj
    have hd : (cD P ops (Region.before ops) j).dst = o.dst := by
      show (cR P ops _ (ops.getD j default)).dst = o.dst
      rw [(cR_plain _ _).1, getD_of h1]
    rw [hd] at hp
    cases ho : o.dst with
    | none => rw [ho] at hp; show slot (T (j + 1)).sl t = slot (T j).sl t; rw [show (T (j + 1)).sl = (T j).sl from hp]
    | some d =>
      rw [ho] at hp
      obtain ⟨h3, h4⟩ := hp
      show slot (T (j + 1)).sl t = slot (T j).sl t
      rw [h4, slot_set (by omega), if_neg]
      intro e; subst e
      exact hwr ⟨o, h1, ho⟩
  · rcases (L j hj).sees id hs with q | q | ⟨r, q, _⟩ | ⟨k, q1, q2, q3⟩
    · exact Or.inl q
    · have := cutBase_seen q
      refine Or.inr (Or.inl ⟨this.1, ?_⟩)
      show id < (T 0).h.n
      rw [h0]; exact this.2
    · cases q
    · refine Or.inr (Or.inr ⟨k, q1, ⟨hj, ?_⟩, q3⟩)
      rw [hpr, Nat.zero_add] at q2
      exact q2
theorem tf_step {m : Nat} {hs : Nat → H} {sls : Nat → Tr AV} {vs : Nat → AV} {cs : Nat → C} {pre : Nat → Nat → Prop} {looks writes : Nat → Nat → Prop} (F : TF c m hs sls vs cs pre looks writes)
    (hst : ∀ j, j < m → Step (cs j) (hs j) (hs (j + 1))) : Step c (hs 0) (hs m) := by
  have : ∀ j, j ≤ m → ∀ id, id < (hs 0).n → Tr.get (hs j).t id = Tr.get (hs 0).t id ∨ (c.floor ≤ id ∧ seen c.vis id = true) := by
    intro j
    induction j with
    | zero => intro _ id _; exact Or.inl rfl
    | succ j ih =>
      intro hj id hid
      have h0 := F.mono' (i := 0) (j := j) (by omega) (by omega)
      rcases (hst j (by omega)).touch id (by omega) with e | ⟨e1, e2⟩
      · rcases ih (by omega) id hid with e' | e'
        · exact Or.inl (e.trans e')
        · exact Or.inr e'
      · refine Or.inr ⟨Nat.le_trans (F.low j (by omega)) e1, ?_⟩
        rcases F.sees j (by omega) id e2 with q | q | ⟨i, q1, q2, q3, q4⟩
        · omega
        · exact q.1
        · have := F.mono' (i := 0) (j := i) (by omega) (by omega); omega
  exact ⟨F.mono' (by omega) (by omega), F.wf m (by omega), this m (by omega)⟩
/-- at the start -/
theorem inv_start {df : List Deferred} {m : Nat} {hs : Nat → H} {sls : Nat → Tr AV} {vs : Nat → AV} {cs : Nat → C} {pre : Nat → Nat → Prop} {looks writes : Nat → Nat → Prop} (F : TF c m hs sls vs cs pre looks writes)
    {X : Nat → Prop} (hX : ∀ i, ¬ X i) {β : Bet} {w : World} {a : Act} (hr : HR β (view c (hs 0)) w) (hsl : SlR nt df β (sls 0) a) : Inv F nt df (hs m).n β w X β a w := by
  have hmm := F.mono' (i := 0) (j := m) (by omega) (by omega)
  have hP : Post c.floor (hs 0).n (hs m).n β (view c (hs 0)) w β (view c (hs 0)) w :=
    ⟨hmm, Sub.refl _, fun id L h1 h2 => by (rw [h2] at h1; cases h1), hr, rfl, rfl, rfl, Nat.le_refl _, fun _ _ _ => rfl, fun id L h1 h2 => by (rw [h2] at h1; cases h1), fun id b h => Or.inl ⟨b, h⟩⟩
  refine ⟨fun i h => absurd h (hX i), fun i p h => absurd h (hX i), ⟨_, hP, fun j hj _ id b _ e => ?_⟩, fun id L h1 h2 => by (rw [h2] at h1; cases h1), fun j hj _ t _ => ?_, hsl.size, hsl.defers⟩
  · by_cases c1 : ∃ i, i < j ∧ i < m ∧ ¬ X i ∧ id < (hs i).n ∧ Tr.get (hs (i + 1)).t id ≠ Tr.get (hs i).t id
    · exact Or.inr (Or.inl c1)
    · obtain ⟨e1, e2⟩ := getB_view e
      have hlt := lt_of_get (F.wf j hj) e1
      rcases Nat.lt_or_ge id (hs 0).n with x | x
      · refine Or.inr (Or.inr ?_)
        have := F.same' (i := 0) (j := j) (by omega) hj x (fun k _ h2 hd => c1 ⟨k, h2, by omega, hX k, Nat.lt_of_lt_of_le x (F.mono' (by omega) (by omega)), hd⟩)
        exact (view_same this.symm e2 e2).trans e
      · obtain ⟨k, h1, h2, h3⟩ := F.owner (i := 0) (id := id) j (by omega) x (by simpa using hlt)
        exact Or.inl ⟨k, by omega, hX k, h3⟩
  · by_cases c1 : ∃ i, i < j ∧ i < m ∧ ¬ X i ∧ writes i t
    · exact Or.inl c1
    · refine Or.inr ?_
      have := F.keptTo (i := 0) (t := t) j (by omega) (fun k _ h2 h3 => c1 ⟨k, by omega, by omega, hX k, h3⟩)
      rw [Nat.zero_add] at this
      rw [this]; exact hsl.at_ t
theorem listed_all {listed : Array Bool} (hsz : listed.size = ops.size) (hok : okD ops (Region.before ops) = true) (hr : Region.ready .any ops listed = []) : ∀ n j, j < n → j < ops.size → listed.getD j false = true := by
  intro n
  induction n with
  | zero => intro j h; omega
  | succ n ih =>
    intro j hj hlt
    cases hb : listed.getD j false with
    | true => rfl
    | false =>
      exfalso
      obtain ⟨o, ho⟩ := oper_at hlt
      have : j ∈ Region.ready .any ops listed := by
        rw [mem_ready]
        refine ⟨?_, o, ho, fun e he hbn => ?_⟩
        · have hl : j < listed.size := by omega
          simp [Array.getD_eq_getD_getElem?, hl] at hb ⊢
          exact hb
        · have := (okD_spec hok ho).2.1 e he hbn
          exact ih e.on (by omega) (by omega)
      rw [hr] at this; cases this
theorem dreg_any {df : List Deferred} {rd : Option Nat} {m : Nat} {h : H} {T : Nat → TE} (hng : P.globals.size ≤ ng) (hok : okD ops (Region.before ops) = true) (hnt : nt ≤ 1000000) (hw : WF h) (h0 : (T 0).h = h) (hc : Ctx c h)
    (hL : ∀ j x, (cDs P ops)[j]? = some x → Link c nt (cutBase h.n c.vis) [] [] [] (DD P ng ops) 0 T j x)
    (F : TF c ops.size (fun j => (T j).h) (fun j => (T j).sl) (fun j => (T j).v) (fun j => (T j).c) (preJ ops) (looksJ ops) (writesJ ops))
    {β0 : Bet} {w0 : World} (hgb : GB ng β0) (hfr : ∀ id, (T 0).h.n ≤ id → id < (T ops.size).h.n → β0 id = none) {Q : Exit → Act → World → Prop}
    (hQ : ∀ β' a' w', Post c.floor (T 0).h.n (T ops.size).h.n β0 (view c (T 0).h) w0 β' (view c (T ops.size).h) w' → SlR nt df β' (T ops.size).sl a' → Q .normal a' w') :
    ∀ (fuel : Nat) (listed : Array Bool) (β : Bet) (a : Act) (w : World), listed.size = ops.size → (List.range ops.size).countP (fun i => !listed.getD i false) ≤ fuel → Inv F nt df (T ops.size).h.n β0 w0 (fun i => listed.getD i false = true) β a w →
      wpAnyIn (W rd) m P .any ops Q fuel listed a w := by
  have fin : ∀ (listed : Array Bool) (β : Bet) (a : Act) (w : World), listed.size = ops.size → (∀ j, j < ops.size → listed.getD j false = true) → Inv F nt df (T ops.size).h.n β0 w0 (fun i => listed.getD i false = true) β a w → Q .normal a w := by
    intro listed β a w hsz hall I
    have hnX : ¬ (listed.getD ops.size false = true) := by simp [Array.getD_eq_getD_getElem?, Array.getElem?_eq_none (Nat.le_of_eq hsz)]
    obtain ⟨V, hP, hV⟩ := I.heap
    refine hQ β a w (hP.toSub fun id b e => ?_) ⟨I.size, I.defers, fun t => ?_⟩
    · rcases hV ops.size (Nat.le_refl _) hnX id b (fun q => absurd q (Nat.lt_irrefl _)) e with ⟨i, h1, h2, _⟩ | ⟨i, _, h1, h2, _⟩ | q
      · exact absurd (hall i h1) h2
      · exact absurd (hall i h1) h2
      · exact q
    · rcases I.sl ops.size (Nat.le_refl _) hnX t (fun q => absurd q (Nat.lt_irrefl _)) with ⟨i, _, h1, h2, _⟩ | q
      · exact absurd (hall i h1) h2
      · exact q
  intro fuel
  induction fuel with
  | zero =>
    intro listed β a w hsz hcnt I
    have hall : ∀ j, j < ops.size → listed.getD j false = true := fun j hj => by
      have := List.countP_eq_zero.1 (Nat.le_zero.1 hcnt) j (List.mem_range.2 hj)
      simpa using this
    refine ⟨?_, fin listed β a w hsz hall I⟩
    cases hr : Region.ready .any ops listed with
    | nil => rfl
    | cons j rest =>
      exfalso
      have : j ∈ Region.ready .any ops listed := by rw [hr]; simp
      rw [mem_ready] at this
      obtain ⟨h1, o, h2, _⟩ := this
      have hlt := (Array.getElem?_eq_some_iff.1 h2).1
      have h3 := hall j hlt
      have hl : j < listed.size := by omega
      simp [Array.getD_eq_getD_getElem?, hl] at h1 h3
      rw [h1] at h3; cases h3
  | succ fuel ih =>
    intro listed β a w hsz hcnt I
    refine ⟨fun hr => fin listed β a w hsz (fun j hj => listed_all hsz hok hr (j + 1) j (by omega) hj) I, fun j hj => ?_⟩
    rw [mem_ready] at hj
    obtain ⟨h1, o, ho, h3⟩ := hj
    have hlt := (Array.getElem?_eq_some_iff.1 ho).1
    have hl : j < listed.size := by omega
    have hnX : ¬ (listed.getD j false = true) := by
      simp [Array.getD_eq_getD_getElem?, hl] at h1 ⊢
      exact h1
    have hp : ∀ p, preJ ops j p → listed.getD p false = true := fun p hpp => by
      obtain ⟨o', q1, e, q2, q3, q4⟩ := before_ok ops j p hpp.2
      rw [ho] at q1; cases q1
      have q5 := h3 e q2 q3
      rcases q4 with q4 | q4
      · rw [q4]; exact q5
      · have := (okD_spec hok ho).2.1 e q2 q3
        exact I.dc e.on p q5 ⟨by omega, q4⟩
    have hLj := hL j _ (cDs_get hlt)
    have hc' : Ctx c ((fun j => (T j).h) 0) := by show Ctx c (T 0).h; rw [h0]; exact hc
    obtain ⟨r1, r2, r3, _⟩ := I.runs hc' hlt hnX hp hfr
    have hsub : Sub β0 β := by obtain ⟨V, hP, _⟩ := I.heap; exact hP.sub
    have hXeq : (fun k => (listed.setIfInBounds j true).getD k false = true) = (fun k => listed.getD k false = true ∨ k = j) := by
      funext k
      apply propext
      by_cases hk : k = j
      · subst hk; simp [Array.getD_eq_getD_getElem?, Array.getElem?_setIfInBounds, hl]
      · rw [getD_set_ne false (Ne.symm hk)]; simp [hk]
    have hcnt' : (List.range ops.size).countP (fun i => !(listed.setIfInBounds j true).getD i false) ≤ fuel := by
      have := countP_lt (p := fun i => !listed.getD i false) (q := fun i => !(listed.setIfInBounds j true).getD i false) (List.mem_range.2 hlt) (by simpa using hnX) (by simp [Array.getD_eq_getD_getElem?, Array.getElem?_setIfInBounds, hl]) (fun k hk => by
        by_cases hkj : k = j
        · subst hkj; simp [Array.getD_eq_getD_getElem?, Array.getElem?_setIfInBounds, hl] at hk
        · rw [getD_set_ne false (Ne.symm hkj)] at hk; exact hk)
      omega
    have hsz' : (listed.setIfInBounds j true).size = ops.size := by simpa using hsz
    have hput : PutR nt (T j).sl o.dst (T j).v (T (j + 1)).sl := by
      have := hLj.put
      have hd : (cD P ops (Region.before ops) j).dst = o.dst := by
        show (cR P ops _ (ops.getD j default)).dst = o.dst
        rw [(cR_plain _ _).1, getD_of ho]
      rw [hd] at this; exact this
    -- behind the operation
    have next : ∀ β' val w', Post (T j).c.floor (T j).h.n (T (j + 1)).h.n β (view (T j).c (T j).h) w β' (view (T j).c (T (j + 1)).h) w' → VR β' (T j).v val → wpAnyIn (W rd) m P .any ops Q fuel (listed.setIfInBounds j true) (a.put o.dst val) w' := fun β' val w' hPo hv => by
      refine ih _ β' _ w' hsz' hcnt' ?_
      rw [hXeq]
      refine I.step hc' hlt hnX hp hfr (Nat.le_refl _) hPo (put_size.trans I.size) (put_defers.trans I.defers) (fun t hwt => ?_) (fun t hwt => ?_)
      · obtain ⟨o', q1, q2⟩ := hwt
        rw [ho] at q1; cases q1
        rw [q2] at hput ⊢
        rw [getD_put (by rw [I.size]; exact hput.1), if_pos rfl]
        exact hv
      · cases hd : o.dst with
        | none => rfl
        | some d =>
          rw [hd] at hput
          rw [getD_put (by rw [I.size]; exact hput.1), if_neg]
          intro e; subst e
          exact hwt ⟨o, ho, hd⟩
    unfold wpOpIn
    rw [ho]
    have good : Good P ops ((Region.before ops).getD j 0) o := by
      rcases cR_spec (P := P) (ops := ops) ((Region.before ops).getD j 0) o with q | ⟨q1, q2⟩
      · exact q
      · have hgd : (cD P ops (Region.before ops) j).guard = none := by
          show (cR P ops _ (ops.getD j default)).guard = none
          rw [getD_of ho, q2]
        have hd := hLj.on (by rw [hgd]; rfl)
        rw [Nat.zero_add] at hd
        obtain ⟨o', e1, _, e2⟩ := hd
        rw [ho] at e1; cases e1
        exact e2
    obtain ⟨xo, g, q1, q2, q3, q4⟩ := good
    have hgd : (cD P ops (Region.before ops) j).guard = g := by
      show (cR P ops _ (ops.getD j default)).guard = g
      rw [getD_of ho, q4]
    have hwt : wants (T j).sl g = Region.wanted o (yielded ops a.tmps) := wants_eq (ops := ops) (β := β) q2 (fun t ht => r2 t ⟨o, ho, Or.inl (by
      obtain ⟨k, wt, e1, e2⟩ := ht
      unfold Oper.looksAt
      rw [e1]
      simp only [e2]
      simp)⟩)
    cases hwn : wants (T j).sl g with
    | true =>
      have hd := hLj.on (by rw [hgd]; exact hwn)
      rw [Nat.zero_add] at hd
      obtain ⟨o', e1, ⟨hst, hdd⟩, _⟩ := hd
      rw [ho] at e1; cases e1
      simp only [← hwt, hwn, if_true]
      exact (hdd β a w (hgb.mono hsub) r1 (opsR_of hng (hgb.mono hsub) q3 fun t ht => r2 t ⟨o, ho, Or.inl (by
        unfold Oper.looksAt
        refine List.mem_append.2 (Or.inl (List.mem_filterMap.2 ⟨.tmp t, ht, rfl⟩)))⟩) r3 _ _ _ Q next)
    | false =>
      obtain ⟨e1, e2⟩ := hLj.off (by rw [hgd]; exact hwn)
      simp only [← hwt, hwn, Bool.false_eq_true, if_false]
      refine ⟨fun _ _ => trivial, next β undef w ?_ (by rw [e2]; exact vr_undef)⟩
      rw [e1]; exact Post.refl r1
end
end Go.Proofs.YtfoahdpnalbbgaaGreatDoor.Ev
