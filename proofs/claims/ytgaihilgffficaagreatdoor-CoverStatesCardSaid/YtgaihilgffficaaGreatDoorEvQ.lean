/- CoverStates, part 7 -/
import Derived.Test.YtgaihilgffficaaGreatDoorEvN
import Derived.Maps.RangeRun
set_option linter.all false
namespace Go.Proofs.YtgaihilgffficaaGreatDoor.Ev
open Go
section
variable {dr : Prop}
section
variable {P : Program} {ng : Nat} {c : C} {call : ez} {nt : Nat} {ops : Array Oper}
theorem qo (p : Nat) (o : Oper) : (cR P ops p o).dst = o.dst ∧ (cR P ops p o).bt = p := by
 unfold cR
 split <;> exact ⟨rfl, rfl⟩
def Good (P : Program) (ops : Array Oper) (p : Nat) (o : Oper) : Prop := ∃ xo g, cO P o = some xo ∧ uV ops o.guard = some g ∧ o.op.operands.toList.all (NT P) = true ∧ cR P ops p o = { dst := o.dst, op := xo, guard := g, bt := p, mem := kW o, oJ := false, fc := none }
def DD (dr : Prop) (P : Program) (ng : Nat) (ops : Array Oper) (j : Nat) (c : C) (sl : Tr AV) (h : H) (v : AV) (h' : H) : Prop := ∃ o, ops[j]? = some o ∧ KV dr P ng o c sl h v h' ∧ Good P ops ((Region.before ops).getD j 0) o
def K4 (ops : Array Oper) (j i : Nat) : Prop := j < ops.size ∧ ((Region.before ops).getD j 0).testBit i = true
def IG (ops : Array Oper) (j t : Nat) : Prop := ∃ o, ops[j]? = some o ∧ (t ∈ o.looksAt ops ∨ o.dst = some t)
def Er (ops : Array Oper) (j t : Nat) : Prop := ∃ o, ops[j]? = some o ∧ o.dst = some t
theorem tx {j : Nat} (hj : j < ops.size) : (Ih P ops)[j]? = some (cD P ops (Region.before ops) j) := by
 unfold Ih
 simp [List.getElem?_map, List.getElem?_range hj]
theorem N0 {j : Nat} {x : XR} (h : (Ih P ops)[j]? = some x) : j < ops.size ∧ x = cD P ops (Region.before ops) j := by
 have hlt : j < ops.size := by
  have := (List.getElem?_eq_some_iff.1 h).1
  simpa [Ih] using this
 rw [tx hlt] at h
 cases h
 exact ⟨hlt, rfl⟩
theorem qq {j : Nat} (hj : j < ops.size) : ∃ o, ops[j]? = some o := ⟨ops[j], by simp [hj]⟩
theorem K5 {h : H} {T : Nat → TE} (jt : Mu ops (Region.before ops) = true) (hnt : nt ≤ 1000000) (hw : WF h) (h0 : (T 0).h = h)
    (hL : ∀ j x, (Ih P ops)[j]? = some x → nE c nt (bD h.n c.cM) [] [] [] (DD dr P ng ops) 0 T j x) :
    TF c ops.size (fun j => (T j).h) (fun j => (T j).sl) (fun j => (T j).v) (fun j => (T j).c) (K4 ops) (IG ops) (Er ops) := by
 have L : ∀ j, j < ops.size → nE c nt (bD h.n c.cM) [] [] [] (DD dr P ng ops) 0 T j (cD P ops (Region.before ops) j) := fun j hj => hL j _ (tx hj)
 have hpr : ∀ j, (cD P ops (Region.before ops) j).bt = (Region.before ops).getD j 0 := fun j => (qo (P := P) (ops := ops) _ _).2
 refine ⟨fun j hj => (L j hj).step.le, fun j hj => ?_, fun j hj id bV => ?_, fun j i hp => ?_, fun i j hi hj hne hn1 hn2 id h1 h2 hd hsn => ?_, fun j i t hj hi hl hwr hne => ?_, fun j t hwr => ?_, fun j t hj hwr => ?_, fun j t hj hwr => ?_, fun j hj => (L j hj).low, fun j hj id hs => ?_, fun j hj => (L j hj).Bv⟩
 ·cases j with
  | zero => show WF (T 0).h; rw [h0]; exact hw
  | succ j => exact (L j om).step.wf
 ·rcases (L j hj).step.r9 id bV with e | ⟨e1, e2⟩
  ·exact Or.inl e
  ·exact Or.inr e2
 ·obtain ⟨hj, hb⟩ := hp
  obtain ⟨o, ho⟩ := qq hj
  exact (qm jt ho).1 i hb
 ·have hbar : (T j).oJ = true := by
    cases hb : (T j).oJ with
    | true => rfl
    | false =>
     exfalso
     have q := (L j hj).quiet hb
     rcases (L j hj).step.r9 id h1 with e | ⟨e1, _⟩
     ·exact hd e
     ·have h1' : id < (T j).h.n := h1
      omega
  have bit : ∀ a b, a < ops.size → ¬ K4 ops a b → ((Region.before ops).getD a 0).testBit b = false := fun a b ha hn => by
   cases hq : ((Region.before ops).getD a 0).testBit b with
   | false => rfl
   | true => exact absurd ⟨ha, hq⟩ hn
  rcases (L i hi).jG id h2 hsn with hf | hm
  ·rcases Nat.lt_or_ge i j with q | q
   ·exact hd (((L j hj).KY hbar).2 i id q hf (by rw [hpr, Nat.zero_add]; exact bit j i hj hn1))
   ·exact hd (((L i hi).Ek id hf).2 j om hbar (by rw [hpr, Nat.zero_add]; exact bit i j hi hn2))
  ·obtain ⟨oi, hoi⟩ := qq hi
   obtain ⟨hb, _⟩ := (L j hj).Mv hbar
   have hb' : (kW (ops.getD j default) && Ef ops (Region.before ops) j) = true := hb
   rw [Bool.and_eq_true] at hb'
   have hm' : kW (ops.getD i default) = true := hm
   rw [fu hoi] at hm'
   have := Dr (o := oi) hb'.2 hoi hm' hne
   rcases Nat.lt_or_ge i j with q | q
   ·exact hn1 ⟨hj, this.1 q⟩
   ·exact hn2 ⟨hi, this.2 om⟩
 ·obtain ⟨oj, ho, hlk⟩ := hl
  obtain ⟨oi, hoi, hd⟩ := hwr
  have := (qm jt hoi).2.2 t hd j oj ho (Ne.symm hne) hlk
  exact ⟨fun q => ⟨hj, this.2 q⟩, fun q => ⟨hi, this.1 q⟩⟩
 ·obtain ⟨o, h1, h2⟩ := hwr
  exact ⟨o, h1, Or.inr h2⟩
 ·obtain ⟨o, h1, h2⟩ := hwr
  have hp := (L j hj).put
  have hd : (cD P ops (Region.before ops) j).dst = some t := by
   show (cR P ops _ (ops.getD j default)).dst = some t
   rw [(qo _ _).1, fu h1, h2]
  rw [hd] at hp
  obtain ⟨h3, h4⟩ := hp
  show slot (T (j + 1)).sl t = (T j).v
  rw [h4, mu (by omega), if_pos rfl]
 ·have hp := (L j hj).put
  obtain ⟨o, h1⟩ := qq hj
  have hd : (cD P ops (Region.before ops) j).dst = o.dst := by
   show (cR P ops _ (ops.getD j default)).dst = o.dst
   rw [(qo _ _).1, fu h1]
  rw [hd] at hp
  cases ho : o.dst with
  | none => rw [ho] at hp; show slot (T (j + 1)).sl t = slot (T j).sl t; rw [show (T (j + 1)).sl = (T j).sl from hp]
  | some d =>
   rw [ho] at hp
   obtain ⟨h3, h4⟩ := hp
   show slot (T (j + 1)).sl t = slot (T j).sl t
   rw [h4, mu (by omega), if_neg]
   intro e; subst e
   exact hwr ⟨o, h1, ho⟩
 ·rcases (L j hj).Dp id hs with q | q | ⟨r, q, _⟩ | ⟨k, q1, q2, q3⟩
  ·exact Or.inl q
  ·have := iI q
   refine Or.inr (Or.inl ⟨this.1, ?_⟩)
   show id < (T 0).h.n
   rw [h0]; exact this.2
  ·cases q
  ·refine Or.inr (Or.inr ⟨k, q1, ⟨hj, ?_⟩, q3⟩)
   rw [hpr, Nat.zero_add] at q2
   exact q2
theorem K6 {m : Nat} {hs : Nat → H} {sls : Nat → Tr AV} {vs : Nat → AV} {cs : Nat → C} {pre : Nat → Nat → Prop} {looks writes : Nat → Nat → Prop} (F : TF c m hs sls vs cs pre looks writes)
    (hst : ∀ j, j < m → Step (cs j) (hs j) (hs (j + 1))) : Step c (hs 0) (hs m) := by
 have : ∀ j, j ≤ m → ∀ id, id < (hs 0).n → Tr.get (hs j).t id = Tr.get (hs 0).t id ∨ (c.floor ≤ id ∧ seen c.cM id = true) := by
  intro j
  induction j with
  | zero => intro _ id _; exact Or.inl rfl
  | succ j ih =>
   intro hj id bV
   have h0 := F.gE (i := 0) (j := j) om om
   rcases (hst j om).r9 id om with e | ⟨e1, e2⟩
   ·rcases ih om id bV with e' | e'
    ·exact Or.inl (e.trans e')
    ·exact Or.inr e'
   ·refine Or.inr ⟨Nat.le_trans (F.low j om).1 e1, ?_⟩
    rcases F.Dp j om id e2 with q | q | ⟨i, q1, q2, q3, q4⟩
    ·omega
    ·exact q.1
    ·have := F.gE (i := 0) (j := i) om om; omega
 exact ⟨F.gE om om, F.wf m om, this m om⟩
theorem F0 {df : List Deferred} {m : Nat} {hs : Nat → H} {sls : Nat → Tr AV} {vs : Nat → AV} {cs : Nat → C} {pre : Nat → Nat → Prop} {looks writes : Nat → Nat → Prop} (F : TF c m hs sls vs cs pre looks writes)
    {X : Nat → Prop} (hX : ∀ i, ¬ X i) {β : cn} {w : World} {a : Act} (hr : HR c.floor β (view c (hs 0)) w) (hsl : tu nt df β (sls 0) a) : Inv dr F nt df (hs m).n β w X β a w := by
 have hmm := F.gE (i := 0) (j := m) om om
 have hP : cI dr c.floor (hs 0).n (hs m).n β (view c (hs 0)) w β (view c (hs 0)) w :=
  ⟨hmm, Sub.refl _, fun id L h1 h2 => by (rw [h2] at h1; cases h1), hr, rfl, ⟨rfl, fun _ => Nat.le_refl _⟩, rfl, Nat.le_refl _, fun _ _ _ => rfl, fun id L h1 h2 => by (rw [h2] at h1; cases h1), fun id b h => Or.inl ⟨b, h⟩⟩
 refine ⟨fun i h => absurd h (hX i), fun i p h => absurd h (hX i), ⟨_, hP, fun j hj _ id b _ e => ?_⟩, fun id L h1 h2 => by (rw [h2] at h1; cases h1), fun j hj _ t _ => ?_, hsl.size, hsl.defers⟩
 ·by_cases c1 : ∃ i, i < j ∧ i < m ∧ ¬ X i ∧ id < (hs i).n ∧ Tr.get (hs (i + 1)).t id ≠ Tr.get (hs i).t id
  ·exact Or.inr (Or.inl c1)
  ·obtain ⟨e1, e2⟩ := da e
   have hlt := fO (F.wf j hj) e1
   rcases Nat.lt_or_ge id (hs 0).n with x | x
   ·refine Or.inr (Or.inr ?_)
    have := F.Ix (i := 0) (j := j) om hj x (fun k _ h2 hd => c1 ⟨k, h2, om, hX k, Nat.lt_of_lt_of_le x (F.gE om om), hd⟩)
    exact (ru this.symm e2 e2).trans e
   ·obtain ⟨k, h1, h2, h3⟩ := F.owner (i := 0) (id := id) j om x (by simpa using hlt)
    exact Or.inl ⟨k, om, hX k, h3⟩
 ·by_cases c1 : ∃ i, i < j ∧ i < m ∧ ¬ X i ∧ writes i t
  ·exact Or.inl c1
  ·refine Or.inr ?_
   have := F.Dq (i := 0) (t := t) j om (fun k _ h2 h3 => c1 ⟨k, om, om, hX k, h3⟩)
   rw [Nat.zero_add] at this
   rw [this]; exact hsl.at_ t
theorem Ds {listed : Array Bool} (hsz : listed.size = ops.size) (jt : Mu ops (Region.before ops) = true) (hr : Region.ready .any ops listed = []) : ∀ n j, j < n → j < ops.size → listed.getD j false = true := by
 intro n
 induction n with
 | zero => intro j h; omega
 | succ n ih =>
  intro j hj hlt
  cases hb : listed.getD j false with
  | true => rfl
  | false =>
   exfalso
   obtain ⟨o, ho⟩ := qq hlt
   have : j ∈ Region.ready .any ops listed := by
    rw [mem_ready]
    refine ⟨?_, o, ho, fun e he hbn => ?_⟩
    ·have hl : j < listed.size := by omega
     simp [Array.getD_eq_getD_getElem?, hl] at hb ⊢
     exact hb
    ·have := (qm jt ho).2.1 e he hbn
     exact ih e.on om om
   rw [hr] at this; cases this
theorem IH {df : List Deferred} {rd : Option Nat} {m : Nat} {h : H} {T : Nat → TE} (hng : P.globals.size ≤ ng) (jt : Mu ops (Region.before ops) = true) (hnt : nt ≤ 1000000) (hw : WF h) (h0 : (T 0).h = h) (hc : Ctx c h)
    (hL : ∀ j x, (Ih P ops)[j]? = some x → nE c nt (bD h.n c.cM) [] [] [] (DD dr P ng ops) 0 T j x)
    (F : TF c ops.size (fun j => (T j).h) (fun j => (T j).sl) (fun j => (T j).v) (fun j => (T j).c) (K4 ops) (IG ops) (Er ops))
    {β0 : cn} {w0 : World} (hgb : GB ng β0) (hfr : ∀ id, (T 0).h.n ≤ id → id < (T ops.size).h.n → β0 id = none) {Q : Exit → Act → World → Prop}
    (hQ : ∀ β' a' w', cI dr c.floor (T 0).h.n (T ops.size).h.n β0 (view c (T 0).h) w0 β' (view c (T ops.size).h) w' → tu nt df β' (T ops.size).sl a' → Q .normal a' w') :
    ∀ (fuel : Nat) (listed : Array Bool) (β : cn) (a : Act) (w : World), listed.size = ops.size → (List.range ops.size).countP (fun i => !listed.getD i false) ≤ fuel → Inv dr F nt df (T ops.size).h.n β0 w0 (fun i => listed.getD i false = true) β a w →
     wpAnyIn (W rd) m P .any ops Q fuel listed a w := by
 have fin : ∀ (listed : Array Bool) (β : cn) (a : Act) (w : World), listed.size = ops.size → (∀ j, j < ops.size → listed.getD j false = true) → Inv dr F nt df (T ops.size).h.n β0 w0 (fun i => listed.getD i false = true) β a w → Q .normal a w := by
  intro listed β a w hsz hall I
  have hnX : ¬ (listed.getD ops.size false = true) := by simp [Array.getD_eq_getD_getElem?, Array.getElem?_eq_none (Nat.le_of_eq hsz)]
  obtain ⟨V, hP, hV⟩ := I.heap
  refine hQ β a w (hP.toSub fun id b e => ?_) ⟨I.size, I.defers, fun t => ?_⟩
  ·rcases hV ops.size (Nat.le_refl _) hnX id b (fun q => absurd q (Nat.lt_irrefl _)) e with ⟨i, h1, h2, _⟩ | ⟨i, _, h1, h2, _⟩ | q
   ·exact absurd (hall i h1) h2
   ·exact absurd (hall i h1) h2
   ·exact q
  ·rcases I.sl ops.size (Nat.le_refl _) hnX t (fun q => absurd q (Nat.lt_irrefl _)) with ⟨i, _, h1, h2, _⟩ | q
   ·exact absurd (hall i h1) h2
   ·exact q
 intro fuel
 induction fuel with
 | zero =>
  intro listed β a w hsz hcnt I
  have hall : ∀ j, j < ops.size → listed.getD j false = true := fun j hj => by
   have := List.countP_eq_zero.1 (Nat.le_zero.1 hcnt) j (List.mem_range.2 hj)
   simpa using this
  refine ⟨?_, fin listed β a w hsz hall I⟩
  cases hr : Region.ready .any ops listed with
  | nil => rfl
  | cons j rest =>
   exfalso
   have : j ∈ Region.ready .any ops listed := by rw [hr]; simp
   rw [mem_ready] at this
   obtain ⟨h1, o, h2, _⟩ := this
   have hlt := (Array.getElem?_eq_some_iff.1 h2).1
   have h3 := hall j hlt
   have hl : j < listed.size := by omega
   simp [Array.getD_eq_getD_getElem?, hl] at h1 h3
   rw [h1] at h3; cases h3
 | succ fuel ih =>
  intro listed β a w hsz hcnt I
  refine ⟨fun hr => fin listed β a w hsz (fun j hj => Ds hsz jt hr (j + 1) j om hj) I, fun j hj => ?_⟩
  rw [mem_ready] at hj
  obtain ⟨h1, o, ho, h3⟩ := hj
  have hlt := (Array.getElem?_eq_some_iff.1 ho).1
  have hl : j < listed.size := by omega
  have hnX : ¬ (listed.getD j false = true) := by
   simp [Array.getD_eq_getD_getElem?, hl] at h1 ⊢
   exact h1
  have hp : ∀ p, K4 ops j p → listed.getD p false = true := fun p hpp => by
   obtain ⟨o', q1, e, q2, q3, q4⟩ := FW ops j p hpp.2
   rw [ho] at q1; cases q1
   have q5 := h3 e q2 q3
   rcases q4 with q4 | q4
   ·rw [q4]; exact q5
   ·have := (qm jt ho).2.1 e q2 q3
    exact I.dc e.on p q5 ⟨om, q4⟩
  have hLj := hL j _ (tx hlt)
  have hc' : Ctx c ((fun j => (T j).h) 0) := by show Ctx c (T 0).h; rw [h0]; exact hc
  obtain ⟨r1, r2, r3, _⟩ := I.runs hc' hlt hnX hp hfr
  have hsub : Sub β0 β := by obtain ⟨V, hP, _⟩ := I.heap; exact hP.sub
  have hXeq : (fun k => (listed.setIfInBounds j true).getD k false = true) = (fun k => listed.getD k false = true ∨ k = j) := by
   funext k
   apply propext
   by_cases hk : k = j
   ·subst hk; simp [Array.getD_eq_getD_getElem?, Array.getElem?_setIfInBounds, hl]
   ·rw [getD_set_ne false (Ne.symm hk)]; simp [hk]
  have hcnt' : (List.range ops.size).countP (fun i => !(listed.setIfInBounds j true).getD i false) ≤ fuel := by
   have := xi (p := fun i => !listed.getD i false) (q := fun i => !(listed.setIfInBounds j true).getD i false) (List.mem_range.2 hlt) (by simpa using hnX) (by simp [Array.getD_eq_getD_getElem?, Array.getElem?_setIfInBounds, hl]) (fun k hk => by
    by_cases hkj : k = j
    ·subst hkj; simp [Array.getD_eq_getD_getElem?, Array.getElem?_setIfInBounds, hl] at hk
    ·rw [getD_set_ne false (Ne.symm hkj)] at hk; exact hk)
   omega
  have hsz' : (listed.setIfInBounds j true).size = ops.size := by simpa using hsz
  have hput : FV nt (T j).sl o.dst (T j).v (T (j + 1)).sl := by
   have := hLj.put
   have hd : (cD P ops (Region.before ops) j).dst = o.dst := by
    show (cR P ops _ (ops.getD j default)).dst = o.dst
    rw [(qo _ _).1, fu ho]
   rw [hd] at this; exact this
  have next : ∀ β' val w', cI dr (T j).c.floor (T j).h.n (T (j + 1)).h.n β (view (T j).c (T j).h) w β' (view (T j).c (T (j + 1)).h) w' → VR β' (T j).v val → wpAnyIn (W rd) m P .any ops Q fuel (listed.setIfInBounds j true) (a.put o.dst val) w' := fun β' val w' hPo hv => by
   refine ih _ β' _ w' hsz' hcnt' ?_
   rw [hXeq]
   refine I.step hc' hlt hnX hp hfr (Nat.le_refl _) hPo (Bt.trans I.size) (put_defers.trans I.defers) (fun t hwt => ?_) (fun t hwt => ?_)
   ·obtain ⟨o', q1, q2⟩ := hwt
    rw [ho] at q1; cases q1
    rw [q2] at hput ⊢
    rw [u9 (by rw [I.size]; exact hput.1), if_pos rfl]
    exact hv
   ·cases hd : o.dst with
    | none => rfl
    | some d =>
     rw [hd] at hput
     rw [u9 (by rw [I.size]; exact hput.1), if_neg]
     intro e; subst e
     exact hwt ⟨o, ho, hd⟩
  unfold wpOpIn
  rw [ho]
  have good : Good P ops ((Region.before ops).getD j 0) o := by
   rcases y7 (P := P) (ops := ops) ((Region.before ops).getD j 0) o with q | ⟨q1, q2⟩
   ·exact q
   ·have hgd : (cD P ops (Region.before ops) j).guard = none := by
      show (cR P ops _ (ops.getD j default)).guard = none
      rw [fu ho, q2]
    have hd := hLj.on (by rw [hgd]; rfl)
    rw [Nat.zero_add] at hd
    obtain ⟨o', e1, _, e2⟩ := hd
    rw [ho] at e1; cases e1
    exact e2
  obtain ⟨xo, g, q1, q2, q3, q4⟩ := good
  have hgd : (cD P ops (Region.before ops) j).guard = g := by
   show (cR P ops _ (ops.getD j default)).guard = g
   rw [fu ho, q4]
  have hwt : dy (T j).sl g = Region.wanted o (yielded ops a.tmps) := vd (ops := ops) (β := β) q2 (fun t ht => r2 t ⟨o, ho, Or.inl (by
   obtain ⟨k, wt, e1, e2⟩ := ht
   unfold Oper.looksAt
   rw [e1]
   simp only [e2]
   simp)⟩) (fun q => by have := (hLj.off (by rw [hgd]; exact q)).2.2; rwa [hgd] at this)
  cases hwn : dy (T j).sl g with
  | true =>
   have hd := hLj.on (by rw [hgd]; exact hwn)
   rw [Nat.zero_add] at hd
   obtain ⟨o', e1, ⟨hst, hdd⟩, _⟩ := hd
   rw [ho] at e1; cases e1
   simp only [← hwt, hwn, if_true]
   exact (hdd β a w (hgb.mono hsub) r1 (yZ hng (hgb.mono hsub) q3 fun t ht => r2 t ⟨o, ho, Or.inl (by
    unfold Oper.looksAt
    refine List.mem_append.2 (Or.inl (List.mem_filterMap.2 ⟨.tmp t, ht, rfl⟩)))⟩) r3 _ _ _ Q next)
  | false =>
   obtain ⟨e1, e2, _⟩ := hLj.off (by rw [hgd]; exact hwn)
   simp only [← hwt, hwn, Bool.false_eq_true, if_false]
   refine ⟨fun _ _ => trivial, next β undef w ?_ (by rw [e2]; exact qk)⟩
   rw [e1]; exact cI.refl r1
end
def vj (F : Fence) (m : Nat) (P : Program) (x : Code) (Q : Exit → Act → World → Prop) (a : Act) (w : World) : Prop :=
 ∀ (b : Frame) (k : List Item) (cs : List Frame), b.roundOf = F.round → F.fn b.fn → F.room (cs.length + 1 + m) → ∃ e a' w', Q e a' w' ∧ ArrivesIn (Machine.fenced P F) P (lone (b.atR a (.code x :: .inLoop x :: k)) cs w) b k cs e a' w'
theorem se {F : Fence} {m : Nat} {P : Program} {x : Code} {Q : Exit → Act → World → Prop} {a : Act} {w : World} (h : x.wpIn F m P (Exit.then (vj F m P x Q) Q) a w) : vj F m P x Q a w := by
 intro b k cs hro hb hr
 obtain ⟨e, a₁, w₁, hq, harr⟩ := h b (.inLoop x :: k) cs hro hb hr
 cases e with
 | normal =>
  obtain ⟨e₂, a₂, w₂, hq₂, harr₂⟩ := hq b k cs hro hb hr
  exact ⟨e₂, a₂, w₂, hq₂, .of_steps (StepsIn.trans harr (.one (fenced_calm hb hr rfl) stepR_inLoop)) harr₂⟩
 | exit id => exact ⟨_, a₁, w₁, hq, .pass (x := .inLoop x) rfl (fun _ _ => .inl (by simp)) harr⟩
 | goto l => exact ⟨_, a₁, w₁, hq, .pass (x := .inLoop x) rfl (fun _ _ => .inl (by simp)) harr⟩
 | ret => exact ⟨_, a₁, w₁, hq, .pass (x := .inLoop x) rfl (fun _ _ => .inl (by simp)) harr⟩
 | panic ch => exact ⟨_, a₁, w₁, hq, .pass (x := .inLoop x) rfl (fun _ _ => .inl (by simp)) harr⟩
 | outgrown => exact ⟨_, a₁, w₁, hq, .pass (x := .inLoop x) rfl (fun _ _ => .inl (by simp)) harr⟩
def Dj (F : Fence) (m : Nat) (P : Program) (code : Code) (Q : Exit → Act → World → Prop) (a : Act) (w : World) : Prop :=
 match code with
 | .loop x => vj F m P x Q a w
 | x => x.wpIn F m P Q a w
theorem Dj.wp {F : Fence} {m : Nat} {P : Program} {code : Code} {Q : Exit → Act → World → Prop} {a : Act} {w : World} (h : Dj F m P code Q a w) : code.wpIn F m P Q a w := by
 unfold Dj at h
 split at h
 ·rename_i x
  intro b k cs hro hb hr
  obtain ⟨e, a', w', hq, harr⟩ := h b k cs hro hb hr
  exact ⟨e, a', w', hq, .of_steps (.one (fenced_calm hb hr rfl) stepR_loop) harr⟩
 ·exact h
def Ex.y0 : Ex → Exit
 | .normal => .normal
 | .exit id => .exit id
 | .ret => .ret
def N1 (β : cn) : List Nat → List Deferred → Prop
 | [], df => df = []
 | d :: ds, df => ∃ D df', df = { target := .collected D.cm, args := #[] } :: df' ∧ β d = some D ∧ N1 β ds df'
theorem N1.mono {β β' : cn} (h : Sub β β') : ∀ {ds : List Nat} {df : List Deferred}, N1 β ds df → N1 β' ds df
 | [], df, e => e
 | d :: ds, df, ⟨D, df', h1, h2, h3⟩ => ⟨D, df', h1, h _ _ h2, h3.mono h⟩
def cd (dr : Prop) (P : Program) (ng nt : Nat) (rd : Bool) (code : Code) (c : C) (sl : Tr AV) (ds : List Nat) (h : H) (e : Ex) (sl' : Tr AV) (ds' : List Nat) (h' : H) : Prop :=
 Step c h h' ∧ ∀ β a w df, GB ng β → HR c.floor β (view c h) w → N1 β ds df → tu nt df β sl a → (∀ id, h.n ≤ id → id < h'.n → β id = none) → ∀ (r : Option Nat) (m : Nat), (rd = false → r = none) → ∀ Q : Exit → Act → World → Prop,
  (∀ β' a' w' df', cI dr c.floor h.n h'.n β (view c h) w β' (view c h') w' → N1 β' ds' df' → tu nt df' β' sl' a' → Q e.y0 a' w') → Dj (W r) m P code Q a w
section
variable {P : Program} {ng : Nat} {c : C} {call : ez} {nt : Nat} {ops : Array Oper}
theorem F3 {o : Oper} (h : kW o = true) : Bg P o = none := by
 unfold kW at h
 unfold Bg
 cases ho : o.op <;> rw [ho] at h <;> first | rfl | (cases h; done) | skip
 rename_i q
 obtain ⟨Q4, args, ts⟩ := q
 cases Q4 with
 | builtin b => cases b <;> first | rfl | (cases h; done)
 | value f => rfl
 | invoke y n => rfl
theorem Di {rd : Bool} {ds : List Nat} {sl : Tr AV} {h : H} {r : Tr AV × H} {id : Nat} (hmx : P.follows .mixedOrders = true) (hO : FK dr P ng) (hC : jV dr P ng call) (hng : P.globals.size ≤ ng) (hnt : nt ≤ 1000000) (jt : Mu ops (Region.before ops) = true) (hw : WF h) (hc : Ctx c h)
    (e : cN c call nt (bD h.n c.cM) (Ih P ops) 0 [] [] [] sl h = some r) : cd dr P ng nt rd (.region id ops true) c sl ds h .normal r.1 ds r.2 := by
 obtain ⟨T, t1, t2, t3, t4, t5⟩ := qg (D := DD dr P ng ops) (fun j c sl h v h' hd => by obtain ⟨o, _, hd, _⟩ := hd; exact hd.1) (Ih P ops) 0 [] [] [] sl h r hw hc.low (fun j x hx c' sl h k r hctx hw' ex => by
  obtain ⟨hlt, rfl⟩ := N0 hx
  obtain ⟨o, ho⟩ := qq hlt
  rw [Nat.zero_add]
  have hop : (cD P ops (Region.before ops) j).op = (cR P ops ((Region.before ops).getD j 0) o).op := by
   show (cR P ops _ (ops.getD j default)).op = _
   rw [fu ho]
  have hme : (cD P ops (Region.before ops) j).mem = kW o := by
   show kW (ops.getD j default) = kW o
   rw [fu ho]
  have hfo : (cD P ops (Region.before ops) j).fc = (Bg P o).bind cV := by
   show (Bg P (ops.getD j default)).bind cV = _
   rw [fu ho]
  have hctx' : kW o = true → Ctx c' h := fun q => hctx (by rw [hme]; exact q) (by rw [hfo, F3 q]; rfl)
  rw [hop] at ex
  rcases y7 (P := P) (ops := ops) ((Region.before ops).getD j 0) o with q | ⟨q1, q2⟩
  ·have q' := q
   obtain ⟨xo, g, q1, q2, q3, q4⟩ := q
   rw [q4] at ex
   obtain ⟨v, h', e1, e2⟩ := hO o xo q1 c' call sl h k r hctx' hw' hC ex
   exact ⟨v, h', e1, o, ho, e2, q'⟩
  ·rw [q1] at ex; cases ex) e
 have hlen : (Ih P ops).length = ops.size := by simp [Ih]
 rw [hlen] at t3 t4
 have F := K5 (ng := ng) jt hnt hw t2 t5
 have hst : Step c h r.2 := by
  have := K6 F (fun j hj => (t5 j _ (tx hj)).step)
  rw [t2, t4] at this; exact this
 refine ⟨hst, fun β a w df hgb hr hdf hsl hfr ro m hro Q hQ => ?_⟩
 show (Code.region id ops true).wpIn (W ro) m P Q a w
 refine wpIn_region_any hmx ?_
 refine IH (β0 := β) (w0 := { w with drawn := w.drawn + 1 }) hng jt hnt hw t2 hc t5 F hgb (by rw [t2, t4]; exact hfr) (fun β' a' w' hP hs => ?_) ops.size (Array.replicate ops.size false) β a _ (by simp) (by
     refine Nat.le_trans List.countP_le_length ?_
     simp) (F0 F (fun i hi => by
      rcases Nat.lt_or_ge i ops.size with x | x
      ·simp [Array.getD_eq_getD_getElem?, x] at hi
      ·simp [Array.getD_eq_getD_getElem?, Nat.not_lt.2 x] at hi) (by show HR c.floor β (view c (T 0).h) _; rw [t2]; exact hr.drew _) (by show tu nt df β (T 0).sl a; rw [t1]; exact hsl))
 ·rw [t2, t4] at hP
  rw [t3] at hs
  exact hQ β' a' w' df hP.drew (hdf.mono hP.sub) hs
theorem FL {rd : Bool} {ds : List Nat} {sl : Tr AV} {h : H} {r : Tr AV × H} {id : Nat} (hO : FK dr P ng) (hC : jV dr P ng call) (hng : P.globals.size ≤ ng) (hnt : nt ≤ 1000000) (hw : WF h) (hc : Ctx c h)
    (e : kq c call nt (SG P ops) sl h = some r) : cd dr P ng nt rd (.region id ops false) c sl ds h .normal r.1 ds r.2 := by
 refine ⟨(jH (df := []) (rd := none) (m := 0) (c := c) (ops := ops) hO hC hng hnt ops.toList 0 sl h r (by simp) hw hc e).1, fun β a w df hgb hr hdf hsl hfr ro m hro Q hQ => ?_⟩
 obtain ⟨h1, h2⟩ := jH (df := df) (rd := ro) (m := m) (c := c) (ops := ops) hO hC hng hnt ops.toList 0 sl h r (by simp) hw hc e
 show (Code.region id ops false).wpIn (W ro) m P Q a w
 refine wpIn_region ?_
 have := h2 β a w hgb hr hsl hfr Q fun β' a' w' hP hs => hQ β' a' w' df hP (hdf.mono hP.sub) hs
 rw [List.range_eq_range']
 simpa using this
theorem vk {h h1 h2 : H} {β β1 : cn} {g g1 : View} {w w1 : World} {f : Nat} (hP : cI dr f h.n h1.n β g w β1 g1 w1) (hfr : ∀ id, h.n ≤ id → id < h2.n → β id = none) : ∀ id, h1.n ≤ id → id < h2.n → β1 id = none := fun id q1 q2 => by
 cases hb : β1 id with
 | none => rfl
 | some L =>
  have h0 := hfr id (Nat.le_trans hP.le q1) q2
  have := hP.fresh id L hb h0
  omega
/-! results -/
theorem nS {α β : Type} {f : α → Sem β} {w : World} : ∀ (l : List α) (ys : List β), l.length = ys.length → (∀ (i : Nat) (x : α) (y : β), l[i]? = some x → ys[i]? = some y → (f x).run P w = .ok y w) → (l.mapM f).run P w = .ok ys w
 | [], [], _, _ => by simp
 | [], _ :: _, h, _ => by simp at h
 | _ :: _, [], h, _ => by simp at h
 | x :: l, y :: ys, h, hh => by
  have h1 := hh 0 x y (by simp) (by simp)
  have h2 := nS l ys (by simpa using h) fun i x y e1 e2 => hh (i + 1) x y (by simpa using e1) (by simpa using e2)
  simp [List.mapM_cons, h1, h2]
def y8 (tmps : Array Value) : ResultVar → Sem Value
 | .tmp t => pure (tmps.getD t undef)
 | .cell a t => do loadVar t (← asAddr (tmps.getD a undef))
theorem oN {df : List Deferred} {sl : Tr AV} {h : H} {r : lr} (hr : r ≠ .bad) : ∀ (l : List ResultVar) (rs : List (Nat × Option (Option Nat))) (k : List AV → lr), l.mapM (Ii P) = some rs → mm c h sl rs k = r →
    ∃ vs, k vs = r ∧ ∀ β a w, HR c.floor β (view c h) w → tu nt df β sl a → ∃ us, bE β vs us ∧ us.length = l.length ∧ ∀ (i : Nat) (x : ResultVar) (y : Value), l[i]? = some x → us[i]? = some y → (y8 a.tmps x).run P w = .ok y w
 | [], rs, k, hm, e => by
  simp at hm; subst hm
  exact ⟨[], e, fun β a w _ _ => ⟨[], by simp [bE], rfl, fun i x y h1 => by simp at h1⟩⟩
 | x :: l, rs, k, hm, e => by
  simp only [List.mapM_cons, Option.bind_eq_bind, Option.bind_eq_some_iff, Option.pure_def, Option.some.injEq] at hm
  obtain ⟨q, h1, rs', h2, rfl⟩ := hm
  have glue : ∀ (v : AV), mm c h sl rs' (fun vs => k (v :: vs)) = r → (∀ β a w, HR c.floor β (view c h) w → tu nt df β sl a → ∃ u, VR β v u ∧ (y8 a.tmps x).run P w = .ok u w) →
      ∃ vs, k vs = r ∧ ∀ β a w, HR c.floor β (view c h) w → tu nt df β sl a → ∃ us, bE β vs us ∧ us.length = (x :: l).length ∧ ∀ (i : Nat) (x' : ResultVar) (y : Value), (x :: l)[i]? = some x' → us[i]? = some y → (y8 a.tmps x').run P w = .ok y w := fun v e' hv => by
   obtain ⟨vs, k1, k2⟩ := oN hr l rs' _ h2 e'
   refine ⟨v :: vs, k1, fun β a w hrr hsl => ?_⟩
   obtain ⟨u, u1, u2⟩ := hv β a w hrr hsl
   obtain ⟨us, w1, w2, w3⟩ := k2 β a w hrr hsl
   refine ⟨u :: us, by simp only [bE]; exact ⟨u, us, rfl, u1, w1⟩, by simp [w2], fun i x' y e1 e2 => ?_⟩
   cases i with
   | zero => simp at e1 e2; subst e1 e2; exact u2
   | succ i => exact w3 i x' y (by simpa using e1) (by simpa using e2)
  cases x with
  | tmp t =>
   simp [Ii] at h1; subst h1
   simp only [mm] at e
   exact glue _ e fun β a w hrr hsl => ⟨_, hsl.at_ t, by simp [y8]⟩
  | cell at_ t =>
   simp only [Ii, Option.bind_eq_bind, Option.bind_eq_some_iff, Option.pure_def, Option.some.injEq] at h1
   obtain ⟨n, h3, rfl⟩ := h1
   simp only [mm] at e
   cases hs : slot sl at_ <;> rw [hs] at e <;> try (exact absurd e.symm hr)
   rename_i id off
   simp only at e
   cases hg : cT c h id with
   | none => rw [hg] at e; exact absurd e.symm hr
   | some b =>
    rw [hg] at e
    cases b with
    | map _ _ => exact absurd e.symm hr
    | iter _ _ _ _ => exact absurd e.symm hr
    | A2 _ _ _ _ _ => exact absurd e.symm hr
    | Ru _ _ _ => exact absurd e.symm hr
    | Rv _ _ => exact absurd e.symm hr
    | ND _ => exact absurd e.symm hr
    | KF => exact absurd e.symm hr
    | loop _ _ _ _ _ _ _ _ => exact absurd e.symm hr
    | dead => exact absurd e.symm hr
    | cells vs =>
     simp only at e
     have pt : ∀ β a w, HR c.floor β (view c h) w → tu nt df β sl a → ∃ L, β id = some L ∧ a.tmps.getD at_ undef = .pointer (some ⟨L.cm, L.base + off, none⟩) ∧ BR β L w (.cells vs) := fun β a w hrr hsl => by
      have := hsl.at_ at_
      rw [hs] at this
      exact yX hrr this hg
     cases n with
     | none =>
      simp only at e
      cases hn : nth off vs with
      | none => rw [hn] at e; exact absurd e.symm hr
      | some v =>
       rw [hn] at e
       rw [gP] at hn
       refine glue v e fun β a w hrr hsl => ?_
       obtain ⟨L, hL, hu, hb⟩ := pt β a w hrr hsl
       obtain ⟨u, hc, hvr⟩ := uX hb hn
       exact ⟨u, hvr, by simp only [y8]; rw [hu]; simp [asAddr, loadVar, qe h3, hc]⟩
     | some n =>
      simp only at e
      cases hn : (jg off vs fun vs => gh n vs fun vs => some vs) with
      | none => rw [hn] at e; exact absurd e.symm hr
      | some cs =>
       rw [hn] at e
       obtain ⟨q1, hn⟩ := gM hn
       obtain ⟨q2, hn⟩ := gN hn
       cases hn
       refine glue _ e fun β a w hrr hsl => ?_
       obtain ⟨L, hL, hu, hb⟩ := pt β a w hrr hsl
       obtain ⟨cs, hvr, hc⟩ := kZ hb (off := off) (n := n) (by simp at q2; omega)
       have hl : cs.length = n := by rw [← hvr.length]; simp; simp at q2; omega
       have hld := run_loadCells_list (P := P) w _ cs hc
       rw [hl] at hld
       refine ⟨.agg cs.toArray, by simp only [VR]; exact ⟨_, rfl, by simpa using hvr⟩, ?_⟩
       simp only [y8]; rw [hu]
       simp [asAddr, loadVar, (qf h3 w).1, (qf h3 w).2, hld]
def Dl : List Value → Value
 | [u] => u
 | us => .tuple us.toArray
theorem Bj {fn : Func} {tmps : Array Value} {w : World} {us : List Value} (hl : us.length = fn.results.toList.length) (h : ∀ (i : Nat) (x : ResultVar) (y : Value), fn.results.toList[i]? = some x → us[i]? = some y → (y8 tmps x).run P w = .ok y w) :
    (results fn tmps).run P w = .ok (Dl us) w := by
 have h1 := nS (P := P) (f := y8 tmps) fn.results.toList us hl.symm h
 have e : results fn tmps = (do
     let vs ← fn.results.mapM (y8 tmps)
     pure (if h : vs.size = 1 then vs[0] else .tuple vs)) := by
  unfold results
  rfl
 rw [e, Array.mapM_eq_mapM_toList]
 simp only [Sem.run_bind, map_eq_pure_bind, bind_assoc, pure_bind, h1, Result.andThen_ok]
 cases us with
 | nil => simp [Dl]
 | cons u us =>
  cases us with
  | nil => simp [Dl]
  | cons u' us => simp [Dl]
end
def jW : List AV → Nat → Tr AV → Tr AV
 | [], _, sl => sl
 | v :: vs, i, sl => jW vs (i + 1) (Tr.set depth sl i v)
theorem oM : ∀ (vs : List AV) (i : Nat) (sl : Tr AV) (k : Tr AV → lr), slotsOf vs i sl k = k (jW vs i sl)
 | [], _, _, _ => rfl
 | v :: vs, i, sl, k => by
  unfold slotsOf jW
  rw [Tr.kY]
  exact oM vs (i + 1) _ k
theorem si : ∀ (vs : List AV) (i : Nat) (sl : Tr AV) (t : Nat), i + vs.length ≤ 1000000 → slot (jW vs i sl) t = if i ≤ t ∧ t < i + vs.length then vs.getD (t - i) (.bO []) else slot sl t
 | [], i, sl, t, _ => by
  unfold jW
  rw [if_neg]; simp
 | v :: vs, i, sl, t, h => by
  unfold jW
  simp only [List.length_cons] at h ⊢
  rw [si vs (i + 1) _ t (by omega), mu (by omega)]
  by_cases e : i = t
  ·subst e
   rw [if_neg (by omega), if_pos rfl, if_pos (by omega)]; simp
  ·by_cases q : i + 1 ≤ t ∧ t < i + 1 + vs.length
   ·rw [if_pos q, if_pos (by omega), show t - i = (t - (i + 1)) + 1 by omega]; simp
   ·rw [if_neg q, if_neg e, if_neg (by omega)]
section
variable {P : Program} {ng : Nat}
theorem Bi {β : cn} {args : List AV} {cargs : List Value} {nt : Nat} (hv : bE β args cargs) (hl : args.length ≤ nt) (hnt : nt ≤ 1000000) :
    tu nt [] β (jW args 0 .nil) { tmps := cargs.toArray ++ Array.replicate (nt - cargs.toArray.size) undef, defers := [] } := by
 have hlen := hv.length
 refine ⟨by simp; omega, rfl, fun t => ?_⟩
 rw [si args 0 _ t (by omega)]
 by_cases q : t < args.length
 ·rw [if_pos (by omega)]
  have e1 : args[t]? = some args[t] := by simp
  obtain ⟨u, h1, h2⟩ := hv.get e1
  have hlt := (List.getElem?_eq_some_iff.1 h1).1
  have e2 : (cargs.toArray ++ Array.replicate (nt - cargs.toArray.size) undef).getD t undef = u := by
   rw [Array.getD_eq_getD_getElem?, Array.getElem?_append_left (by simpa using hlt)]
   simp [h1]
  have e3 : args.getD (t - 0) (.bO []) = args[t] := by simp [q]
  show VR β _ ((cargs.toArray ++ Array.replicate (nt - cargs.toArray.size) undef).getD t undef)
  rw [e2, e3]; exact h2
 ·rw [if_neg (by omega)]
  have e2 : (cargs.toArray ++ Array.replicate (nt - cargs.toArray.size) undef).getD t undef = undef := by
   rw [Array.getD_eq_getD_getElem?, Array.getElem?_append_right (by simp; omega)]
   rw [Array.getElem?_replicate]
   split <;> rfl
  show VR β _ ((cargs.toArray ++ Array.replicate (nt - cargs.toArray.size) undef).getD t undef)
  rw [e2]
  have : slot (Tr.nil : Tr AV) t = .bO [] := by unfold slot; rw [Tr.get_nil]
  rw [this]; exact qk
theorem sa {o : Out} {e : Ex} {ds ds' : List Nat} {sl' : Tr AV} {h' : H} (x : rk ds o = .code e sl' ds' h') : e = .normal ∧ ds' = ds ∧ o = some (sl', h') := by
 unfold rk at x
 split at x
 ·cases x; exact ⟨rfl, rfl, rfl⟩
 ·cases x
theorem Du {x : Option lr} {r : lr} (hr : r ≠ .bad) (e : Ie x = r) : x = some r := by
 unfold Ie at e
 split at e
 ·rw [e]
 ·exact absurd e.symm hr
def uZ (dr : Prop) (P : Program) (ng : Nat) (ih : Runner) : Prop := ∀ (c : C) (nt : Nat) (rd : Bool) (code : Code) (sl : Tr AV) (ds : List Nat) (h : H) (e : Ex) (sl' : Tr AV) (ds' : List Nat) (h' : H), nt ≤ 1000000 → Ctx c h → WF h → ih c (.code nt rd (cC P code) sl ds) h = .code e sl' ds' h' → cd dr P ng nt rd code c sl ds h e sl' ds' h'
section
variable {c : C} {nt : Nat} {rd : Bool} {x y : Code} {sl sl1 sl2 : Tr AV} {ds ds1 ds2 : List Nat} {h h1 h2 : H} {e : Ex}
theorem cd.seq (d1 : cd dr P ng nt rd x c sl ds h .normal sl1 ds1 h1) (d2 : cd dr P ng nt rd y c sl1 ds1 h1 e sl2 ds2 h2) : cd dr P ng nt rd (.seq x y) c sl ds h e sl2 ds2 h2 := by
 refine ⟨d1.1.trans d2.1, fun β a w df hgb hr hdf hsl hfr ro m hro Q hQ => ?_⟩
 show (Code.seq x y).wpIn (W ro) m P Q a w
 refine wpIn_seq (Dj.wp (d1.2 β a w df hgb hr hdf hsl (fun id q1 q2 => hfr id q1 (Nat.lt_of_lt_of_le q2 d2.1.le)) ro m hro _ fun β1 a1 w1 df1 hP1 hd1 hs1 => ?_))
 exact Dj.wp (d2.2 β1 a1 w1 df1 (hgb.mono hP1.sub) hP1.hr hd1 hs1 (vk hP1 hfr) ro m hro Q fun β2 a2 w2 df2 hP2 hd2 hs2 => hQ β2 a2 w2 df2 (hP1.trans hP2) hd2 hs2)
theorem cd.Im (d1 : cd dr P ng nt rd x c sl ds h e sl1 ds1 h1) (he : e ≠ .normal) : cd dr P ng nt rd (.seq x y) c sl ds h e sl1 ds1 h1 := by
 refine ⟨d1.1, fun β a w df hgb hr hdf hsl hfr ro m hro Q hQ => ?_⟩
 show (Code.seq x y).wpIn (W ro) m P Q a w
 refine wpIn_seq (Dj.wp (d1.2 β a w df hgb hr hdf hsl hfr ro m hro _ fun β1 a1 w1 df1 hP1 hd1 hs1 => ?_))
 cases e with
 | normal => exact absurd rfl he
 | exit id => exact hQ β1 a1 w1 df1 hP1 hd1 hs1
 | ret => exact hQ β1 a1 w1 df1 hP1 hd1 hs1
theorem cd.loop (d1 : cd dr P ng nt rd x c sl ds h .normal sl1 ds1 h1) (d2 : cd dr P ng nt rd (.loop x) c sl1 ds1 h1 e sl2 ds2 h2) : cd dr P ng nt rd (.loop x) c sl ds h e sl2 ds2 h2 := by
 refine ⟨d1.1.trans d2.1, fun β a w df hgb hr hdf hsl hfr ro m hro Q hQ => ?_⟩
 show vj (W ro) m P x Q a w
 refine se (Dj.wp (d1.2 β a w df hgb hr hdf hsl (fun id q1 q2 => hfr id q1 (Nat.lt_of_lt_of_le q2 d2.1.le)) ro m hro _ fun β1 a1 w1 df1 hP1 hd1 hs1 => ?_))
 exact d2.2 β1 a1 w1 df1 (hgb.mono hP1.sub) hP1.hr hd1 hs1 (vk hP1 hfr) ro m hro Q fun β2 a2 w2 df2 hP2 hd2 hs2 => hQ β2 a2 w2 df2 (hP1.trans hP2) hd2 hs2
theorem cd.Eh (d1 : cd dr P ng nt rd x c sl ds h e sl1 ds1 h1) (he : e ≠ .normal) : cd dr P ng nt rd (.loop x) c sl ds h e sl1 ds1 h1 := by
 refine ⟨d1.1, fun β a w df hgb hr hdf hsl hfr ro m hro Q hQ => ?_⟩
 show vj (W ro) m P x Q a w
 refine se (Dj.wp (d1.2 β a w df hgb hr hdf hsl hfr ro m hro _ fun β1 a1 w1 df1 hP1 hd1 hs1 => ?_))
 cases e with
 | normal => exact absurd rfl he
 | exit id => exact hQ β1 a1 w1 df1 hP1 hd1 hs1
 | ret => exact hQ β1 a1 w1 df1 hP1 hd1 hs1
theorem cd.nothing (hw : WF h) (hx : ∀ r m (Q : Exit → Act → World → Prop) a w, Q e.y0 a w → Dj (W r) m P x Q a w) : cd dr P ng nt rd x c sl ds h e sl ds h :=
 ⟨Step.refl hw, fun β a w df hgb hr hdf hsl hfr ro m hro Q hQ => hx ro m Q a w (hQ β a w df (cI.refl hr) hdf hsl)⟩
end
/-! writing a block that is no row of cells -/
theorem Dv {c : C} {h : H} {id : Nat} {b : AB} {β : cn} {w : World} (hg : cT c h id = some b) (hb : b ≠ .dead) (hr : HR c.floor β (view c h) w) : ∃ L, β id = some L ∧ L.cm < w.heap.size ∧ BR β L w b := hr.at_ id b (iO hg hb)
theorem II {c : C} {h : H} {id : Nat} {b b' : AB} {β : cn} {w : World} {L : Loc} {ob : Obj} (hw : WF h) (hg : cT c h id = some b) (hb : b ≠ .dead) (hf : c.floor ≤ id) (hr : HR c.floor β (view c h) w) (hL : β id = some L)
    (hbr : BR β L { w with heap := w.heap.setIfInBounds L.cm ob } b') : cI dr c.floor h.n h.n β (view c h) w β (view c ⟨Tr.set depth h.t id b', h.n⟩) { w with heap := w.heap.setIfInBounds L.cm ob } := by
 obtain ⟨g1, g2⟩ := dQ hg
 have bV : id < id + 1 := Nat.lt_succ_self _
 exact kX (b := b') hr (iO hg hb) hL hf (fun B hB => by simp [Array.getElem?_setIfInBounds_ne (Ne.symm hB)]) (by simp) rfl ⟨rfl, fun _ => Nat.le_refl _⟩ rfl hbr (fun j d e => mr bV e)
/-! the marks at a function's end -/
theorem u7 {c : C} {r : lr} (hr : r ≠ .bad) : ∀ (ds : List Nat) (h : H) (k : H → lr), WF h → r7 c ds h k = r → ∃ h2, k h2 = r ∧ Step c h h2 ∧ h2.n = h.n ∧ ∀ β w df, HR c.floor β (view c h) w → N1 β ds df → ∀ (n : Nat) (fn : Func) (tmps : Array Value) (R : Ending → World → Prop),
    (∀ w2, cI dr c.floor h.n h2.n β (view c h) w β (view c h2) w2 → ∃ v, (results fn tmps).run P w2 = .ok v w2 ∧ R (.returned v) w2) → LeavesInM (W none) n P fn tmps R df .returning w
 | [], h, k, hw, e => ⟨h, e, Step.refl hw, rfl, fun β w df hrr hdf n fn tmps R hR => by
     have : df = [] := hdf
     subst this
     exact hR w (cI.refl hrr)⟩
 | d :: ds, h, k, hw, e => by
  unfold r7 at e
  split at e
  ·rename_i hg
   have e := Du hr e
   obtain ⟨hf, hs, e⟩ := iN e
   have e : r7 c ds ⟨Tr.set depth h.t d .dead, h.n⟩ k = r := by simpa using e
   obtain ⟨g1, g2⟩ := dQ hg
   have st := mq (c := c) (b := .dead) hw g1 hf hs
   obtain ⟨h2, k1, k2, k3, k4⟩ := u7 hr ds _ k st.wf e
   refine ⟨h2, k1, st.trans k2, k3, fun β w df hrr hdf n fn tmps R hR => ?_⟩
   obtain ⟨D, df', rfl, hD, hdf'⟩ := hdf
   obtain ⟨D', q1, q2, q3⟩ := Dv hg (fun q => by cases q) hrr
   rw [hD] at q1; cases q1
   have hP := II (dr := dr) (b' := .dead) (ob := .deferred none) hw hg (fun q => by cases q) hf hrr hD trivial
   refine ⟨fun q => (by cases q), Or.inl ⟨D.cm, { w with heap := w.heap.setIfInBounds D.cm (.deferred none) }, rfl, ?_, ?_⟩⟩
   ·have q3' : w.heap[D.cm]? = some (.deferred (some [])) := q3
    simp [Instr.takeDeferred, getObj, setObj, Sem.run, q3']
   ·exact k4 β _ df' hP.hr hdf' n fn tmps R fun w2 hP2 => hR w2 (hP.trans hP2)
  ·exact absurd e.symm hr
end
section
variable {P : Program} {ng : Nat} {X : dg}
def wY (P : Program) (X : dg) : Prop := ∀ (f : Nat) (g : List AV → Option AV), AY X f = some g → ∀ args v, g args = some v → ∀ β cargs (w : World), bE β args cargs → ∃ u, (callFunc f cargs.toArray).run P w = .ok (.value u) w ∧ VR β v u
end
section
variable {P : Program} {ng : Nat} {X : dg}
end
end
end Go.Proofs.YtgaihilgffficaaGreatDoor.Ev
