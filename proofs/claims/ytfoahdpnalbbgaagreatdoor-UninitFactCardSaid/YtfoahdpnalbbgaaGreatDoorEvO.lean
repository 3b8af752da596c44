/- Regions: the evaluator's answer holds. -/
import Derived.Test.YtfoahdpnalbbgaaGreatDoorEvN
set_option linter.unusedVariables false
set_option linter.unusedSimpArgs false
namespace Go.Proofs.YtfoahdpnalbbgaaGreatDoor.Ev
open Go
def CallOk (P : Program) (ng : Nat) (call : Caller) : Prop := ∀ (f : Cee) args c h v h', Ctx c h → WF h → call f args c h = some (v, h') → CallDid P ng f args c h v h'
def OpOk (P : Program) (ng : Nat) : Prop := ∀ (o : Oper) (x : XO), cO P o = some x → ∀ (c : C) (call : Caller) (sl : Tr AV) (h : H) (k : Kont) (r : Tr AV × H), (memO o = true → Ctx c h) → WF h → CallOk P ng call →
  x c call sl h k = some r → ∃ v h', k v h' = some r ∧ DidR P ng o c sl h v h'
section
variable {P : Program} {ng : Nat} {c : C} {call : Caller} {nt : Nat} {ops : Array Oper}
theorem cR_spec (p : Nat) (o : Oper) : (∃ xo g, cO P o = some xo ∧ cGuard ops o.guard = some g ∧ o.op.operands.toList.all (gOk P) = true ∧ cR P ops p o = { dst := o.dst, op := xo, guard := g, preds := p, mem := memO o, bar := false, foot := none }) ∨
    ((cR P ops p o).op = oBad ∧ (cR P ops p o).guard = none) := by
  unfold cR
  split
  · rename_i x g h1 h2 h3
    exact Or.inl ⟨x, g, h1, h2, h3, rfl⟩
  · exact Or.inr ⟨rfl, rfl⟩
theorem opsR_of {β : Bet} {sl : Tr AV} {a : Act} {ys : List Operand} (hng : P.globals.size ≤ ng) (hgb : GB ng β) (hg : ys.all (gOk P) = true) (hsl : ∀ t, Operand.tmp t ∈ ys → VR β (slot sl t) (a.tmps.getD t undef)) : OpsR β sl a ys := by
  intro y hy x hx
  cases y with
  | tmp t => simp [cV] at hx; subst hx; exact hsl t hy
  | const v =>
    simp only [cV, Option.map_eq_some_iff] at hx
    obtain ⟨z, h1, rfl⟩ := hx
    exact cAV_VR h1
  | global g =>
    simp [cV] at hx; subst hx
    have := List.all_eq_true.1 hg _ hy
    simp only [gOk, Nat.blt_eq] at this
    obtain ⟨s, e⟩ := hgb g (by omega)
    simp only [evV, Act.eval, VR]
    exact ⟨_, e, rfl⟩
  | func f =>
    simp [cV] at hx; subst hx
    simp only [evV, Act.eval, VR, VRs]
    exact ⟨#[], rfl, rfl⟩
theorem bool_of {β : Bet} {v : AV} {u : Value} (h : VR β v u) : (∃ b, v = .bool b ∧ u = .bool b) ∨ ((∀ b, v ≠ .bool b) ∧ ∀ b, u ≠ .bool b) := by
  cases v <;> simp only [VR] at h <;> first
    | (exact Or.inl ⟨_, rfl, h⟩)
    | (subst h; exact Or.inr ⟨fun _ e => (by cases e), fun _ e => (by cases e)⟩)
    | (obtain ⟨_, rfl, _⟩ := h; exact Or.inr ⟨fun _ e => (by cases e), fun _ e => (by cases e)⟩)
    | (obtain ⟨_, _, rfl⟩ := h; exact Or.inr ⟨fun _ e => (by cases e), fun _ e => (by cases e)⟩)
    | (obtain ⟨_, _, _, _, rfl, _⟩ := h; exact Or.inr ⟨fun _ e => (by cases e), fun _ e => (by cases e)⟩)
def guardTmp (ops : Array Oper) (o : Oper) (t : Nat) : Prop := ∃ j w, o.guard = some (j, w) ∧ (ops[j]?).bind (·.dst) = some t
theorem wants_eq {β : Bet} {sl : Tr AV} {a : Act} {o : Oper} {g : Option (Nat × Bool)} (hg : cGuard ops o.guard = some g) (hsl : ∀ t, guardTmp ops o t → VR β (slot sl t) (a.tmps.getD t undef)) :
    wants sl g = Region.wanted o (yielded ops a.tmps) := by
  unfold cGuard at hg
  unfold Region.wanted
  cases ho : o.guard with
  | none => rw [ho] at hg; simp only [Option.some.injEq] at hg; subst hg; rfl
  | some jw =>
    obtain ⟨j, wt⟩ := jw
    rw [ho] at hg
    simp only at hg
    cases hd : (ops[j]?).bind (·.dst) with
    | none => rw [hd] at hg; cases hg
    | some d =>
      rw [hd] at hg
      simp only [Option.some.injEq] at hg
      subst hg
      have hv := hsl d ⟨j, wt, ho, hd⟩
      simp only [wants, yielded, hd, Option.bind_some]
      rcases bool_of hv with ⟨b, e1, e2⟩ | ⟨e1, e2⟩
      · rw [e1]
        have : a.tmps[d]? = some (.bool b) := by
          rw [Array.getD_eq_getD_getElem?] at e2
          cases hx : a.tmps[d]? with
          | none => rw [hx] at e2; simp [undef] at e2
          | some u => rw [hx] at e2; simp at e2; rw [e2]
        rw [this]
        cases b <;> cases wt <;> rfl
      · have : (match slot sl d with | .bool b => b == wt | _ => false) = false := by
          split
          · rename_i b hb; exact absurd hb (e1 b)
          · rfl
        refine Eq.trans this ?_
        split
        · rename_i b hb
          exact absurd (by rw [Array.getD_eq_getD_getElem?, hb]; rfl) (e2 b)
        · cases wt <;> rfl
theorem SlR.putR {nt : Nat} {df : List Deferred} {β : Bet} {sl sl' : Tr AV} {a : Act} {d : Option Nat} {v : AV} {u : Value} (h : SlR nt df β sl a) (hp : PutR nt sl d v sl') (hnt : nt ≤ 1000000) (hv : VR β v u) : SlR nt df β sl' (a.put d u) := by
  cases d with
  | none => simp only [PutR] at hp; subst hp; exact h
  | some d =>
    obtain ⟨h1, rfl⟩ := hp
    exact h.put h1 hnt hv
theorem vr_undef {β : Bet} : VR β (.tup []) undef := by simp [VR, VRs, undef]
/-- a region in the text's order -/
theorem evReg_sound {df : List Deferred} {rd : Option Nat} {m : Nat} (hO : OpOk P ng) (hC : CallOk P ng call) (hng : P.globals.size ≤ ng) (hnt : nt ≤ 1000000) : ∀ (l : List Oper) (i : Nat) (sl : Tr AV) (h : H) (r : Tr AV × H), (∀ k, l[k]? = ops[i + k]?) → WF h → Ctx c h →
    evReg c call nt (l.map (cR P ops 0)) sl h = some r → Step c h r.2 ∧ ∀ β a w, GB ng β → HR β (view c h) w → SlR nt df β sl a → (∀ id, h.n ≤ id → id < r.2.n → β id = none) → ∀ Q : Exit → Act → World → Prop,
      (∀ β' a' w', Post c.floor h.n r.2.n β (view c h) w β' (view c r.2) w' → SlR nt df β' r.1 a' → Q .normal a' w') → wpOpsIn (W rd) m P ops Q (List.range' i l.length) a w
  | [], i, sl, h, r, hl, hw, hc, e => by
    simp only [List.map_nil, evReg, Option.some.injEq] at e
    subst e
    refine ⟨Step.refl hw, fun β a w hgb hr hsl hfr Q hQ => ?_⟩
    simp only [List.length_nil, List.range'_zero, wpOpsIn]
    exact hQ β a w (Post.refl hr) hsl
  | o :: l, i, sl, h, r, hl, hw, hc, e => by
    have hl' : ∀ k, l[k]? = ops[i + 1 + k]? := fun k => by
      have := hl (k + 1)
      simp only [List.getElem?_cons_succ] at this
      rw [this]; congr 1; omega
    have hoi : ops[i]? = some o := by have := hl 0; simpa using this.symm
    simp only [List.map_cons] at e
    unfold evReg at e
    rcases cR_spec (P := P) (ops := ops) 0 o with ⟨xo, g, h1, h2, h3, h4⟩ | ⟨h1, h2⟩
    · rw [h4] at e
      simp only at e
      cases hwn : wants sl g with
      | false =>
        rw [hwn] at e
        simp only [cond] at e
        obtain ⟨sl1, hp, e⟩ := putK_some e
        obtain ⟨s1, s2⟩ := evReg_sound hO hC hng hnt l (i + 1) sl1 h r hl' hw hc e
        refine ⟨s1, fun β a w hgb hr hsl hfr Q hQ => ?_⟩
        rw [List.length_cons, List.range'_succ, wpOpsIn_cons]
        unfold wpOpIn
        rw [hoi]
        have hwt := wants_eq (ops := ops) (a := a) h2 (fun t _ => hsl.at_ t)
        rw [hwn] at hwt
        simp only [← hwt, Bool.false_eq_true, if_false]
        refine ⟨fun _ _ => trivial, ?_⟩
        exact s2 β _ w hgb hr (hsl.putR hp hnt vr_undef) hfr Q hQ
      | true =>
        rw [hwn] at e
        simp only [cond] at e
        obtain ⟨v, h', e, hd⟩ := hO o xo h1 c call sl h _ r (fun _ => hc) hw hC e
        obtain ⟨sl1, hp, e⟩ := putK_some e
        obtain ⟨hst, hdd⟩ := hd
        obtain ⟨s1, s2⟩ := evReg_sound hO hC hng hnt l (i + 1) sl1 h' r hl' hst.wf (hc.mono hst.le) e
        refine ⟨hst.trans s1, fun β a w hgb hr hsl hfr Q hQ => ?_⟩
        rw [List.length_cons, List.range'_succ, wpOpsIn_cons]
        unfold wpOpIn
        rw [hoi]
        have hwt := wants_eq (ops := ops) (a := a) h2 (fun t _ => hsl.at_ t)
        rw [hwn] at hwt
        simp only [← hwt, if_true]
        refine (hdd β a w hgb hr (opsR_of hng hgb h3 fun t _ => hsl.at_ t) (fun id q1 q2 => hfr id q1 (Nat.lt_of_lt_of_le q2 s1.le)) _ _ _ Q fun β1 val w1 hP1 hv1 => ?_)
        refine s2 β1 _ w1 (hgb.mono hP1.sub) hP1.hr ((hsl.mono hP1.sub).putR hp hnt hv1) (fun id q1 q2 => ?_) Q fun β2 a2 w2 hP2 hs2 => hQ β2 a2 w2 (hP1.trans hP2) hs2
        cases hb : β1 id with
        | none => rfl
        | some L =>
          have h0 := hfr id (Nat.le_trans hst.le q1) q2
          have := hP1.fresh id L hb h0
          omega
    · rw [h1, h2] at e
      simp [wants, oBad] at e

/-! regions in any order -/
theorem countP_lt {α : Type} {p q : α → Bool} : ∀ {l : List α} {x : α}, x ∈ l → p x = true → q x = false → (∀ y, q y = true → p y = true) → l.countP q < l.countP p
  | [], x, h, _, _, _ => by cases h
  | y :: l, x, h, hp, hq, hh => by
    have mono : ∀ l : List α, l.countP q ≤ l.countP p := fun l => List.countP_mono_left fun z _ hz => hh z hz
    rcases List.mem_cons.1 h with e | e
    · subst e
      rw [List.countP_cons_of_pos hp, List.countP_cons_of_neg (by simp [hq])]
      have := mono l; omega
    · have := countP_lt e hp hq hh
      rw [List.countP_cons, List.countP_cons]
      cases hy : q y with
      | true => rw [hh y hy]; simp; omega
      | false => cases p y <;> simp <;> omega
theorem Post.toSub {f n n' : Nat} {β β' : Bet} {g V g' : View} {w w' : World} (h : Post f n n' β g w β' V w') (hs : ∀ id b, g' id = some b → V id = some b) : Post f n n' β g w β' g' w' :=
  ⟨h.le, h.sub, h.fresh, h.hr.sub hs, h.os, h.tape, h.output, h.size, h.frame, h.news, fun id b e => h.old id b (hs id b e)⟩
theorem Post.narrow {f n n' m : Nat} {β β' : Bet} {g g' : View} {w w' : World} (h : Post f n n' β g w β' g' w') (hle : n ≤ m) (hf : ∀ id L, β' id = some L → β id = none → id < m) : Post f n m β g w β' g' w' :=
  ⟨hle, h.sub, fun id L h1 h2 => ⟨(h.fresh id L h1 h2).1, hf id L h1 h2⟩, h.hr, h.os, h.tape, h.output, h.size, h.frame, h.news, h.old⟩
theorem getD_of {j : Nat} {o : Oper} (h : ops[j]? = some o) : ops.getD j default = o := by simp [h]
/-- the facts that the compilation has looked at -/
theorem okD_spec (hok : okD ops (Region.before ops) = true) {j : Nat} {o : Oper} (hj : ops[j]? = some o) :
    (∀ p, ((Region.before ops).getD j 0).testBit p = true → p < j) ∧ (∀ e ∈ o.after, Region.binds .any e = true → e.on < j) ∧
    ∀ d, o.dst = some d → ∀ i oi, ops[i]? = some oi → i ≠ j → (d ∈ oi.looksAt ops ∨ oi.dst = some d) → (i < j → ((Region.before ops).getD j 0).testBit i = true) ∧ (j < i → ((Region.before ops).getD i 0).testBit j = true) := by
  have hlt : j < ops.size := (Array.getElem?_eq_some_iff.1 hj).1
  unfold okD at hok
  have h1 := List.all_eq_true.1 hok j (List.mem_range.2 hlt)
  rw [getD_of hj] at h1
  simp only [Bool.and_eq_true, decide_eq_true_eq] at h1
  obtain ⟨⟨h2, h3⟩, h4⟩ := h1
  refine ⟨fun p hp => ?_, fun e he hb => ?_, fun d hd i oi hi hne hlk => ?_⟩
  · rcases Nat.lt_or_ge p j with x | x
    · exact x
    · rw [Nat.testBit_lt_two_pow (Nat.lt_of_lt_of_le h2 (Nat.pow_le_pow_right (by omega) x))] at hp; cases hp
  · have := Array.all_eq_true_iff_forall_mem.1 h3 e he
    simpa [hb] using this
  · rw [hd] at h4
    simp only at h4
    have hli : i < ops.size := (Array.getElem?_eq_some_iff.1 hi).1
    have h5 := List.all_eq_true.1 h4 i (List.mem_range.2 hli)
    rw [getD_of hi] at h5
    have h6 : (((oi.looksAt ops).contains d) || (oi.dst == some d)) = true := by
      rcases hlk with q | q
      · simp [q]
      · simp [q]
    rw [h6] at h5
    simp only [Bool.not_true, Bool.or_false, Bool.or_eq_true, beq_iff_eq] at h5
    rcases h5 with h5 | h5
    · exact absurd h5 hne
    · refine ⟨fun q => ?_, fun q => ?_⟩
      · rw [if_pos q] at h5; exact h5
      · rw [if_neg (by omega)] at h5; exact h5
theorem barOf_spec {j i : Nat} {o oi : Oper} (hb : barOf ops (Region.before ops) j = true) (hi : ops[i]? = some oi) (hm : memO oi = true) (hne : i ≠ j) :
    (i < j → ((Region.before ops).getD j 0).testBit i = true) ∧ (j < i → ((Region.before ops).getD i 0).testBit j = true) := by
  have hli : i < ops.size := (Array.getElem?_eq_some_iff.1 hi).1
  unfold barOf at hb
  have h5 := List.all_eq_true.1 hb i (List.mem_range.2 hli)
  rw [getD_of hi, hm] at h5
  simp only [Bool.not_true, Bool.false_or, Bool.or_eq_true, beq_iff_eq] at h5
  rcases h5 with h5 | h5
  · exact absurd h5 hne
  · refine ⟨fun q => ?_, fun q => ?_⟩
    · rw [if_pos q] at h5; exact h5
    · rw [if_neg (by omega)] at h5; exact h5
end
end Go.Proofs.YtfoahdpnalbbgaaGreatDoor.Ev
