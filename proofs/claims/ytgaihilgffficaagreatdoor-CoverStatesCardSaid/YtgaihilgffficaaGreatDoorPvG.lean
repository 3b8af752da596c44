/- CoverStates, part 21 -/
import Derived.Test.YtgaihilgffficaaGreatDoorPvF
set_option linter.all false
namespace Go.Proofs.YtgaihilgffficaaGreatDoor.Ev
open Go
variable [Gb]
def Tc (S : aX) : Prop := ∀ (p q id : Nat) (b d : PB), aI S p = some (some id, b) → aI S q = some (some id, d) → b ≠ .dead → d ≠ .dead → p = q
def OI (P : Program) (X : dg) (M : Mf) (f : Nat) (args : List PV) (S : aX) (K : PV → Prop) : Prop := ∀ c h F azs, Cx c h → jQ h F → (∀ id, F id → id < h.n ∧ seen c.cM id = true) → (∀ p id b, aI S p = some (some id, b) → b ≠ .dead → id < h.n ∧ seen c.cM id = true ∧ ¬ F id ∧ ∃ ab, h.get id = some ab ∧ RB h F b ab) → Tc S → Rs h F args azs → Gv P X M c f azs h (fun v h' => ∃ p F', Ext h F [] h' F' [] ∧ (∀ id, F' id → id < h'.n ∧ seen c.cM id = true) ∧ R h' F' p v ∧ K p)
section
variable {P : Program} {X : dg} {M : Mf} {nt d : Nat} {G : aZ} {S : aX}
theorem aM {f : Nat} {args : List PV} {K : PV → Prop} (w : PF P X M f args K) : OI P X M f args S K := fun c h F azs hc hg hf hs _ r =>
 (w c h F azs (St.nil hc hg hf) r).mono fun v h' ⟨p, S', F', a1, a2, a3, a4⟩ => ⟨p, F', ⟨a1.le, a1.sub, a1.same, a1.tf, fun id q => (cj q).elim⟩, a2.fr, a3, a4⟩
theorem c5.Sc {S : aX} {c : C} {h : H} {F : Nat → Prop} (hc : Cx c h) (hg : jQ h F) (hf : ∀ id, F id → id < h.n ∧ seen c.cM id = true) (hs : ∀ p id b, aI S p = some (some id, b) → b ≠ .dead → id < h.n ∧ seen c.cM id = true ∧ ¬ F id ∧ ∃ ab, h.get id = some ab ∧ RB h F b ab) (hi : ∀ (p q id : Nat) (b d : PB), aI S p = some (some id, b) → aI S q = some (some id, d) → b ≠ .dead → d ≠ .dead → p = q) {ps qs : List PV} {azs : List AV} (z : c5 S ps qs) (r : Rs h F ps azs) : Rs h (nH F S) qs azs :=
 z.lay (c := ⟨0, c.cM⟩) (S0 := S) ⟨⟨Nat.zero_le _, hc.cM⟩, hg, hf, fun p id b e hb => by
  obtain ⟨g1, g2, g3, g4⟩ := hs p id b e hb
  exact ⟨g1, Nat.zero_le _, g2, g3, g4⟩, hi⟩ (fun _ _ e => e) r
theorem OI.mono {f : Nat} {args : List PV} {K K' : PV → Prop} (w : OI P X M f args S K) (hk : ∀ p, K p → K' p) : OI P X M f args S K' := fun c h F azs hc hg hf hs hi r => (w c h F azs hc hg hf hs hi r).mono fun v h' ⟨p, F', a1, a2, a3, a4⟩ => ⟨p, F', a1, a2, a3, hk _ a4⟩
/-! the state within a region -/
structure DI (c : C) (n0 : Nat) (al fm : Nat) (wr fz : Bool) (S0 : aX) (h : H) (F : Nat → Prop) (S : aX) (rs : List (Nat × Nat × Nat)) (bs : List (Nat × Tr AB × Tr AB)) (fs : List (Nat × Nat)) : Prop where
 st : St c h F S
 le : n0 ≤ h.n
 OJ : ∀ p, al ||| p = p → ∀ id, n0 ≤ id → id < h.n → ∀ base, seen (cE p base rs) id = true
 lo : ∀ r ∈ rs, n0 ≤ r.2.1
 JT : ∀ b ∈ bs, al.testBit b.1 = true
 Pm : wr = false → ∀ b ∈ bs, ∀ id, id < n0 → Tr.get b.2.1 id = h.get id ∧ Tr.get b.2.2 id = h.get id
 Gn : ∀ f ∈ fs, fm.testBit f.1 = true ∨ (F f.2 ∧ ∃ vs, h.get f.2 = some (.cells vs))
 MF : wr = false → ∀ f ∈ fs, f.2 < h.n ∧ ∃ vs, h.get f.2 = some (.cells vs)
 fr : fz = true → ∀ id, F id → id < n0
 jG : ∀ p id b, aI S0 p = some (some id, b) → b ≠ .dead → id < n0
structure PD (P : Program) (X : dg) (M : Mf) (nt : Nat) (ops : List SR) (i al fm : Nat) (wr fz : Bool) (S0 : aX) (G : aZ) (S : aX) (Q : aZ → aX → Prop) : Prop where
 run : ∀ c n0 h F env rs bs fs, DI c n0 al fm wr fz S0 h F S rs bs fs → RE h F G env → WD P X M c nt (bD n0 c.cM) ops i rs bs fs env h (fun env' h' => Leaves c h F S env' h' Q)
theorem testBit_or {a p i : Nat} (h : a ||| p = p) (hi : a.testBit i = true) : p.testBit i = true := by
 rw [← h, Nat.testBit_or, hi]; rfl
theorem OK {a b p : Nat} (h : (a ||| b) ||| p = p) : a ||| p = p := by
 apply Nat.eq_of_testBit_eq
 intro i
 have := congrArg (fun x => Nat.testBit x i) h
 simp only [Nat.testBit_or] at this ⊢
 cases ha : a.testBit i <;> cases hp : p.testBit i <;> simp_all
theorem OL {a i p : Nat} (h : (a ||| 1 <<< i) ||| p = p) : p.testBit i = true := by
 refine testBit_or h ?_
 rw [Nat.testBit_or]
 simp [Nat.testBit_shiftLeft]
theorem WD.mono {c : C} {base : List (Nat × Nat)} {ops : List SR} {i : Nat} {rs : List (Nat × Nat × Nat)} {bs : List (Nat × Tr AB × Tr AB)} {fs : List (Nat × Nat)} {env : bu} {h : H} {Q Q' : bu → H → Prop} (w : WD P X M c nt base ops i rs bs fs env h Q) (hq : ∀ e h, Q e h → Q' e h) : WD P X M c nt base ops i rs bs fs env h Q' := .mk fun sl hs => by
 obtain ⟨sl', h', env', h1, h2, h3⟩ := w.run sl hs
 exact ⟨sl', h', env', h1, h2, hq _ _ h3⟩
theorem aG {ops : List SR} {Q : Ex → aZ → aX → Prop} (w : PD P X M nt ops 0 0 0 false true S G S (Q .normal)) : PC P X M nt (.br ops) G S Q := ⟨fun c h F env s r =>
 LJ (w.run c h.n h F env [] [] [] ⟨s, Nat.le_refl _, fun p _ id h1 h2 => absurd h2 om, fun r q => (by cases q), fun b q => (by cases q), fun _ b q => (by cases q), fun f q => (by cases q), fun _ f q => (by cases q), fun _ id q => (s.fr id q).1, fun p id b e hb => (s.own p id b e hb).1⟩ r)⟩
theorem OM {i al fm : Nat} {wr fz : Bool} {S0 : aX} {Q : aZ → aX → Prop} (q : Q G S) : PD P X M nt [] i al fm wr fz S0 G S Q := ⟨fun c n0 h F env rs bs fs di r => ON ⟨G, S, F, Ext.refl _ _ _, di.st, r, q⟩⟩
theorem Sd {i al fm p : Nat} {wr fz b : Bool} {S0 : aX} {op : SO} {g : Option (Nat × Bool)} {ops : List SR} {Q : aZ → aX → Prop} (hnt : nt ≤ 1000000) (hg : dM G g = some true) (hd : Nat.blt d nt = true) (w : kG P X M op G fun v => PD P X M nt ops (i + 1) al fm wr fz S0 ((d, v) :: G) S Q) : PD P X M nt (⟨some d, op, g, p, false, b, none⟩ :: ops) i al fm wr fz S0 G S Q := ⟨fun c n0 h F env rs bs fs di r =>
 EA hnt (dE r hg) hd (w.run _ h F env r _ fun v a q hk => by
  have e : gL i h.n h.n rs = rs := by unfold gL; simp
  rw [e]
  exact hk.run c n0 h F _ rs bs fs di (r.put q))⟩
theorem OO {i al fm p : Nat} {wr fz m b : Bool} {S0 : aX} {op : SO} {g : Nat × Bool} {f : Option XV} {ops : List SR} {Q : aZ → aX → Prop} (hnt : nt ≤ 1000000) (hg : dM G (some g) = some false) (hd : Nat.blt d nt = true) (w : PD P X M nt ops (i + 1) al fm wr fz S0 ((d, .bO []) :: G) S Q) : PD P X M nt (⟨some d, op, some g, p, m, b, f⟩ :: ops) i al fm wr fz S0 G S Q := ⟨fun c n0 h F env rs bs fs di r =>
 OP hnt (dE r hg) hd (w.run c n0 h F _ rs bs fs di (r.put (.bO _ _ .nil)))⟩
theorem qw {al i n0 a b : Nat} {rs : List (Nat × Nat × Nat)} (hab : a ≤ b) (h : ∀ p, al ||| p = p → ∀ id, n0 ≤ id → id < a → ∀ base, seen (cE p base rs) id = true) : ∀ p, (al ||| 1 <<< i) ||| p = p → ∀ id, n0 ≤ id → id < b → ∀ base, seen (cE p base (gL i a b rs)) id = true := fun p hp id h1 h2 base => by
 have hb := OL hp
 have ha := OK hp
 unfold gL
 cases hq : Nat.beq a b with
 | true =>
  have := Nat.eq_of_beq_eq_true hq
  exact h p ha id h1 om base
 | false =>
  have hne : a ≠ b := fun e => by subst e; simp at hq
  have hz : Nat.blt 0 b = true := by simp [Nat.blt_eq]; omega
  simp only [cond, cE, hb, hz, Bool.and_self]
  by_cases hx : a ≤ id
  ·exact xx hx h2
  ·exact kA (by simp; omega) (h p ha id h1 om base)
theorem Se {i al fm p : Nat} {wr fz b : Bool} {S0 : aX} {op : SO} {g : Option (Nat × Bool)} {ops : List SR} {Q : aZ → aX → Prop} (hnt : nt ≤ 1000000) (hg : dM G g = some true) (hd : Nat.blt d nt = true) (w : Jb P X M d op G fun f b => ∀ id, PD P X M nt ops (i + 1) (al ||| 1 <<< i) fm wr fz S0 ((d, f id) :: G) ((d, some id, b) :: S) Q) : PD P X M nt (⟨some d, op, g, p, false, b, none⟩ :: ops) i al fm wr fz S0 G S Q := ⟨fun c n0 h F env rs bs fs di r =>
 EA hnt (dE r hg) hd (w.run _ h F env r _ fun f b ab a q1 q2 _ hk => by
  obtain ⟨s1, x1⟩ := di.st.new d q1
  have hn : (h.new ab).n = h.n + 1 := vx h ab
  have jT : ∀ id, id < h.n → (h.new ab).get id = h.get id := fun id q => ir (Nat.lt_succ_self _) _ q
  have hle := di.le
  refine WD.mono ((hk h.n).run c n0 (h.new ab) F _ _ bs fs ⟨s1, om, ?_, fun r q => ?_, fun b q => ?_, fun hw b q id bV => ?_, fun f q => (di.Gn f q).imp id fun ⟨z, vs, e⟩ => ⟨z, vs, (jT _ (di.st.fr _ z).1).trans e⟩, fun hw f q => ?_, di.fr, di.jG⟩ ((r.mono fun id q => ⟨q, jT id (di.st.fr id q).1⟩).put (q2 _))) fun _ _ l => l.after x1
  ·rw [hn]; exact qw om di.OJ
  ·rcases gr _ q with q | q
   ·exact di.lo r q
   ·subst q; exact hle
  ·rw [Nat.testBit_or, di.JT b q]; rfl
  ·obtain ⟨e1, e2⟩ := di.Pm hw b q id bV
   rw [jT id (by omega)]; exact ⟨e1, e2⟩
  ·obtain ⟨e1, vs, e2⟩ := di.MF hw f q
   exact ⟨om, vs, (jT _ e1).trans e2⟩)⟩
theorem xA {p A : Nat} : ∀ {bs : List (Nat × Tr AB × Tr AB)}, (∀ b ∈ bs, p.testBit b.1 = true ∨ ∃ vs, Tr.get b.2.1 A = some (.cells vs) ∧ Tr.get b.2.2 A = some (.cells vs)) → ml p A bs = true
 | [], _ => rfl
 | b :: bs, h => by
  have ih := xA (p := p) (A := A) (bs := bs) fun b q => h b (by simp [q])
  rcases h b (by simp) with q | ⟨vs, q1, q2⟩
  ·simp only [ml, q, ih, Bool.true_or, Bool.and_self]
  ·have e : rf (some (AB.cells vs)) (some (.cells vs)) = true := by simp only [rf, HY, eD]
   simp only [ml, q1, q2, e, ih, Bool.or_true, Bool.and_self]
theorem kB {p : Nat} {t t' : Tr AB} : ∀ {fs : List (Nat × Nat)}, (∀ f ∈ fs, p.testBit f.1 = true ∨ ∃ vs, Tr.get t f.2 = some (.cells vs) ∧ Tr.get t' f.2 = some (.cells vs)) → ji p t t' fs = true
 | [], _ => rfl
 | f :: fs, h => by
  have ih := kB (p := p) (t := t) (t' := t') (fs := fs) fun b q => h b (by simp [q])
  rcases h f (by simp) with q | ⟨vs, q1, q2⟩
  ·simp only [ji, q, ih, Bool.true_or, Bool.and_self]
  ·have e : rf (some (AB.cells vs)) (some (.cells vs)) = true := by simp only [rf, HY, eD]
   simp only [ji, q1, q2, e, ih, Bool.or_true, Bool.and_self]
def Fh (G : aZ) (S0 : aX) (fz : Bool) (x : XV) : Prop := match ca G x with
 | some (.ptr q id _) => match aI S0 q with
  | some (some id', .cells _) => id' = id
  | _ => False
 | some (.ib q id _ _ _) => match aI S0 q with
  | some (some id', .arr _ _ _) => id' = id
  | _ => False
 | some (.fp _ _) => fz = true
 | _ => False
theorem EB {c : C} {n0 al fm : Nat} {wr fz : Bool} {S0 : aX} {h : H} {F : Nat → Prop} {rs : List (Nat × Nat × Nat)} {bs : List (Nat × Tr AB × Tr AB)} {fs : List (Nat × Nat)} (di : DI c n0 al fm wr fz S0 h F S rs bs fs) {env : bu} (r : RE h F G env) {x : XV} (o : Fh G S0 fz x) {A off : Nat} (e : dX env x = some (.ptr A off)) : A < n0 := by
 unfold Fh at o
 split at o
 ·rename_i hx
  obtain ⟨a, e1, q⟩ := r.ev hx
  rw [e1] at e; cases e; cases q
  split at o
  ·rename_i hS; subst o; exact di.jG _ _ _ hS (fun q => by cases q)
  ·exact o.elim
 ·rename_i hx
  obtain ⟨a, e1, q⟩ := r.ev hx
  rw [e1] at e
  simp only [Option.some.injEq] at e
  subst e
  split at o
  ·rename_i hS
   cases q
   subst o; exact di.jG _ _ _ hS (fun q => by cases q)
  ·exact o.elim
 ·rename_i hx
  obtain ⟨a, e1, q⟩ := r.ev hx
  rw [e1] at e
  simp only [Option.some.injEq] at e
  subst e
  cases q with
  | fp _ _ id base vs h1 => exact di.fr o _ h1
 ·exact o.elim
theorem DI.base {c : C} {n0 al fm : Nat} {wr fz : Bool} {S0 : aX} {h : H} {F : Nat → Prop} {rs : List (Nat × Nat × Nat)} {bs : List (Nat × Tr AB × Tr AB)} {fs : List (Nat × Nat)} (di : DI c n0 al fm wr fz S0 h F S rs bs fs) {p id : Nat} (hs : seen c.cM id = true) (bV : id < n0) : seen (cE p (bD n0 c.cM) rs) id = true := BP di.lo bV (qx hs bV)
theorem DI.all {c : C} {n0 al fm : Nat} {wr fz : Bool} {S0 : aX} {h : H} {F : Nat → Prop} {rs : List (Nat × Nat × Nat)} {bs : List (Nat × Tr AB × Tr AB)} {fs : List (Nat × Nat)} (di : DI c n0 al fm wr fz S0 h F S rs bs fs) {p id : Nat} (hp : al ||| p = p) (hs : seen c.cM id = true) (bV : id < h.n) : seen ((h.n, jf) :: cE p (bD n0 c.cM) rs) id = true := by
 refine kA bV ?_
 rcases Nat.lt_or_ge id n0 with q | q
 ·exact di.base hs q
 ·exact di.OJ p hp id q bV _
theorem LK {i al fm fm2 p : Nat} {wr fz m b : Bool} {S0 : aX} {op : SO} {x : XV} {g : Option (Nat × Bool)} {ops : List SR} {Q : aZ → aX → Prop} (hnt : nt ≤ 1000000) (hg : dM G g = some true) (hd : Nat.blt d nt = true) (hx : SO.Ra op = some x) (ho : al ||| p = p ∨ wr = false ∧ Fh G S0 fz x) (hm : fm2 = fm ||| 1 <<< i ∨ fm2 = fm ∧ ∃ row off, ca G x = some (.fp row off)) (w : wM P X M op G S fun v => PD P X M nt ops (i + 1) al fm2 wr fz S0 ((d, v) :: G) S Q) : PD P X M nt (⟨some d, op, g, p, m, b, some x⟩ :: ops) i al fm wr fz S0 G S Q := ⟨fun c n0 h F env rs bs fs di r => by
 obtain ⟨x', A, off, vs, h1, h2, h3, h4, h5⟩ := w.run h F env r fun p id b e hb => (di.st.own p id b e hb).2.2.2.2
 rw [hx] at h1; cases h1
 have hA : A < h.n ∧ seen c.cM A = true := by
  rcases h4 with q | ⟨p, b, e, hb⟩
  ·exact di.st.fr A q
  ·have := di.st.own p A b e hb; exact ⟨this.1, this.2.2.1⟩
 have hsee : seen ((h.n, jf) :: cE p (bD n0 c.cM) rs) A = true := by
  rcases ho with q | ⟨_, q⟩
  ·exact di.all q hA.2 hA.1
  ·exact kA hA.1 (di.base hA.2 (EB di r q h2))
 have hun : ml p A bs = true := xA fun b q => by
  rcases ho with hp | ⟨hw, hol⟩
  ·exact Or.inl (testBit_or hp (di.JT b q))
  ·obtain ⟨e1, e2⟩ := di.Pm hw b q A (EB di r hol h2)
   exact Or.inr ⟨vs, e1.trans h3, e2.trans h3⟩
 refine LL hnt (dE r hg) hd h2 rfl hsee hun (h5 _ (kA hA.1 (xx (Nat.le_refl _) (Nat.lt_succ_self _))) _ fun v a q hk => ?_)
 have e : gL i h.n h.n rs = rs := by unfold gL; simp
 rw [e]
 refine hk.run c n0 h F _ rs bs _ ⟨di.st, di.le, di.OJ, di.lo, di.JT, di.Pm, fun f q => ?_, fun hw f q => ?_, di.fr, di.jG⟩ (r.put q)
 ·rcases hm with hm | ⟨hm, row, o2, hx2⟩
  ·subst hm
   rcases List.mem_cons.1 q with rfl | q
   ·refine Or.inl ?_
    rw [Nat.testBit_or]; simp [Nat.testBit_shiftLeft]
   ·refine (di.Gn f q).imp (fun z => ?_) id
    rw [Nat.testBit_or, z]; rfl
  ·subst hm
   rcases List.mem_cons.1 q with rfl | q
   ·refine Or.inr ⟨?_, vs, h3⟩
    obtain ⟨a2, e2, q2⟩ := r.ev hx2
    rw [h2] at e2; cases e2
    cases q2 with
    | fp _ _ id base vs2 g1 => exact g1
   ·exact di.Gn f q
 ·rcases List.mem_cons.1 q with rfl | q
  ·exact ⟨hA.1, vs, h3⟩
  ·exact di.MF hw f q⟩
theorem Sg {i al fm p : Nat} {wr fz b : Bool} {S0 : aX} {f : XV} {args : List XV} {g : Option (Nat × Bool)} {ops : List SR} {Q : aZ → aX → Prop} {k : Nat} {caps vs ws : List PV} (hnt : nt ≤ 1000000) (hg : dM G g = some true) (hd : Nat.blt d nt = true) (hp : al ||| p = p) (hw : wr = false ∨ fm ||| p = p)
    (hf : ca G f = some (.fn k caps)) (ha : zg G args = some vs) (hws : vs ++ caps = ws) (w : OI P X M k ws S fun v => PD P X M nt ops (i + 1) (al ||| 1 <<< i) fm wr (fz && v.flat) S0 ((d, v) :: G) S Q) : PD P X M nt (⟨some d, .call f args, g, p, true, b, none⟩ :: ops) i al fm wr fz S0 G S Q := ⟨fun c n0 h F env rs bs fs di r => by
 obtain ⟨a, e1, q1⟩ := r.ev hf
 obtain ⟨azs, e2, q2⟩ := r.Lt ha
 cases q1 with
 | fn _ _ cs q1 =>
 subst hws
 have hle := di.le
 have hfl : ∀ fl, fl ≤ h.n → WO P X M ⟨fl, (h.n, jf) :: cE p (bD n0 c.cM) rs⟩ (.call f args) env h (fun v h' => ∃ q F', Ext h F [] h' F' [] ∧ (∀ id, F' id → F id ∨ h.n ≤ id ∧ id < h'.n) ∧ R h' F' q v ∧ PD P X M nt ops (i + 1) (al ||| 1 <<< i) fm wr (fz && q.flat) S0 ((d, q) :: G) S Q) := fun fl hfl => by
  refine zn e1 e2 ((w _ h F _ (Cx.mem hfl) di.st.gl (fun id q => ⟨(di.st.fr id q).1, di.all hp (di.st.fr id q).2 (di.st.fr id q).1⟩) (fun pl id b e hb => ?_) di.st.inj (q2.app q1)).mono fun v h' ⟨q, F', a1, a2, a3, a4⟩ => ⟨q, F', a1, fun id x => ?_, a3, a4⟩)
  ·obtain ⟨g1, g2, g3, g4, g5⟩ := di.st.own pl id b e hb
   exact ⟨g1, di.all hp g3 g1, g4, g5⟩
  ·rcases a1.tf id x with y | y | y
   ·exact Or.inl y
   ·exact Or.inr ⟨y, (a2 id x).1⟩
   ·exact (cj y).elim
 have next : ∀ v h', (∃ q F', Ext h F [] h' F' [] ∧ (∀ id, F' id → F id ∨ h.n ≤ id ∧ id < h'.n) ∧ R h' F' q v ∧ PD P X M nt ops (i + 1) (al ||| 1 <<< i) fm wr (fz && q.flat) S0 ((d, q) :: G) S Q) → ji p h.t h'.t fs = true ∧ ∀ bs', (bs' = bs ∨ bs' = (i, h.t, h'.t) :: bs) → WD P X M c nt (bD n0 c.cM) ops (i + 1) (gL i h.n h'.n rs) bs' fs ((d, v) :: env) h' (fun env' h' => Leaves c h F S env' h' Q) := fun v h' ⟨q, F', a1, a2, a3, a4⟩ => by
  have same : ∀ id, id < h.n → h'.get id = h.get id := fun id bV => a1.same id bV cj
  refine ⟨kB fun f x => ?_, fun bs' hbs => ?_⟩
  ·rcases hw with y | y
   ·obtain ⟨g1, us, g2⟩ := di.MF y f x
    exact Or.inr ⟨us, g2, (same _ g1).trans g2⟩
   ·rcases di.Gn f x with z | ⟨z, us, g2⟩
    ·exact Or.inl (testBit_or y z)
    ·exact Or.inr ⟨us, g2, (same _ (di.st.fr _ z).1).trans g2⟩
  ·-- the frozen blocks behind the call: none new, where the answer is flat
   obtain ⟨F2, b1, b2, b3, b4⟩ : ∃ F2 : Nat → Prop, (∀ id, F id → F2 id) ∧ (∀ id, F2 id → F id ∨ h.n ≤ id ∧ id < h'.n) ∧ R h' F2 q v ∧ ((fz && q.flat) = true → ∀ id, F2 id → id < n0) := by
    cases hq : q.flat with
    | true => exact ⟨F, fun _ x => x, fun _ x => Or.inl x, a3.flat hq, fun x => di.fr (by simpa using x)⟩
    | false => exact ⟨F', a1.sub, a2, a3, fun x => by simp at x⟩
   have x2 : Ext h F [] h' F2 [] := ⟨a1.le, b1, a1.same, fun id x => by rcases b2 id x with y | y; exact Or.inl y; exact Or.inr (Or.inl y.1), fun _ x => (cj x).elim⟩
   obtain ⟨s2, x3⟩ := di.st.frame x2 (di.st.cx.mono a1.le) (fun id x => by
    rcases b2 id x with y | y
    ·exact ⟨Nat.lt_of_lt_of_le (di.st.fr id y).1 a1.le, (di.st.fr id y).2⟩
    ·exact ⟨y.2, di.st.cx.cM id y.1⟩)
   have hle' := a1.le
   refine WD.mono (a4.run c n0 h' F2 _ _ _ fs ⟨s2, om, qw hle' di.OJ, fun r q => ?_, fun b q => ?_, fun hw b q id bV => ?_, fun f q => (di.Gn f q).imp id fun ⟨z, vs, e⟩ => ⟨b1 _ z, vs, (same _ (di.st.fr _ z).1).trans e⟩, fun hw f q => ?_, b4, di.jG⟩ ((r.mono fun id q => ⟨b1 id q, same id (di.st.fr id q).1⟩).put b3)) fun _ _ l => l.after x3
   ·rcases gr _ q with q | q
    ·exact di.lo r q
    ·subst q; exact hle
   ·rcases hbs with rfl | rfl
    ·rw [Nat.testBit_or, di.JT b q]; rfl
    ·rcases List.mem_cons.1 q with rfl | q
     ·rw [Nat.testBit_or]; simp [Nat.testBit_shiftLeft]
     ·rw [Nat.testBit_or, di.JT b q]; rfl
   ·have e3 := same id om
    have jG : ∀ b ∈ bs, Tr.get b.2.1 id = h'.get id ∧ Tr.get b.2.2 id = h'.get id := fun b q => by
     obtain ⟨e1, e2⟩ := di.Pm hw b q id bV
     rw [e3]; exact ⟨e1, e2⟩
    rcases hbs with rfl | rfl
    ·exact jG b q
    ·rcases List.mem_cons.1 q with rfl | q
     ·exact ⟨e3.symm, rfl⟩
     ·exact jG b q
   ·obtain ⟨e1, us, e2⟩ := di.MF hw f q
    exact ⟨om, us, (same _ e1).trans e2⟩
 cases b with
 | true => exact zo hnt (dE r hg) hd ((hfl c.floor di.st.cx.low).mono fun v h' x => ⟨(next v h' x).1, (next v h' x).2 _ (Or.inr rfl)⟩)
 | false => exact DC hnt (dE r hg) hd ((hfl h.n (Nat.le_refl _)).mono fun v h' x => (next v h' x).2 _ (Or.inl rfl))⟩
def LM (d : Option Nat) (v : PV) (G : aZ) : aZ := match d with
 | some d => (d, v) :: G
 | none => G
theorem Si {i al fm p : Nat} {wr fz : Bool} {S0 : aX} {op : SO} {g : Option (Nat × Bool)} {ops : List SR} {Q : aZ → aX → Prop} {od : Option Nat} (hnt : nt ≤ 1000000) (hg : dM G g = some true) (hd : nT nt od = true) (hp : al ||| p = p) (hfp : fm ||| p = p)
    (w : PO P X M (od.getD nt) op G S fun v S' => PD P X M nt ops (i + 1) (al ||| 1 <<< i) fm true false S0 (LM od v G) S' Q) : PD P X M nt (⟨od, op, g, p, true, true, none⟩ :: ops) i al fm wr fz S0 G S Q := ⟨fun c n0 h F env rs bs fs di r => by
 have hle := di.le
 have s2 : St ⟨c.floor, (h.n, jf) :: cE p (bD n0 c.cM) rs⟩ h F S := ⟨Cx.mem di.st.cx.low, di.st.gl, fun id q => ⟨(di.st.fr id q).1, di.all hp (di.st.fr id q).2 (di.st.fr id q).1⟩, fun pl id b e hb => by
  obtain ⟨g1, g2, g3, g4, g5⟩ := di.st.own pl id b e hb
  exact ⟨g1, g2, di.all hp g3 g1, g4, g5⟩, di.st.inj⟩
 have w2 := w.run _ h F env s2 r
 have next : ∀ v h', (∃ q S' F', Ext h F S h' F' S' ∧ St ⟨c.floor, (h.n, jf) :: cE p (bD n0 c.cM) rs⟩ h' F' S' ∧ R h' F' q v ∧ PD P X M nt ops (i + 1) (al ||| 1 <<< i) fm true false S0 (LM od q G) S' Q) → ji p h.t h'.t fs = true ∧ WD P X M c nt (bD n0 c.cM) ops (i + 1) (gL i h.n h'.n rs) ((i, h.t, h'.t) :: bs) fs (wE od v env) h' (fun env' h' => Leaves c h F S env' h' Q) := fun v h' ⟨q, S', F', a1, a2, a3, a4⟩ => by
  refine ⟨kB fun f x => ?_, ?_⟩
  ·rcases di.Gn f x with z | ⟨z, us, g2⟩
   ·exact Or.inl (testBit_or hfp z)
   ·exact Or.inr ⟨us, g2, (di.st.jT a1 _ z).2.trans g2⟩
  have cM : ∀ id, h.n ≤ id ∨ F id ∨ Live S id → seen c.cM id = true ∧ (h.n ≤ id ∨ Live S id → c.floor ≤ id) := fun id q => by
   rcases q with q | q | ⟨pl, b, e, hb⟩
   ·exact ⟨di.st.cx.cM id q, fun _ => Nat.le_trans di.st.cx.low q⟩
   ·refine ⟨(di.st.fr id q).2, fun z => ?_⟩
    rcases z with z | ⟨pl, b, e, hb⟩
    ·exact Nat.le_trans di.st.cx.low z
    ·exact (di.st.own pl id b e hb).2.1
   ·have := di.st.own pl id b e hb
    exact ⟨this.2.2.1, fun _ => this.2.1⟩
  have s3 : St c h' F' S' := ⟨di.st.cx.mono a1.le, a2.gl, fun id x => ⟨(a2.fr id x).1, (cM id (by
   rcases a1.tf id x with y | y | y
   ·exact Or.inr (Or.inl y)
   ·exact Or.inl y
   ·exact Or.inr (Or.inr y))).1⟩, fun pl id b e hb => by
    obtain ⟨g1, g2, g3, g4, g5⟩ := a2.own pl id b e hb
    have hv := cM id (by
     rcases a1.zh id ⟨pl, b, e, hb⟩ with y | y
     ·exact Or.inl y
     ·exact Or.inr (Or.inr y))
    exact ⟨g1, g2, hv.1, g4, g5⟩, a2.inj⟩
  have hre : RE h' F' (LM od q G) (wE od v env) := by
   have := r.mono fun id x => di.st.jT a1 id x
   cases od with
   | some d => exact this.put a3
   | none => exact this
  refine WD.mono (a4.run c n0 h' F' _ _ _ fs ⟨s3, Nat.le_trans hle a1.le, qw a1.le di.OJ, fun r q => ?_, fun b q => ?_, fun hw => (by cases hw), fun f q => (di.Gn f q).imp id fun ⟨z, vs, e⟩ => ⟨(di.st.jT a1 _ z).1, vs, (di.st.jT a1 _ z).2.trans e⟩, fun hw => (by cases hw), fun hz => (by cases hz), di.jG⟩ hre) fun _ _ l => l.after a1
  ·rcases gr _ q with q | q
   ·exact di.lo r q
   ·subst q; exact hle
  ·rcases List.mem_cons.1 q with rfl | q
   ·rw [Nat.testBit_or]; simp [Nat.testBit_shiftLeft]
   ·rw [Nat.testBit_or, di.JT b q]; rfl
 cases od with
 | some d => exact zo hnt (dE r hg) hd (w2.mono next)
 | none => exact LN hnt (dE r hg) (w2.mono next)⟩
end
section
variable {P : Program} {X : dg} {M : Mf} {nt d : Nat} {G : aZ} {S : aX}
structure sC (P : Program) (X : dg) (M : Mf) (op : SO) (G : aZ) (S S0 : aX) (fz : Bool) (x : XV) (K : PV → Prop) : Prop where
 jG : Fh G S0 fz x
 rd : wM P X M op G S K
def MG (P : Program) (X : dg) (M : Mf) (nt : Nat) (ops : List SR) (i al fm : Nat) (wr fz : Bool) (S0 : aX) (G : aZ) (S : aX) (Q : aZ → aX → Prop) : Option Prop := match ops with
 | [] => some (Q G S)
 | ⟨some d, op, g, p, m, _, f⟩ :: ops => bif Nat.blt d nt then match dM G g with
  | some false => some (PD P X M nt ops (i + 1) al fm wr fz S0 ((d, .bO []) :: G) S Q)
  | some true => match f with
   | some x => match SO.cls op with
    | 2 => bif Nat.beq (al ||| p) p then match ca G x with
        | some (.fp _ _) => some (wM P X M op G S fun v => PD P X M nt ops (i + 1) al fm wr fz S0 ((d, v) :: G) S Q)
        | _ => some (wM P X M op G S fun v => PD P X M nt ops (i + 1) al (fm ||| 1 <<< i) wr fz S0 ((d, v) :: G) S Q)
     else match wr with
     | false => match ca G x with
      | some (.fp _ _) => some (sC P X M op G S S0 fz x fun v => PD P X M nt ops (i + 1) al fm false fz S0 ((d, v) :: G) S Q)
      | _ => some (sC P X M op G S S0 fz x fun v => PD P X M nt ops (i + 1) al (fm ||| 1 <<< i) false fz S0 ((d, v) :: G) S Q)
     | true => none
    | _ => none
   | none => match m with
    | false => match SO.cls op with
     | 0 => some (kG P X M op G fun v => PD P X M nt ops (i + 1) al fm wr fz S0 ((d, v) :: G) S Q)
     | 1 => some (Jb P X M d op G fun f b => ∀ id, PD P X M nt ops (i + 1) (al ||| 1 <<< i) fm wr fz S0 ((d, f id) :: G) ((d, some id, b) :: S) Q)
     | _ => none
    | true => none
  | none => none
  else none
 | _ => none
def OQ : List SR → Prop
 | ⟨_, op, _, _, _, _, some x⟩ :: _ => SO.Ra op = some x
 | _ => True
theorem pd {ops : List SR} {i al fm : Nat} {wr fz : Bool} {S0 : aX} {Q : aZ → aX → Prop} {J : Prop} (g : J) (e : MG P X M nt ops i al fm wr fz S0 G S Q = some J := by exact rfl) (ha : OQ ops := by first | exact True.intro | exact rfl) (hnt : nt ≤ 1000000 := by assumption) : PD P X M nt ops i al fm wr fz S0 G S Q := by
 unfold MG at e
 split at e
 ·cases e; exact OM g
 ·rename_i d op g0 p m b f ops
  cases hd : Nat.blt d nt with
  | false => rw [hd] at e; cases e
  | true =>
   rw [hd, cond_true] at e
   split at e
   ·rename_i q
    cases e
    cases g0 with
    | none => cases q
    | some g0 => exact OO hnt q hd g
   ·rename_i q
    split at e
    ·rename_i x
     split at e
     ·cases hb : Nat.beq (al ||| p) p with
      | true =>
       rw [hb] at e
       simp only [cond] at e
       split at e
       ·rename_i hx; cases e; exact LK hnt q hd ha (Or.inl (Nat.eq_of_beq_eq_true hb)) (Or.inr ⟨rfl, _, _, hx⟩) g
       ·cases e; exact LK hnt q hd ha (Or.inl (Nat.eq_of_beq_eq_true hb)) (Or.inl rfl) g
      | false =>
       rw [hb] at e
       simp only [cond] at e
       split at e
       ·split at e
        ·rename_i hx; cases e; exact LK hnt q hd ha (Or.inr ⟨rfl, g.jG⟩) (Or.inr ⟨rfl, _, _, hx⟩) g.rd
        ·cases e; exact LK hnt q hd ha (Or.inr ⟨rfl, g.jG⟩) (Or.inl rfl) g.rd
       ·cases e
     ·cases e
    ·split at e
     ·split at e
      ·cases e; exact Sd hnt q hd g
      ·cases e; exact Se hnt q hd g
      ·cases e
     ·cases e
   ·cases e
 ·cases e
theorem dW {i al fm p : Nat} {wr fz b : Bool} {S0 : aX} {f : XV} {args : List XV} {g : Option (Nat × Bool)} {ops : List SR} {Q : aZ → aX → Prop} {k : Nat} {caps vs ws : List PV} (w : OI P X M k ws S fun v => PD P X M nt ops (i + 1) (al ||| 1 <<< i) fm wr (fz && v.flat) S0 ((d, v) :: G) S Q)
    (hg : dM G g = some true := by exact rfl) (hf : ca G f = some (.fn k caps) := by exact rfl) (ha : zg G args = some vs := by exact rfl) (hws : vs ++ caps = ws := by exact rfl) (hp : al ||| p = p := by decide) (hw : wr = false ∨ fm ||| p = p := by first | exact Or.inl rfl | exact Or.inr dc) (hd : Nat.blt d nt = true := by exact rfl) (hnt : nt ≤ 1000000 := by assumption) : PD P X M nt (⟨some d, .call f args, g, p, true, b, none⟩ :: ops) i al fm wr fz S0 G S Q := Sg hnt hg hd hp hw hf ha hws w
theorem cH {i al fm p : Nat} {wr fz : Bool} {S0 : aX} {op : SO} {g : Option (Nat × Bool)} {ops : List SR} {Q : aZ → aX → Prop} {od : Option Nat} (w : PO P X M (od.getD nt) op G S fun v S' => PD P X M nt ops (i + 1) (al ||| 1 <<< i) fm true false S0 (LM od v G) S' Q)
    (hg : dM G g = some true := by exact rfl) (hp : al ||| p = p := by decide) (hfp : fm ||| p = p := by decide) (hd : nT nt od = true := by exact rfl) (hnt : nt ≤ 1000000 := by assumption) : PD P X M nt (⟨od, op, g, p, true, true, none⟩ :: ops) i al fm wr fz S0 G S Q := Si hnt hg hd hp hfp w
theorem il {f : Nat} {args args' : List PV} {K : PV → Prop} (hz : c5 S args args') (w : PF P X M f args' fun r => r.flat = true ∧ K r) : OI P X M f args S K := fun c h F azs hc hg hf hs hi r => by
 have hr := hz.Sc hc hg hf hs hi r
 have s1 : St c h (nH F S) [] := St.nil hc (hg.mono fun id q => ⟨Or.inl q, rfl⟩) fun id q => by
  rcases q with q | ⟨p, b, e, hb⟩
  ·exact hf id q
  ·obtain ⟨g1, g2, _⟩ := hs p id b e hb
   exact ⟨g1, g2⟩
 refine (w c h _ azs s1 hr).mono fun v h' ⟨p, S', F', a1, a2, a3, a4⟩ => ?_
 exact ⟨p, F, ⟨a1.le, fun _ q => q, fun id bV _ => a1.same id bV cj, fun _ q => Or.inl q, fun _ q => (cj q).elim⟩, fun id q => ⟨Nat.lt_of_lt_of_le (hf id q).1 a1.le, (hf id q).2⟩, a3.flat a4.1, a4.2⟩
/-! maps -/
variable {K : PV → aX → Prop}
def oV (ok : Bool) (v : PV) (b : Bool) : PV := bif ok then .bO [v, .bool b] else v
theorem kC {h : H} {F : Nat → Prop} {v : PV} {a : AV} (q : R h F v a) (ok b : Bool) : R h F (oV ok v b) (xB ok a b) := by
 cases ok with
 | true => exact .bO _ _ (.cons _ _ _ _ q (.cons _ _ _ _ (.bool b) .nil))
 | false => exact q
section
variable {κ : Type} [DecidableEq κ] {ky : κ → AV}
theorem zq {a : κ} : ∀ {l : List (κ × AV × Nat)}, gz a l = none → ¬ a ∈ l.map Prod.fst
 | [], _, h => by cases h
 | p :: l, e, h => by
  rw [gz] at e
  by_cases q : a = p.1
  ·rw [if_pos q] at e; cases e
  ·rw [if_neg q] at e
   rcases List.mem_cons.1 h with w | w
   ·exact q w
   ·exact zq (by simpa using e) w
theorem Gp {a : κ} {x : AV × Nat} {l : List (κ × AV × Nat)} (e : gz a l = none) (h : (l.map Prod.fst).Nodup) : ((l ++ [(a, x)]).map Prod.fst).Nodup := by
 rw [List.map_append]
 refine List.nodup_append.2 ⟨h, by simp, fun x hx y hy => ?_⟩
 have : y = a := by simpa using hy
 rw [this]
 intro q
 exact zq e (q ▸ hx)
theorem BQ {a : κ} {u : AV} : ∀ {l : List (κ × AV × Nat)}, (qy a u l).map Prod.fst = l.map Prod.fst
 | [] => rfl
 | p :: l => by
  rw [qy]
  split
  ·rfl
  ·show p.1 :: _ = p.1 :: _
   rw [BQ]
theorem oW {a : κ} {u : AV} : ∀ {l : List (κ × AV × Nat)}, (qy a u l).map (fun p => p.2.2) = l.map fun p => p.2.2
 | [] => rfl
 | p :: l => by
  rw [qy]
  split
  ·rfl
  ·show p.2.2 :: _ = p.2.2 :: _
   rw [oW]
theorem OR {a : κ} {u : AV} {l : List (κ × AV × Nat)} {ck : Nat} (h : Nd l ck) : Nd (qy a u l) ck := by
 refine ⟨by rw [BQ]; exact h.1, by rw [oW]; exact h.2.1, fun p hp => ?_⟩
 have h1 : p.2.2 ∈ (qy a u l).map fun p => p.2.2 := List.mem_map.2 ⟨p, hp, rfl⟩
 rw [oW] at h1
 obtain ⟨q, hq, e⟩ := List.mem_map.1 h1
 rw [← e]; exact h.2.2 q hq
theorem OS {a : κ} {v : AV} {l : List (κ × AV × Nat)} {ck : Nat} (e : gz a l = none) (h : Nd l ck) : Nd (l ++ [(a, v, ck)]) (ck + 1) := by
 refine ⟨Gp e h.1, ?_, fun p hp => ?_⟩
 ·rw [List.map_append]
  refine List.nodup_append.2 ⟨h.2.1, by simp, fun x hx y hy => ?_⟩
  obtain ⟨q, hq, rfl⟩ := List.mem_map.1 hx
  have h2 := h.2.2 q hq
  have : y = ck := by simpa using hy
  omega
 ·rcases List.mem_append.1 hp with hp | hp
  ·have := h.2.2 p hp; omega
  ·rw [List.mem_singleton.1 hp]; exact Nat.lt_succ_self _
theorem zr {c : C} {env : bu} {h : H} {K : AV → H → Prop} {q : SQ} {z : AV} {x key : XV} {ok : Bool} {a : κ} {id clock : Nat} {l : List (κ × AV × Nat)} (hq : ∀ a b, q.den (ky a) (ky b) = some (decide (a = b))) (hx : dX env x = some (.mp id)) (hkey : dX env key = some (ky a)) (hs : seen c.cM id = true) (hg : h.get id = some (.map (oT ky l) clock)) (h1 : ∀ i v, gz a l = some (i, v) → K (xB ok v true) h) (h0 : gz a l = none → K (xB ok z false) h) : WO P X M c (.lookup q z x key ok) env h K := by
 refine Gq hx hkey (by rw [hq]; simp) hs hg (rC hq a l 0) ?_
 cases hf : gz a l with
 | none => exact h0 hf
 | some p => exact h1 p.1 p.2 hf
theorem Jk {c : C} {env : bu} {h : H} {K : AV → H → Prop} {q : SQ} {x key y : XV} {a : κ} {u : AV} {id clock : Nat} {l : List (κ × AV × Nat)} (hq : ∀ a b, q.den (ky a) (ky b) = some (decide (a = b))) (hx : dX env x = some (.mp id)) (hkey : dX env key = some (ky a)) (hy : dX env y = some u) (hfl : c.floor ≤ id) (hs : seen c.cM id = true) (hg : h.get id = some (.map (oT ky l) clock))
    (hk : ∀ l' ck, (Nd l clock → Nd l' ck) → (∀ b, (gz b l').map Prod.snd = if b = a then some u else (gz b l).map Prod.snd) → K (.bO []) (h.put id (.map (oT ky l') ck))) : WO P X M c (.lj q x key y) env h K := by
 have hfind := rC hq a l 0
 cases hfa : gz a l with
 | none =>
  rw [hfa] at hfind
  have e : oT ky l ++ [(ky a, u, clock)] = oT ky (l ++ [(a, u, clock)]) := by simp [oT]
  refine zt hx hkey hy (by rw [hq]; simp) hfl hs hg hfind ?_
  have := hk (l ++ [(a, u, clock)]) (clock + 1) (OS hfa) fun b => EC a b u clock l hfa
  rw [← e] at this
  exact this
 | some p =>
  obtain ⟨i, v⟩ := p
  rw [hfa] at hfind
  obtain ⟨hi, hset⟩ := ED (ky := ky) a u l i v hfa
  simp only [Option.map_some, Nat.zero_add] at hfind
  refine zu hx hkey hy (by rw [hq]; simp) hfl hs hg hfind hi ?_
  have := hk (qy a u l) clock (fun w => OR w) fun b => EE a u b l (by rw [hfa]; simp)
  rw [← hset] at this
  exact this
theorem DE {h : H} {F : Nat → Prop} {f : κ → Option PV} {l l' : List (κ × AV × Nat)} {a : κ} {v : PV} {u : AV} (h1 : ∀ k, gz k l = none ↔ f k = none) (h2 : ∀ k i v, gz k l = some (i, v) → R h F ((f k).getD .gA) v) (q : R h F v u) (e : ∀ b, (gz b l').map Prod.snd = if b = a then some u else (gz b l).map Prod.snd) : (∀ k, gz k l' = none ↔ (if k = a then some v else f k) = none) ∧ ∀ k i w, gz k l' = some (i, w) → R h F ((if k = a then some v else f k).getD .gA) w := by
 refine ⟨fun k => ?_, fun k i w hw => ?_⟩
 ·have := e k
  by_cases hk : k = a
  ·rw [if_pos hk] at this ⊢
   cases hf : gz k l' with
   | none => rw [hf] at this; cases this
   | some p => simp
  ·rw [if_neg hk] at this ⊢
   rw [← h1 k]
   cases hf : gz k l' with
   | none => rw [hf] at this; cases hg : gz k l with
    | none => simp
    | some p => rw [hg] at this; cases this
   | some p => rw [hf] at this; cases hg : gz k l with
    | none => rw [hg] at this; cases this
    | some p => simp
 ·have := e k
  rw [hw] at this
  by_cases hk : k = a
  ·rw [if_pos hk] at this ⊢
   cases this; exact q
  ·rw [if_neg hk] at this ⊢
   cases hg : gz k l with
   | none => rw [hg] at this; cases this
   | some p => rw [hg] at this; cases this; exact h2 k p.1 p.2 hg
end
theorem rD (a b : List Nat) : SQ.den (.b .str) (.str a) (.str b) = some (decide (a = b)) := by show eqStr (.str a) (.str b) = _; simp only [eqStr, mz]
theorem Hk {z : AV} {zp : PV} {x key : XV} {ok : Bool} {k : List Nat} {p id : Nat} {f : List Nat → Option PV} (h1 : ∀ v, f k = some v → K (oV ok v true) S) (h0 : f k = none → K (oV ok zp false) S) (hx : ca G x = some (.qD p id) := by exact rfl) (hS : aI S p = some (some id, .jO f) := by exact rfl) (hkey : ca G key = some (.str k) := by exact rfl) (hz : iq z = some zp := by exact rfl) : PO P X M d (.lookup (.b .str) z x key ok) G S K := ⟨fun c h F env s r => by
 obtain ⟨a, e1, q1⟩ := r.ev hx
 obtain ⟨b, e2, q2⟩ := r.ev hkey
 cases q1; cases q2
 obtain ⟨g1, g2, g3, ab, g4, g5⟩ := s.at_ hS (fun q => by cases q)
 cases g5 with
 | jO _ l ck w1 w2 =>
  refine zr (ky := AV.str) rD e1 e2 g2 g4 (fun i v hf => ?_) fun hf => ?_
  ·have := w2 k i v hf
   cases hfk : f k with
   | none => rw [(w1 k).2 hfk] at hf; cases hf
   | some pv => rw [hfk] at this; exact ⟨_, S, F, Ext.refl _ _ _, s, kC this ok true, h1 pv hfk⟩
  ·exact ⟨_, S, F, Ext.refl _ _ _, s, kC (vu h F z zp hz) ok false, h0 ((w1 k).1 hf)⟩⟩
theorem Hj {z : AV} {zp : PV} {x key : XV} {ok : Bool} {k : List Nat} {f : List Nat → Option PV} (h1 : ∀ v, f k = some v → K (oV ok v true) S) (h0 : f k = none → K (oV ok zp false) S) (hx : ca G x = some (.Mh f) := by exact rfl) (hkey : ca G key = some (.str k) := by exact rfl) (hz : iq z = some zp := by exact rfl) : PO P X M d (.lookup (.b .str) z x key ok) G S K := ⟨fun c h F env s r => by
 obtain ⟨a, e1, q1⟩ := r.ev hx
 obtain ⟨b, e2, q2⟩ := r.ev hkey
 cases q2
 cases q1 with
 | Mh _ id l ck g1 g2 w1 w2 =>
  refine zr (ky := AV.str) rD e1 e2 (s.fr id g1).2 g2 (fun i v hf => ?_) fun hf => ?_
  ·have := w2 k i v hf
   cases hfk : f k with
   | none => rw [(w1 k).2 hfk] at hf; cases hf
   | some pv => rw [hfk] at this; exact ⟨_, S, F, Ext.refl _ _ _, s, kC this ok true, h1 pv hfk⟩
  ·exact ⟨_, S, F, Ext.refl _ _ _, s, kC (vu h F z zp hz) ok false, h0 ((w1 k).1 hf)⟩⟩
theorem Au {z : AV} {zp : PV} {x key : XV} {ok : Bool} {k : Int} {p id : Nat} {f : Int → Option PV} (h1 : ∀ v, f k = some v → K (oV ok v true) S) (h0 : f k = none → K (oV ok zp false) S) (hx : ca G x = some (.qD p id) := by exact rfl) (hS : aI S p = some (some id, .ix f) := by exact rfl) (hkey : ca G key = some (.int .i64 k) := by exact rfl) (hz : iq z = some zp := by exact rfl) : PO P X M d (.lookup (.b .int) z x key ok) G S K := ⟨fun c h F env s r => by
 obtain ⟨a, e1, q1⟩ := r.ev hx
 obtain ⟨b, e2, q2⟩ := r.ev hkey
 cases q1; cases q2
 obtain ⟨g1, g2, g3, ab, g4, g5⟩ := s.at_ hS (fun q => by cases q)
 cases g5 with
 | ix _ l ck w1 w2 =>
  refine zr (ky := AV.int .i64) (q := .b .int) (fun a b => kD .i64 a b) e1 e2 g2 g4 (fun i v hf => ?_) fun hf => ?_
  ·have := w2 k i v hf
   cases hfk : f k with
   | none => rw [(w1 k).2 hfk] at hf; cases hf
   | some pv => rw [hfk] at this; exact ⟨_, S, F, Ext.refl _ _ _, s, kC this ok true, h1 pv hfk⟩
  ·exact ⟨_, S, F, Ext.refl _ _ _, s, kC (vu h F z zp hz) ok false, h0 ((w1 k).1 hf)⟩⟩
theorem M4 {x key y : XV} {k : List Nat} {p id : Nat} {f : List Nat → Option PV} {v : PV} (hk : K (.bO []) ((p, some id, .jO (fun j => if j = k then some v else f j)) :: S)) (hx : ca G x = some (.qD p id) := by exact rfl) (hS : aI S p = some (some id, .jO f) := by exact rfl) (hkey : ca G key = some (.str k) := by exact rfl) (hy : ca G y = some v := by exact rfl) : PO P X M d (.lj (.b .str) x key y) G S K := ⟨fun c h F env s r => by
 obtain ⟨a, e1, q1⟩ := r.ev hx
 obtain ⟨b, e2, q2⟩ := r.ev hkey
 obtain ⟨u, e3, q3⟩ := r.ev hy
 cases q1; cases q2
 obtain ⟨g1, g2, g3, ab, g4, g5⟩ := s.at_ hS (fun q => by cases q)
 cases g5 with
 | jO _ l ck w1 w2 =>
  refine Jk (ky := AV.str) rD e1 e2 e3 g1 g2 g4 fun l' ck' _ e => ?_
  obtain ⟨u1, u2⟩ := DE w1 w2 q3 e
  obtain ⟨s1, x1⟩ := s.put hS (fun q => by cases q) (RB.jO _ l' ck' u1 u2)
  exact ⟨_, _, F, x1, s1, .bO _ _ .nil, hk⟩⟩
theorem Hm {x key y : XV} {k : Int} {p id : Nat} {f : Int → Option PV} {v : PV} (hk : K (.bO []) ((p, some id, .ix (fun j => if j = k then some v else f j)) :: S)) (hx : ca G x = some (.qD p id) := by exact rfl) (hS : aI S p = some (some id, .ix f) := by exact rfl) (hkey : ca G key = some (.int .i64 k) := by exact rfl) (hy : ca G y = some v := by exact rfl) : PO P X M d (.lj (.b .int) x key y) G S K := ⟨fun c h F env s r => by
 obtain ⟨a, e1, q1⟩ := r.ev hx
 obtain ⟨b, e2, q2⟩ := r.ev hkey
 obtain ⟨u, e3, q3⟩ := r.ev hy
 cases q1; cases q2
 obtain ⟨g1, g2, g3, ab, g4, g5⟩ := s.at_ hS (fun q => by cases q)
 cases g5 with
 | ix _ l ck w1 w2 =>
  refine Jk (ky := AV.int .i64) (q := .b .int) (fun a b => kD .i64 a b) e1 e2 e3 g1 g2 g4 fun l' ck' _ e => ?_
  obtain ⟨u1, u2⟩ := DE w1 w2 q3 e
  obtain ⟨s1, x1⟩ := s.put hS (fun q => by cases q) (RB.ix _ l' ck' u1 u2)
  exact ⟨_, _, F, x1, s1, .bO _ _ .nil, hk⟩⟩
inductive xC (G : aZ) : SO → Prop
 | m : xC G .rQ
 | h (x : XV) (k : IntKind) (n : Int) : ca G x = some (.int k n) → xC G (.yr x)
theorem rE {op : SO} (m : xC G op) {c : C} {h : H} {F : Nat → Prop} {env : bu} (r : RE h F G env) : ∀ K' : AV → H → Prop, K' (.mp h.n) (h.new (.map [] 0)) → WO P X M c op env h K' := fun K' k => by
 cases m with
 | m => exact Jl (Nat.lt_succ_self _) k
 | h x kk n e =>
  obtain ⟨a, e1, q⟩ := r.ev e
  cases q
  exact bq (fun sl hs call k' => by simp only [SO.den, p9, hs.ev e1]; rw [gW (Nat.lt_succ_self _)]) k
theorem M3 {op : SO} {K1 : (Nat → PV) → PB → Prop} (hk : K1 (fun id => .qD d id) (.jO (fun _ => none))) (m : xC G op) : Jb P X M d op G K1 := ⟨fun c h F env r K' k => rE m r K' (k _ _ _ _ (RB.jO (fun _ => none) [] 0 (fun k => ⟨fun _ => rfl, fun _ => rfl⟩) (fun k i v e => by cases e)) (fun h' => .qD _ _) (fun q => by cases q) hk)⟩
theorem CH {op : SO} {K1 : (Nat → PV) → PB → Prop} (hk : K1 (fun id => .qD d id) (.ix (fun _ => none))) (m : xC G op) : Jb P X M d op G K1 := ⟨fun c h F env r K' k => rE m r K' (k _ _ _ _ (RB.ix (fun _ => none) [] 0 (fun k => ⟨fun _ => rfl, fun _ => rfl⟩) (fun k i v e => by cases e)) (fun h' => .qD _ _) (fun q => by cases q) hk)⟩
theorem Ni {op : SO} {K1 : (Nat → PV) → PB → Prop} (hk : K1 (fun id => .qD d id) (.jc (fun _ => none))) (m : xC G op) : Jb P X M d op G K1 := ⟨fun c h F env r K' k => rE m r K' (k _ _ _ _ (RB.jc (fun _ => none) [] 0 ⟨List.nodup_nil, List.nodup_nil, fun p hp => (by cases hp)⟩ (fun k => ⟨fun _ => rfl, fun _ => rfl⟩) (fun k i v e => by cases e)) (fun h' => .qD _ _) (fun q => by cases q) hk)⟩
end
end Go.Proofs.YtgaihilgffficaaGreatDoor.Ev
