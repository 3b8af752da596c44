/- CoverStates, part 34 -/
import Derived.Test.YtgaihilgffficaaGreatDoorCxE
set_option linter.all false
set_option maxHeartbeats 4000000
namespace Go.Proofs.YtgaihilgffficaaGreatDoor.Ev
open Go
open Classical
def wo (m : DM) (o : nW) (bV : Option Nat) : DM := {m with bV := bV, heap := m.heap ++ [o]}
def EV (m : DM) (l : List Int) : DM := {m with fe := l}
def wJ (u : aK) (m : DM) : Nat := bH (u.fns.take (el m.aD (m.aD.length - 1)).fn.toNat) + eP ((el u.fns (el m.aD (m.aD.length - 1)).fn.toNat).code.take (el m.aD (m.aD.length - 1)).at_.toNat)
def PK (u : aK) (m : DM) (x : bJ) (m2 : DM) : Prop := (∃ l v, l.length ≤ m.fe.length ∧ v.kind ≠ 3 ∧ m2 = sr (EV m l) x.dst v) ∨ (x.op = 3 ∧ m2 = sr m x.dst (dt u m x.a)) ∨ (x.op = 6 ∧ ∃ zK bV, m2 = sr (wo m ⟨x.cls, jL u.cl x.cls, zK⟩ bV) x.dst ⟨3, m.heap.length, wJ u m⟩)
theorem MC.Rm {u : aK} {m : DM} {S : aX} (h : MC u m S) (o : nW) (bV : Option Nat) : MC u (wo m o bV) ((1000, some m.i0, .cells (rM u (wo m o bV))) :: (1001, bV, .arr 2 (m.heap.length + 1) fun i => Fb i (el (m.heap ++ [o]) i)) :: (2 * m.heap.length + 1011, o.zK, aL 4 gf o.bd) :: S) := by
 refine ⟨by rw [aw, if_pos rfl]; rfl, ?_, ?_, ?_, fun j hj => ?_, fun j hj => ?_⟩
 ·refine aV om ?_
  rw [aw, if_pos rfl]
  show some (bV, PB.arr 2 _ _) = some (bV, PB.arr 2 (m.heap ++ [o]).length _)
  rw [List.length_append]; rfl
 ·exact aV om (aV om (aV om h.fp))
 ·exact aV om (aV om (aV om h.ob))
 ·exact aV om (aV om (aV om (h.fr j hj)))
 ·replace hj : j < (m.heap ++ [o]).length := hj
  rw [List.length_append, List.length_singleton] at hj
  refine aV om (aV om ?_)
  show _ = some ((el (m.heap ++ [o]) j).zK, aL 4 gf (el (m.heap ++ [o]) j).bd)
  rw [fX, aw]
  by_cases q : j = m.heap.length
  ·subst q; rw [if_pos rfl, if_neg (Nat.lt_irrefl _), Nat.sub_self]; rfl
  ·rw [if_neg (by omega), if_pos (by omega), h.os j (by omega)]
theorem MC.fe {u : aK} {m : DM} {S : aX} (h : MC u m S) (l : List Int) : MC u (EV m l) ((1000, some m.i0, .cells (rM u (EV m l))) :: S) := h.cell rfl ⟨rfl, rfl⟩ ⟨rfl, rfl⟩ ⟨rfl, rfl⟩
theorem nY.aD {u : aK} {m m' : DM} (h : nY u m) (e : m'.aD = m.aD) : nY u m' := ⟨by rw [e]; exact h.ne, by rw [e]; exact h.f0, by rw [e]; exact h.f1, by rw [e]; exact h.vl, by rw [e]; exact h.a0, by rw [e]; exact h.a1, by rw [e]; exact h.cl⟩
theorem Kb {u : aK} {m : DM} {nt : Nat} {x : SC} {G : aZ} {T : aX} {Q : Ex → aZ → aX → Prop} {bV bp : Option Nat} {y : Option Nat × PB} {R : Nat → List PV} {c : List Nat} {l : List lQ} {p : Nat} (h : MC u m T) (hR : R 0 = [.str c, .own 900 bp l.length 4]) (w : PC Tryz.prog X0 Mx nt x G ((900, none, .dead) :: (p, none, .dead) :: (1000, some m.i0, .cells (rM u (wo m ⟨c, l, bp⟩ bV))) :: (1001, bV, .arr 2 (m.heap.length + 1) fun i => Fb i (el (m.heap ++ [⟨c, l, bp⟩]) i)) :: (2 * m.heap.length + 1011, bp, aL 4 gf l) :: T) Q) (hp : p < 1000 := by decide) (hp9 : p ≠ 900 := by decide) : PC Tryz.prog X0 Mx nt x G ((1000, some m.i0, .cells (uB 4 (PV.own 1001 bV (m.heap.length + 1) 2).cells (rM u m))) :: (1001, bV, .arr 2 (m.heap.length + 1) (lL m.heap.length (fun i => Fb i (el m.heap i)) R)) :: (p, y) :: (900, bp, aL 4 gf l) :: T) Q := by
 have hl : (wo m ⟨c, l, bp⟩ bV).heap.length = m.heap.length + 1 := by unfold wo; rw [List.length_append]; rfl
 refine Hs (Mi (a := 900) (b := 2 * m.heap.length + 1011) (fun id d e => ?_) (fun q hq id d e hd => ?_) (fun id d e hd => ?_)) w
 ·rw [aw, if_pos rfl] at e; cases e
 ·rw [aw] at e
  by_cases q9 : 900 = q
  ·rw [if_pos q9] at e; cases e
  rw [if_neg q9, aw] at e
  by_cases qp : p = q
  ·rw [if_pos qp] at e; cases e
  rw [if_neg qp, aw] at e
  rw [aw]
  by_cases q0 : 1000 = q
  ·rw [if_pos q0] at e ⊢; cases e
   refine ⟨_, rfl, .cells _ _ (c5.of_eq ?_)⟩
   unfold rM
   rw [hl]; rfl
  rw [if_neg q0, aw] at e
  rw [if_neg q0, aw]
  by_cases q1 : 1001 = q
  ·rw [if_pos q1] at e ⊢; cases e
   refine ⟨_, rfl, .arr _ _ _ _ _ (Nat.le_refl _) fun i hi => ?_⟩
   unfold lL
   rw [fX]
   by_cases q2 : i < m.heap.length
   ·rw [if_pos q2, if_pos q2]; exact c5.refl _
   ·obtain rfl : i = m.heap.length := by omega
    rw [if_neg q2, if_neg q2, Nat.sub_self, hR]
    exact .cons _ _ _ _ (.refl _) (.cons _ _ _ _ (.M9 _ _ _ _ _) .nil)
  rw [if_neg q1, aw, if_neg (fun w => hq w.symm)] at e
  rw [if_neg q1, aw]
  rw [if_neg qp, aw, if_neg q9]
  exact ⟨d, e, .refl _⟩
 ·rw [aw, if_neg (by omega), aw, if_neg (by omega), aw, if_neg (by omega), aw, if_neg (by omega), aw, if_pos rfl] at e
  cases e
  refine ⟨_, ?_, .refl _⟩
  rw [aw, if_neg (by omega), aw, if_neg (by omega), aw, if_neg hp9, aw, if_pos rfl]
theorem sU {u : aK} {m : DM} {S : aX} {x : bJ} (hm : MS u m S) (ht : nY u m) (ct : u.cl.length ≤ 64) (qW : u.fns.length ≤ 256) (BY : ∀ i, i < u.fns.length → (el u.fns i).code.length ≤ 1024) (hop : x.op = 1 ∨ x.op = 2 ∨ x.op = 3 ∨ x.op = 4 ∨ x.op = 5 ∨ x.op = 6 ∨ x.op = 16) (hd : 0 ≤ x.dst ∧ x.dst < (el m.aD (m.aD.length - 1)).bg.length) (ha : x.op = 3 ∨ x.op = 4 ∨ x.op = 16 → 0 ≤ x.a ∧ x.a < (el m.aD (m.aD.length - 1)).bg.length) (hb : x.op = 4 → 0 ≤ x.b ∧ x.b < (el m.aD (m.aD.length - 1)).bg.length) (hin : m.fe.length ≤ 1000) (hh : m.heap.length ≤ 1000000) (hfl : x.op = 6 → (dh u.cl (aA u.cl x.cls)).length ≤ 10000 ∧ ∀ i, i < (aA u.cl x.cls).length → (dh u.cl ((aA u.cl x.cls).take i)).length + (aY u.cl (el (aA u.cl x.cls) i)).fields.length ≤ 10000) : lP Tryz.prog X0 Mx 96 [.ptr 1000 m.i0 0, .agg (fw x)] S fun v S2 => ∃ m2, MS u m2 S2 ∧ PK u m x m2 := by
 have hnt : (156 : Nat) ≤ 1000000 := by decide
 refine kO (iz sJ (jB _) (by simp) hnt ?_)
 have hn := ht.ne
 have q0 := ht.f0
 have q1 := ht.f1
 have q2 := ht.a0
 have q3 := ht.a1
 have hd' := hd
 have hM := hm.mc.Ay
 have hH := hm.mc.hp
 have hF := hm.mc.fp
 have hO := hm.mc.ob
 rcases hop with ho | ho | ho | ho | ho | ho | ho
 ·repeat' (first | refine Qb ?_ | refine af (vs := rM u m) ?_ rfl Lk rfl | refine aT (rows := fun i => fU i (el m.aD i)) ?_ rfl Lk rfl om | (refine ai ?_; intro hl) | (refine aj ?_; intro b) | (refine Ba ?_ ?_ <;> intro hc <;> try exact Zb) | refine aG ?_ | refine pd ?_ | (refine aq (cg (u := u) (Mk hm.mc) (m.aD.length - 1) hn rfl (fun id eF => ?_)); first | (rw [eF] at hF; have eF0 := eF) | (obtain rfl := Option.some.inj (eF0.symm.trans eF))) | refine dW (aM (eX ?_)) | (refine aq (gV 1 (u := u) (Mk hm.mc) hm.low (fun S0 h0 => cY h0 ht hd) (fun v m' S1 h1 h2 => ?_))) | refine cH ?_ | refine pb ?_)
  exact ⟨Or.inl rfl, trivial, _, rfl, m', (by (repeat (refine c7.cons ?_)); exact h1.low.t), (by (repeat (refine MC.cons ?_ dc)); exact h1.mc), Or.inl ⟨m.fe, _, Nat.le_refl _, (by first | exact (by decide : (1 : Int) ≠ 3) | exact (by decide : (2 : Int) ≠ 3)), h2⟩⟩
 ·repeat' (first | refine Qb ?_ | refine af (vs := rM u m) ?_ rfl Lk rfl | refine aT (rows := fun i => fU i (el m.aD i)) ?_ rfl Lk rfl om | (refine ai ?_; intro hl) | (refine aj ?_; intro b) | (refine Ba ?_ ?_ <;> intro hc <;> try exact Zb) | refine aG ?_ | refine pd ?_ | (refine aq (cg (u := u) (Mk hm.mc) (m.aD.length - 1) hn rfl (fun id eF => ?_)); first | (rw [eF] at hF; have eF0 := eF) | (obtain rfl := Option.some.inj (eF0.symm.trans eF))) | (refine aq (gV 1 (u := u) (m := m) (Mk hm.mc) hm.low (fun S0 h0 => cY (x := ⟨2, 0, 0⟩) h0 ht hd) (fun v m' S1 h1 h2 => ?_))) | refine cH ?_ | refine pb ?_)
  exact ⟨Or.inl rfl, trivial, _, rfl, m', (by (repeat (refine c7.cons ?_)); exact h1.low.t), (by (repeat (refine MC.cons ?_ dc)); exact h1.mc), Or.inl ⟨m.fe, _, Nat.le_refl _, (by first | exact (by decide : (1 : Int) ≠ 3) | exact (by decide : (2 : Int) ≠ 3)), h2⟩⟩
 ·repeat' (first | refine Qb ?_ | refine af (vs := rM u m) ?_ rfl Lk rfl | refine aT (rows := fun i => fU i (el m.aD i)) ?_ rfl Lk rfl om | (refine ai ?_; intro hl) | (refine aj ?_; intro b) | (refine Ba ?_ ?_ <;> intro hc <;> try exact Zb) | refine aG ?_ | refine pd ?_ | (refine aq (cg (u := u) (Mk hm.mc) (m.aD.length - 1) hn rfl (fun id eF => ?_)); first | (rw [eF] at hF; have eF0 := eF) | (obtain rfl := Option.some.inj (eF0.symm.trans eF))) | (refine dW (il (.cons _ _ _ _ (MC.zf (u := u) (Mk hm.mc)) (.cons _ _ _ _ (.refl _) .nil)) (cc ht (ha om) ⟨rfl, ?_⟩))) | (refine aq (gV 1 (u := u) (Mk hm.mc) hm.low (fun S0 h0 => cY h0 ht hd) (fun v m' S1 h1 h2 => ?_))) | refine cH ?_ | refine pb ?_)
  exact ⟨Or.inl rfl, trivial, _, rfl, m', (by (repeat (refine c7.cons ?_)); exact h1.low.t), (by (repeat (refine MC.cons ?_ dc)); exact h1.mc), Or.inr (Or.inl ⟨ho, h2⟩)⟩
 ·repeat' (first | refine Qb ?_ | refine af (vs := rM u m) ?_ rfl Lk rfl | refine aT (rows := fun i => fU i (el m.aD i)) ?_ rfl Lk rfl om | (refine ai ?_; intro hl) | (refine aj ?_; intro b) | (refine Ba ?_ ?_ <;> intro hc <;> try exact Zb) | refine aG ?_ | refine pd ?_ | (refine aq (cg (u := u) (Mk hm.mc) (m.aD.length - 1) hn rfl (fun id eF => ?_)); first | (rw [eF] at hF; have eF0 := eF) | (obtain rfl := Option.some.inj (eF0.symm.trans eF))) | (refine dW (il (.cons _ _ _ _ (MC.zf (u := u) (Mk hm.mc)) (.cons _ _ _ _ (.refl _) .nil)) (cc ht (ha om) ⟨rfl, ?_⟩))) | (refine dW (il (.cons _ _ _ _ (MC.zf (u := u) (Mk hm.mc)) (.cons _ _ _ _ (.refl _) .nil)) (cc ht (hb om) ⟨rfl, ?_⟩))) | (refine aq (ao (Ax (fun n => ?_)))) | (refine aq (ao (Fa (fun n e => ?_)))) | refine dW (aM (eX ?_)) | (refine aq (gV 5 (u := u) (Mk hm.mc) hm.low (fun S0 h0 => cY h0 ht hd) (fun v m' S1 h1 h2 => ?_))) | refine cH ?_ | refine pb ?_)
  all_goals exact ⟨Or.inl rfl, trivial, _, rfl, m', (by (repeat (refine c7.cons ?_)); exact h1.low.t), (by (repeat (refine MC.cons ?_ dc)); exact h1.mc), Or.inl ⟨m.fe, _, Nat.le_refl _, (by decide : (1 : Int) ≠ 3), h2⟩⟩
 ·repeat' (first | refine Qb ?_ | refine af (vs := rM u m) ?_ rfl Lk rfl | refine aT (rows := fun i => fU i (el m.aD i)) ?_ rfl Lk rfl om | (refine yC (c8.top (d := .cells (rM u (EV m (m.fe.drop 1)))) (.cells _ _ (.cons _ _ _ _ (.refl _) (.cons _ _ _ _ (.refl _) (.cons _ _ _ _ (.refl _) (.cons _ _ _ _ (DT (f := pI) (l := m.fe) (k := 1) om) (c5.refl _))))))) ?_) | (refine mL 0 ?_) | (refine iL ?_) | (refine ai ?_; intro hl) | (refine aj ?_; intro b) | (refine Ba ?_ ?_ <;> intro hc <;> try exact Zb) | refine aG ?_ | refine pd ?_ | (refine aq (cg (u := u) (Mk hm.mc) (m.aD.length - 1) hn rfl (fun id eF => ?_)); first | (rw [eF] at hF; have eF0 := eF) | (obtain rfl := Option.some.inj (eF0.symm.trans eF))) | refine dW (aM (eX ?_)) | refine ay (vs := rM u m) ?_ rfl rfl Lk rfl rfl (Nat.le_of_ble_eq_true rfl) | (refine aq (gV 1 (u := u) (Mk hm.mc) hm.low (fun S0 h0 => cY h0 ht hd) (fun v m' S1 h1 h2 => ?_))) | (refine aq (gV 2 (u := u) (m := EV m (m.fe.drop 1)) (MC.fe (Mk hm.mc) _) hm.low (fun S0 h0 => cY h0 (ht.aD rfl) hd) (fun v m' S1 h1 h2 => ?_))) | refine cH ?_ | refine pb ?_)
  all_goals first
   | exact ⟨Or.inl rfl, trivial, _, rfl, m', (by (repeat (refine c7.cons ?_)); exact h1.low.t), (by (repeat (refine MC.cons ?_ dc)); exact h1.mc), Or.inl ⟨m.fe, _, Nat.le_refl _, (by decide : (1 : Int) ≠ 3), h2⟩⟩
   | exact ⟨Or.inl rfl, trivial, _, rfl, m', (by (repeat (refine c7.cons ?_)); exact h1.low.t), (by (repeat (refine MC.cons ?_ dc)); exact h1.mc), Or.inl ⟨m.fe.drop 1, _, (by rw [List.length_drop]; omega), (by decide : (1 : Int) ≠ 3), h2⟩⟩
 ·have hfl' := hfl ho
  have hfN : (el m.aD (m.aD.length - 1)).fn = (((el m.aD (m.aD.length - 1)).fn.toNat : Nat) : Int) := by omega
  have haN : (el m.aD (m.aD.length - 1)).at_ = (((el m.aD (m.aD.length - 1)).at_.toNat : Nat) : Int) := by omega
  repeat' (first | refine Qb ?_ | refine af (vs := rM u m) ?_ rfl Lk rfl | refine aT (rows := fun i => fU i (el m.aD i)) ?_ rfl Lk rfl om | (refine Kb (Mk hm.mc) rfl ?_) | refine bG (us := bQ u) ?_ rfl Lk ⟨by show 3 ≤ 9; decide, rfl⟩ | refine bG (us := bQ u) ?_ rfl rfl ⟨by show 3 ≤ 9; decide, rfl⟩ | (refine ai ?_; intro hl) | (refine aj ?_; intro b) | (refine Ba ?_ ?_ <;> intro hc <;> try exact Zb) | refine aG ?_ | refine pd ?_ | (refine aq (cg (u := u) (Mk hm.mc) (m.aD.length - 1) hn rfl (fun id eF => ?_)); first | (rw [eF] at hF; have eF0 := eF) | (obtain rfl := Option.some.inj (eF0.symm.trans eF))) | (refine SP (T := 900) ((yD ct hfl'.1 hfl'.2).mono ?_); rintro v S1 ⟨bp, e, rfl, rfl, rfl⟩; refine ⟨bp, _, rfl, ?_⟩) | (refine bw ?_; intro bs) | (refine gI (r1 := fun i => Fb i (el m.heap i)) (k := m.heap.length) (m := 1) (p := 1001) ?_ rfl rfl (.own _ _ _ _ _ Lk (Nat.le_refl _)) (.own _ _ _ _ _ rfl (Nat.le_refl _)) (fun i hi => by obtain rfl : i = 0 := om; rfl) (by show (_ + 1) * 40 ≤ _; omega) dc; intro hid2 hhid) | refine ay (vs := rM u m) ?_ rfl rfl Lk rfl rfl (Nat.le_of_ble_eq_true rfl) | refine gH ?_ | (refine dW (aM (CR (f := (el m.aD (m.aD.length - 1)).fn.toNat) (a := (el m.aD (m.aD.length - 1)).at_.toNat) om qW BY om ?_)) rfl rfl rfl (by show [PV.agg (bQ u), .int .i64 _, .int .i64 _] = [_, .int .i64 _, .int .i64 _]; rw [← hfN, ← haN])) | (refine aq (eY (u := u) (m := wo m ⟨x.cls, jL u.cl x.cls, bp⟩ hid2) [] (c5.refl _) (fun q y e => by cases e) (MC.cons (MC.cons (MC.Rm (Mk hm.mc) ⟨x.cls, jL u.cl x.cls, bp⟩ hid2) dc) dc) (by (repeat (refine c7.cons ?_)); exact hm.low.t) (fun S0 h0 => cY (x := ⟨3, ((wo m ⟨x.cls, jL u.cl x.cls, bp⟩ hid2).heap.length : Int) - 1, (wJ u m : Nat)⟩) h0 (ht.aD rfl) hd) (fun v m' S1 h1 h2 => ?_))) | refine cH ?_ | refine pb ?_)
  have e : ((wo m ⟨x.cls, jL u.cl x.cls, bp⟩ hid2).heap.length : Int) - 1 = m.heap.length := by unfold wo; simp
  rw [e] at h2
  exact ⟨Or.inl rfl, trivial, _, rfl, m', (by (repeat (refine c7.cons ?_)); exact h1.low.t), (by (repeat (refine MC.cons ?_ dc)); exact h1.mc), Or.inr (Or.inr ⟨ho, bp, hid2, h2⟩)⟩
 ·repeat' (first | refine Qb ?_ | refine af (vs := rM u m) ?_ rfl Lk rfl | refine aT (rows := fun i => fU i (el m.aD i)) ?_ rfl Lk rfl om | (refine ai ?_; intro hl) | (refine aj ?_; intro b) | (refine Ba ?_ ?_ <;> intro hc <;> try exact Zb) | refine aG ?_ | refine pd ?_ | (refine aq (cg (u := u) (Mk hm.mc) (m.aD.length - 1) hn rfl (fun id eF => ?_)); first | (rw [eF] at hF; have eF0 := eF) | (obtain rfl := Option.some.inj (eF0.symm.trans eF))) | (refine dW (il (.cons _ _ _ _ (MC.zf (u := u) (Mk hm.mc)) (.cons _ _ _ _ (.refl _) .nil)) (cc ht (ha om) ⟨rfl, ?_⟩))) | refine dW (aM (eX ?_)) | (refine aq (gV 1 (u := u) (Mk hm.mc) hm.low (fun S0 h0 => cY h0 ht hd) (fun v m' S1 h1 h2 => ?_))) | (refine uu (fun n => ?_)) | refine cH ?_ | refine pb ?_)
  exact ⟨Or.inl rfl, trivial, _, rfl, m', (by (repeat (refine c7.cons ?_)); exact h1.low.t), (by (repeat (refine MC.cons ?_ dc)); exact h1.mc), Or.inl ⟨m.fe, _, Nat.le_refl _, (by first | exact (by decide : (1 : Int) ≠ 3) | exact (by decide : (2 : Int) ≠ 3)), h2⟩⟩
def dF (u : aK) (m : DM) : bJ := el (el u.fns (el m.aD (m.aD.length - 1)).fn.toNat).code (el m.aD (m.aD.length - 1)).at_.toNat
def Pe (m : DM) (v : Int) : Prop := 0 ≤ v ∧ v < (el m.aD (m.aD.length - 1)).bg.length
def Q3 (m : DM) (v : dC) : Prop := 0 ≤ v.n ∧ v.n < m.heap.length
structure Pp (u : aK) (m : DM) (x : bJ) : Prop where
 t : nY u m
 ct : u.cl.length ≤ 64
 qW : u.fns.length ≤ 256
 BY : ∀ i, i < u.fns.length → (el u.fns i).code.length ≤ 1024
 op : 0 ≤ x.op ∧ x.op < 17
 a : x.op = 11 ∨ x.op = 14 ∨ x.op = 7 ∨ x.op = 8 ∨ x.op = 9 ∨ x.op = 3 ∨ x.op = 4 ∨ x.op = 16 → Pe m x.a
 SU : x.op = 13 → x.a ≠ -1 → Pe m x.a
 b : x.op = 8 ∨ x.op = 4 → Pe m x.b
 d : x.op = 7 ∨ x.op = 15 ∨ x.op = 1 ∨ x.op = 2 ∨ x.op = 3 ∨ x.op = 4 ∨ x.op = 5 ∨ x.op = 6 ∨ x.op = 16 → Pe m x.dst
 l : x.op = 9 ∨ x.op = 10 → x.args.length ≤ 6 ∧ ∀ i, i < x.args.length → Pe m (el x.args i)
 mem : x.op = 7 ∨ x.op = 8 → (dt u m x.a).kind = 3 → Q3 m (dt u m x.a) ∧ dZ (el m.heap (dt u m x.a).n.toNat).bd x.name < (el m.heap (dt u m x.a).n.toNat).bd.length
 obj : x.op = 9 → (dt u m x.a).kind = 3 → Q3 m (dt u m x.a)
 Q4 : x.op = 9 ∨ x.op = 10 → (x.op = 9 → (dt u m x.a).kind = 3) → (0 ≤ cX u m x ∧ cX u m x < u.fns.length) ∧ (el u.fns (cX u m x).toNat).vars.length ≤ 256 ∧ (fH u m x).length ≤ (el u.fns (cX u m x).toNat).vars.length
 p1 : x.op = 13 → 0 < (bz m).aD.length → nY u (bz m)
 p2 : x.op = 13 → 0 < (bz m).aD.length → zC u (bz m) ≠ -1 → 0 ≤ zC u (bz m) ∧ zC u (bz m) < (el (bz m).aD ((bz m).aD.length - 1)).bg.length
 Pt : x.op = 14 ∨ x.op = 15 → ∀ j, 0 < j → j ≤ m.aD.length → nY u (tg m j)
 wI : x.op = 15 → Q3 m (el m.aD (m.aD.length - 1)).wI
 n : 0 ≤ m.n ∧ m.n ≤ 1000000
 fe : m.fe.length ≤ 1000
 hp : m.heap.length ≤ 1000000
 fl : x.op = 6 → (dh u.cl (aA u.cl x.cls)).length ≤ 10000 ∧ ∀ i, i < (aA u.cl x.cls).length → (dh u.cl ((aA u.cl x.cls).take i)).length + (aY u.cl (el (aA u.cl x.cls) i)).fields.length ≤ 10000
def Ps (m : DM) (a : Int) : DM := sw m {el m.aD (m.aD.length - 1) with at_ := a}
def MV (u : aK) (m : DM) (x : bJ) (r : Int) (m2 : DM) : Prop :=
 ((x.op = 0 ∨ x.op = 11) ∧ r = 0 ∧ m2 = Ps m ((el m.aD (m.aD.length - 1)).at_ + 1)) ∨ ((x.op = 11 ∨ x.op = 12) ∧ r = 0 ∧ m2 = Ps m x.goto) ∨
 ((x.op = 7 ∨ x.op = 8) ∧ J7 u m x r m2) ∨ ((x.op = 9 ∨ x.op = 10) ∧ DZ u m x r m2) ∨
 (x.op = 13 ∧ (((bz m).aD.length = 0 ∧ r = 1 ∧ m2 = bz m) ∨ (0 < (bz m).aD.length ∧ r = 0 ∧ m2 = Pg u (bz m) (J0 u m x)))) ∨
 (x.op = 14 ∧ (((dt u m x.a).kind ≠ 3 ∧ r = 3 ∧ m2 = m) ∨ ((dt u m x.a).kind = 3 ∧ JY u m (dt u m x.a) r m2))) ∨
 (x.op = 15 ∧ ((x.cls ∈ aA u.cl (el m.heap (el m.aD (m.aD.length - 1)).wI.n.toNat).cls ∧ r = 0 ∧ m2 = sr m x.dst (el m.aD (m.aD.length - 1)).wI) ∨ JY u m (el m.aD (m.aD.length - 1)).wI r m2)) ∨
 ((x.op = 1 ∨ x.op = 2 ∨ x.op = 3 ∨ x.op = 4 ∨ x.op = 5 ∨ x.op = 6 ∨ x.op = 16) ∧ r = 0 ∧ PK u m x m2)
theorem yE {u : aK} {m : DM} {S : aX} (hm : MS u m S) (ho : Pp u m (dF u m)) : lP Tryz.prog X0 Mx 46 [.ptr 1000 m.i0 0] S fun v S2 => ∃ m2, MS u m2 S2 ∧ ∃ r, v = .int .i64 r ∧ MV u m (dF u m) r m2 := by
 have hnt : (128 : Nat) ≤ 1000000 := by decide
 refine kO (iz yk (jB _) (by simp) hnt ?_)
 have ht := ho.t
 have hn := ht.ne
 have q0 := ht.f0
 have q1 := ht.f1
 have q2 := ht.a0
 have q3 := ht.a1
 have q4 := ht.cl
 have q5 := ho.op
 have q6 := ho.wI
 have hM := hm.mc.Ay
 have hH := hm.mc.hp
 have hF := hm.mc.fp
 have hO := hm.mc.ob
 simp only [dF, Q3] at ho q5 q6 ⊢
 repeat' (first | refine Qb ?_ | refine af (vs := rM u m) ?_ rfl Lk rfl | refine aT (rows := fun i => fU i (el m.aD i)) ?_ rfl Lk rfl om | refine wQ (rows := fun i => fU i (el m.aD i)) (us := dd _) ?_ rfl Lk ⟨by show 5 + 3 ≤ 8; decide, rfl⟩ om | refine bG (us := bh u.cl) ?_ rfl Lk ⟨by show 1 ≤ 9; decide, rfl⟩ | (refine fB ((el m.aD (m.aD.length - 1)).wI.n.toNat) (fun id2 eH => ?_); first | (rw [eH] at hH; have eH0 := eH) | (obtain rfl := Option.some.inj (eH0.symm.trans eH))) | refine aT (rows := fun i => Fb i (el m.heap i)) ?_ rfl Lk rfl om | (refine aj ?_; intro b) | (refine Ba ?_ ?_ <;> intro hc <;> try exact Zb) | refine aG ?_ | refine pd ?_ | (refine aq (cg (u := u) (Mk hm.mc) (m.aD.length - 1) hn rfl (fun id eF => ?_)); first | (rw [eF] at hF; have eF0 := eF) | (obtain rfl := Option.some.inj (eF0.symm.trans eF))) | refine c9 (rows := fun i => fU i (el m.aD i)) ?_ rfl rfl Lk rfl rfl | (refine aq (eY (u := u) (m := m) [] (c5.refl _) (fun q y e => by cases e) (Mk hm.mc) (by (repeat (refine c7.cons ?_)); exact hm.low.t) (fun S0 h0 => uA (x := (el (el u.fns (el m.aD (m.aD.length - 1)).fn.toNat).code (el m.aD (m.aD.length - 1)).at_.toNat)) h0 ho.t (ho.a om) (fun q => ho.d om) (fun q => ho.b om) (fun q => ⟨(ho.mem om q).1.1, (ho.mem om q).1.2, (ho.mem om q).2⟩)) (fun v m' S1 h1 h2 => ?_)); obtain ⟨r, rfl, h2⟩ := h2) | (refine aq (eY (u := u) (m := m) [] (c5.refl _) (fun q y e => by cases e) (Mk hm.mc) (by (repeat (refine c7.cons ?_)); exact hm.low.t) (fun S0 h0 => yB (x := (el (el u.fns (el m.aD (m.aD.length - 1)).fn.toNat).code (el m.aD (m.aD.length - 1)).at_.toNat)) h0 ho.t ho.ct om (fun q => ho.a om) (fun q w => ho.obj q w) (ho.l om).2 (ho.l om).1 ho.n (ho.Q4 om)) (fun v m' S1 h1 h2 => ?_)); obtain ⟨r, rfl, h2⟩ := h2) | (refine aq (eY (u := u) (m := m) [] (c5.refl _) (fun q y e => by cases e) (Mk hm.mc) (by (repeat (refine c7.cons ?_)); exact hm.low.t) (fun S0 h0 => wm (x := (el (el u.fns (el m.aD (m.aD.length - 1)).fn.toNat).code (el m.aD (m.aD.length - 1)).at_.toNat)) h0 ho.t (ho.SU hc) (ho.p1 hc) (ho.p2 hc)) (fun v m' S1 h1 h2 => ?_)); obtain ⟨r, rfl, h2⟩ := h2) | (refine aq (ij (.cons _ _ _ _ (MC.zf (u := u) (Mk hm.mc)) (.cons _ _ _ _ (.refl _) .nil)) (cc ht (ho.a om) ⟨rfl, ?_⟩))) | (refine aq (eY (u := u) (m := m) [] (c5.refl _) (fun q y e => by cases e) (Mk hm.mc) (by (repeat (refine c7.cons ?_)); exact hm.low.t) (fun S0 h0 => nM (e := dt u m _) h0 (ho.Pt om)) (fun v m' S1 h1 h2 => ?_)); obtain ⟨r, rfl, h2⟩ := h2) | (refine aq (eY (u := u) (m := m) [] (c5.refl _) (fun q y e => by cases e) (Mk hm.mc) (by (repeat (refine c7.cons ?_)); exact hm.low.t) (fun S0 h0 => nM (e := (el m.aD (m.aD.length - 1)).wI) h0 (ho.Pt om)) (fun v m' S1 h1 h2 => ?_)); obtain ⟨r, rfl, h2⟩ := h2) | (refine aq (eY (u := u) (m := m) [] (c5.refl _) (fun q y e => by cases e) (Mk hm.mc) (by (repeat (refine c7.cons ?_)); exact hm.low.t) (fun S0 h0 => cY (x := (el m.aD (m.aD.length - 1)).wI) h0 ht (ho.d om)) (fun v m' S1 h1 h2 => ?_))) | (refine aq (eY (u := u) (m := m) [] (c5.refl _) (fun q y e => by cases e) (Mk hm.mc) (by (repeat (refine c7.cons ?_)); exact hm.low.t) (fun S0 h0 => sU (x := (el (el u.fns (el m.aD (m.aD.length - 1)).fn.toNat).code (el m.aD (m.aD.length - 1)).at_.toNat)) h0 ho.t ho.ct ho.qW ho.BY om (ho.d om) (fun q => ho.a om) (fun q => ho.b om) ho.fe ho.hp ho.fl) (fun v m' S1 h1 h2 => ?_))) | (refine dW (aM (lV ho.ct (fun hc => ?_) fun hc => ?_))) | refine cH ?_ | refine pb ?_)
 all_goals first
  | exact ⟨Or.inr rfl, ⟨trivial, trivial⟩, _, rfl, Ps m ((el m.aD (m.aD.length - 1)).at_ + 1), (by (repeat (refine c7.cons ?_)); exact hm.low.t), (by rw [← eF0]; exact MC.row (m := m) (k := m.aD.length - 1) (Mk hm.mc) om _ rfl rfl), 0, rfl, Or.inl ⟨om, rfl, rfl⟩⟩
  | exact ⟨Or.inr rfl, ⟨trivial, trivial⟩, _, rfl, Ps m (el (el u.fns (el m.aD (m.aD.length - 1)).fn.toNat).code (el m.aD (m.aD.length - 1)).at_.toNat).goto, (by (repeat (refine c7.cons ?_)); exact hm.low.t), (by rw [← eF0]; exact MC.row (m := m) (k := m.aD.length - 1) (Mk hm.mc) om _ rfl rfl), 0, rfl, Or.inr (Or.inl ⟨om, rfl, rfl⟩)⟩
  | exact ⟨Or.inr rfl, ⟨trivial, trivial⟩, _, rfl, m', (by (repeat (refine c7.cons ?_)); exact h1.low.t), h1.mc, r, rfl, Or.inr (Or.inr (Or.inl ⟨om, h2⟩))⟩
  | exact ⟨Or.inr rfl, ⟨trivial, trivial⟩, _, rfl, m', (by (repeat (refine c7.cons ?_)); exact h1.low.t), h1.mc, r, rfl, Or.inr (Or.inr (Or.inr (Or.inl ⟨om, h2⟩)))⟩
  | exact ⟨Or.inr rfl, ⟨trivial, trivial⟩, _, rfl, m', (by (repeat (refine c7.cons ?_)); exact h1.low.t), h1.mc, r, rfl, Or.inr (Or.inr (Or.inr (Or.inr (Or.inl ⟨om, h2⟩))))⟩
  | exact ⟨Or.inr rfl, ⟨trivial, trivial⟩, _, rfl, m, (by (repeat (refine c7.cons ?_)); exact hm.low.t), (Mk hm.mc), 3, rfl, Or.inr (Or.inr (Or.inr (Or.inr (Or.inr (Or.inl ⟨om, Or.inl ⟨am, rfl, rfl⟩⟩)))))⟩
  | exact ⟨Or.inr rfl, ⟨trivial, trivial⟩, _, rfl, m', (by (repeat (refine c7.cons ?_)); exact h1.low.t), h1.mc, r, rfl, Or.inr (Or.inr (Or.inr (Or.inr (Or.inr (Or.inl ⟨om, Or.inr ⟨am, h2⟩⟩)))))⟩
  | exact ⟨Or.inr rfl, ⟨trivial, trivial⟩, _, rfl, m', (by (repeat (refine c7.cons ?_)); exact h1.low.t), h1.mc, 0, rfl, Or.inr (Or.inr (Or.inr (Or.inr (Or.inr (Or.inr (Or.inl ⟨om, Or.inl ⟨am, rfl, h2⟩⟩))))))⟩
  | exact ⟨Or.inr rfl, ⟨trivial, trivial⟩, _, rfl, m', (by (repeat (refine c7.cons ?_)); exact h1.low.t), h1.mc, r, rfl, Or.inr (Or.inr (Or.inr (Or.inr (Or.inr (Or.inr (Or.inl ⟨om, Or.inr h2⟩))))))⟩
  | exact ⟨Or.inr rfl, ⟨trivial, trivial⟩, _, rfl, m', (by (repeat (refine c7.cons ?_)); exact h1.low.t), h1.mc, 0, rfl, Or.inr (Or.inr (Or.inr (Or.inr (Or.inr (Or.inr (Or.inr ⟨om, rfl, h2⟩))))))⟩
theorem tC {cl : List aU} : ∀ (n : Nat) (a b : List (List Nat)) (s : List Nat), (bA cl n (a ++ b) s).2 = false → (bA cl n (a ++ b) s).1 = a ++ (bA cl n b s).1 ∧ (bA cl n b s).2 = false
 | 0, a, b, s, _ => ⟨rfl, rfl⟩
 | n + 1, a, b, s, h => by
  rw [bA] at h ⊢
  rw [bA]
  by_cases h1 : bl (bK cl) s < 0
  ·rw [if_pos h1, if_pos h1]; exact ⟨rfl, rfl⟩
  rw [if_neg h1] at h ⊢
  rw [if_neg h1]
  by_cases h2 : s ∈ a ++ b
  ·rw [if_pos h2] at h; cases h
  rw [if_neg h2] at h ⊢
  rw [if_neg fun q => h2 (List.mem_append_right _ q)]
  by_cases h3 : dm cl s = []
  ·rw [if_pos h3, if_pos h3]; exact ⟨by simp, rfl⟩
  rw [if_neg h3] at h ⊢
  rw [if_neg h3]
  rw [List.append_assoc] at h ⊢
  exact tC n a (b ++ [s]) _ h
theorem rJ {cl : List aU} : ∀ (n : Nat) (a : List (List Nat)) (s : List Nat), lx (bK cl) a < n → bA cl (n + 1) a s = bA cl n a s
 | 0, a, s, h => absurd h (Nat.not_lt_zero _)
 | n + 1, a, s, h => by
  rw [bA]
  conv => rhs; rw [bA]
  by_cases h1 : bl (bK cl) s < 0
  ·rw [if_pos h1, if_pos h1]
  rw [if_neg h1, if_neg h1]
  by_cases h2 : s ∈ a
  ·rw [if_pos h2, if_pos h2]
  rw [if_neg h2, if_neg h2]
  by_cases h3 : dm cl s = []
  ·rw [if_pos h3, if_pos h3]
  rw [if_neg h3, if_neg h3]
  have h4 : 0 ≤ bl (bK cl) s := by omega
  have := kH (aW.1 h4) h2
  exact rJ n (a ++ [s]) _ om
theorem oX {cl : List aU} {c : List Nat} (hc : c ∈ bK cl) (hy : (b7 cl c).2 = false) : aA cl c = c :: (if dm cl c = [] then [] else aA cl (dm cl c)) := by
 have h0 := aW.2 hc
 unfold aA b7 at *
 rw [bA, if_neg (by omega), if_neg (by simp)] at hy ⊢
 by_cases h3 : dm cl c = []
 ·rw [if_pos h3, if_pos h3]; rfl
 rw [if_neg h3] at hy ⊢
 rw [if_neg h3]
 have h5 := oY (ns := bK cl) (out := [])
 have h4 := kH (ns := bK cl) (out := []) hc (by simp)
 rw [bL] at h5
 have e := rJ (cl := cl) cl.length ([] ++ [c]) (dm cl c) om
 rw [← e] at hy ⊢
 have h6 := tC (cl.length + 1) [c] [] (dm cl c) (by rw [List.append_nil]; exact hy)
 rw [List.append_nil] at h6
 exact h6.1
structure HV (cl : List aU) : Prop where
 ok : Rd cl
 Q1 : ∀ c ∈ bK cl, (b7 cl c).2 = false
 up : ∀ c ∈ bK cl, dm cl c ≠ [] → dm cl c ∈ bK cl
 SK : ∀ c ∈ bK cl, ∀ f ∈ (aY cl c).fields, sq cl f.ly ∧ (dm cl c ≠ [] → cK cl (dm cl c) f.name = none)
 gz : ∀ c ∈ bK cl, ∀ i j, j < i → i < (aY cl c).fields.length → (el (aY cl c).fields i).name ≠ (el (aY cl c).fields j).name
 SL : ∀ c ∈ bK cl, ∀ s ∈ (aY cl c).methods, Pn cl s ∧ ¬ zG cl c s
 f16 : ∀ c ∈ bK cl, (aY cl c).fields.length ≤ 16
theorem GN {c : Prop} [Decidable c] {a b : Int} (hb : b ≠ 0) (h : (if c then a else b) = 0) : c ∧ a = 0 := by
 by_cases q : c
 ·rw [if_pos q] at h; exact ⟨q, h⟩
 ·rw [if_neg q] at h; exact absurd h hb
theorem hv {cl : List aU} (h : fV cl = 0) : HV cl := by
 have h2 := (fW h).2
 have nm : ∀ c ∈ bK cl, ∃ i, i < cl.length ∧ (el cl i).name = c ∧ aY cl c = el cl i := fun c hc => by
  obtain ⟨i, hi, rfl⟩ := dn hc
  rw [bL] at hi
  have h3 := (iu (h2 i hi)).2.1
  rw [qE hi]
  refine ⟨i, hi, rfl, ?_⟩
  unfold aY
  rw [h3]; rfl
 have cls : ∀ i, i < cl.length → ((el cl i).cB ≠ [] → (el cl i).cB ∈ bK cl) ∧ (el cl i).fields.length ≤ 16 ∧ (∀ j, j < (el cl i).fields.length → gX cl i j = 0) ∧ ∀ j, j < (el cl i).methods.length → fR cl i j = 0 := fun i hi => by
  have h := h2 i hi
  unfold lz at h
  obtain ⟨h1, h⟩ := bF dc h
  obtain ⟨h2, h⟩ := bF dc h
  obtain ⟨h3, h⟩ := bF dc h
  obtain ⟨h4, h⟩ := bF dc h
  obtain ⟨h5, h⟩ := bF dc h
  obtain ⟨h6, h⟩ := tD h
  exact ⟨fun q => Classical.byContradiction fun w => h3 ⟨q, w⟩, om, dY h6, dY h⟩
 refine ⟨jt h, fun c hc => ?_, fun c hc q => ?_, fun c hc f hf => ?_, fun c hc a b hba ha e => ?_, fun c hc s hs => ?_, fun c hc => ?_⟩
 ·obtain ⟨i, hi, rfl, _⟩ := nm c hc
  exact (iu (h2 i hi)).2.2.1
 ·obtain ⟨i, hi, _, e⟩ := nm c hc
  have : dm cl c = (el cl i).cB := by show (aY cl c).cB = _; rw [e]
  rw [this] at q ⊢
  exact (cls i hi).1 q
 ·obtain ⟨i, hi, _, e⟩ := nm c hc
  have hs : dm cl c = (el cl i).cB := by show (aY cl c).cB = _; rw [e]
  rw [e] at hf
  obtain ⟨j, hj, rfl⟩ := dn hf
  have h := (cls i hi).2.2.1 j hj
  unfold gX at h
  obtain ⟨h1, h⟩ := bF dc h
  obtain ⟨h3, h⟩ := bF dc h
  obtain ⟨h4, h⟩ := bF dc h
  obtain ⟨h5, h⟩ := bF dc h
  refine ⟨not_not.1 h3, fun q => ?_⟩
  rw [hs] at q ⊢
  cases hr : cK cl (el cl i).cB (el (el cl i).fields j).name with
  | none => rfl
  | some r => exact absurd ⟨⟨r, hr⟩, q⟩ h5
 ·obtain ⟨i, hi, _, e2⟩ := nm c hc
  rw [e2] at ha e
  have h := (cls i hi).2.2.1 a ha
  unfold gX at h
  obtain ⟨h1, h⟩ := bF dc h
  obtain ⟨h3, h⟩ := bF dc h
  obtain ⟨h4, h⟩ := bF dc h
  exact h4 ⟨b, hba, e.symm⟩
 ·obtain ⟨i, hi, e1, e⟩ := nm c hc
  rw [e] at hs
  obtain ⟨j, hj, rfl⟩ := dn hs
  have h := (cls i hi).2.2.2 j hj
  unfold fR at h
  obtain ⟨h1, h⟩ := bF dc h
  obtain ⟨h3, h⟩ := bF dc h
  obtain ⟨h4, h⟩ := bF dc h
  obtain ⟨h5, h⟩ := tD h
  obtain ⟨h6, h⟩ := bF dc h
  rw [e1] at h6
  refine ⟨?_, h6⟩
  unfold mZ at h5
  exact (GN dc h5).1
 ·obtain ⟨i, hi, _, e⟩ := nm c hc
  rw [e]; exact (cls i hi).2.1
section
variable {cl : List aU}
theorem GO (v : HV cl) {c : List Nat} (hc : c ∈ bK cl) : c ∈ aA cl c := by rw [oX hc (v.Q1 c hc)]; simp
theorem oZ (v : HV cl) {t : List Nat} : ∀ (n : Nat) (c : List Nat), (aA cl c).length ≤ n → c ∈ bK cl → t ∈ aA cl c → ∃ p, aA cl c = p ++ aA cl t ∧ (∀ e ∈ p, e ∈ bK cl ∧ dm cl e ≠ [] ∧ ∃ q, aA cl (dm cl e) = q ++ aA cl t)
 | 0, c, hn, hc, ht => by
  have := oX hc (v.Q1 c hc)
  rw [this] at hn; simp at hn
 | n + 1, c, hn, hc, ht => by
  have e := oX hc (v.Q1 c hc)
  by_cases hct : t = c
  ·subst hct; exact ⟨[], rfl, fun e he => by cases he⟩
  rw [e] at ht
  by_cases h3 : dm cl c = []
  ·rw [if_pos h3] at ht; simp at ht; exact absurd ht hct
  rw [if_neg h3] at e ht
  have ht2 : t ∈ aA cl (dm cl c) := by
   rcases List.mem_cons.1 ht with q | q
   ·exact absurd q hct
   ·exact q
  obtain ⟨p, h1, h2⟩ := oZ v n (dm cl c) (by rw [e, List.length_cons] at hn; omega) (v.up c hc h3) ht2
  refine ⟨c :: p, by rw [e, h1]; rfl, fun d hd => ?_⟩
  rcases List.mem_cons.1 hd with rfl | q
  ·exact ⟨hc, h3, p, h1⟩
  ·exact h2 d q
theorem EP (v : HV cl) {a b c : List Nat} (ha : a ∈ bK cl) (h1 : b ∈ aA cl a) (h2 : c ∈ aA cl b) : c ∈ aA cl a := by
 obtain ⟨p, e, _⟩ := oZ v _ a (Nat.le_refl _) ha h1
 rw [e]; exact List.mem_append_right _ h2
theorem MN (v : HV cl) {α β : Type} {g : α → Option β} {p l : List α} (h : ∀ x ∈ p, g x = none) : (p ++ l).findSome? g = l.findSome? g := by
 rw [List.findSome?_append, List.findSome?_eq_none_iff.2 h]; rfl
theorem MO (v : HV cl) {a t nm : List Nat} {r : List Nat × ju} (ha : a ∈ bK cl) (ht : t ∈ aA cl a) (h : cK cl t nm = some r) : cK cl a nm = some r := by
 obtain ⟨p, e, hp⟩ := oZ v _ a (Nat.le_refl _) ha ht
 unfold cK at h ⊢
 rw [e, MN v fun d hd => ?_]
 ·exact h
 ·obtain ⟨h1, h2, q, h3⟩ := hp d hd
  cases hf : j5 (aY cl d) nm with
  | none => rfl
  | some f =>
   exfalso
   obtain ⟨f', hm, e2⟩ := List.exists_of_findSome?_eq_some hf
   by_cases w : f'.name = nm
   ·have h4 := (v.SK d h1 f' hm).2 h2
    unfold cK at h4
    rw [h3, w, List.findSome?_append, h] at h4
    cases hz : q.findSome? (fun c => (j5 (aY cl c) nm).map fun f => (c, f)) <;> rw [hz] at h4 <;> cases h4
   ·rw [if_neg w] at e2; cases e2
theorem MP (v : HV cl) {a t nm d : List Nat} {s : cz} (ha : a ∈ bK cl) (ht : t ∈ aA cl a) (h : cb cl t nm = some (d, s)) (hs : s.static = false) : ∃ d' s', cb cl a nm = some (d', s') ∧ s'.static = false ∧ j6 s s' ∧ d' ∈ aA cl a := by
 obtain ⟨p, e, hp⟩ := oZ v _ a (Nat.le_refl _) ha ht
 obtain ⟨hd, j, hj, hjs, hnm⟩ := DQ h
 unfold cb at h ⊢
 rw [e, List.findSome?_append]
 cases hz : p.findSome? (fun c => (gB (aY cl c) nm).map fun f => (c, f)) with
 | none =>
  refine ⟨d, s, by rw [h]; rfl, hs, ⟨rfl, rfl⟩, ?_⟩
  exact List.mem_append_right _ hd
 | some r =>
  obtain ⟨c, hc, e2⟩ := List.exists_of_findSome?_eq_some hz
  cases hq : gB (aY cl c) nm with
  | none => rw [hq] at e2; cases e2
  | some z =>
   rw [hq] at e2; cases e2
   obtain ⟨y, hy, e3⟩ := List.exists_of_findSome?_eq_some hq
   by_cases w' : ¬ y.name = nm
   ·rw [if_neg w'] at e3; cases e3
   have w := not_not.1 w'
   rw [if_pos w] at e3; cases e3
   obtain ⟨h1, h2, q, h3⟩ := hp c hc
   have h4 := (v.SL c h1 z hy).2
   have h5 : d ∈ (aA cl c).drop 1 := by
    rw [oX h1 (v.Q1 c h1), if_neg h2, h3]
    exact List.mem_append_right _ hd
   have h6 : ¬ (s.static = true ∨ z.static = true ∨ ¬ j6 s z) := fun x => h4 ⟨d, h5, s, hjs ▸ b8 hj, by rw [hnm, w], x⟩
   refine ⟨c, z, rfl, ?_, Classical.byContradiction fun x => h6 (Or.inr (Or.inr x)), List.mem_append_left _ hc⟩
   cases hzs : z.static with
   | false => rfl
   | true => exact absurd (Or.inr (Or.inl hzs)) h6
end
theorem xL {cl : List aU} {f : dN} {i : Nat} (h : o0 cl f i = 0) : (0 ≤ (el f.code i).op ∧ (el f.code i).op < 17) ∧ jv f (el f.code i) ∧ ¬ rK f i ∧ iQ cl f (el f.code i) = 0 := by
 unfold o0 at h
 obtain ⟨h1, h⟩ := bF dc h
 obtain ⟨h2, h⟩ := bF dc h
 obtain ⟨h3, h⟩ := bF dc h
 obtain ⟨h4, h⟩ := bF dc h
 exact ⟨Classical.byContradiction fun q => h1 (Or.inl q), not_not.1 h3, h4, h⟩
structure MQ (u : aK) (f : dN) (c : List Nat) (s : cz) : Prop where
 fits : nJ f c s
 MR : f.vars.length ≤ 256
 Q2 : f.code.length ≤ 1024
 ne : 0 < f.code.length
 ins : ∀ i, i < f.code.length → o0 u.cl f i = 0
structure wG (u : aK) : Prop where
 hv : HV u.cl
 f256 : u.fns.length ≤ 256
 al : (allM u.cl).length = u.fns.length
 m0 : 0 ≤ u.main
 m1 : u.main < u.fns.length
 mn : DR (el u.fns u.main.toNat)
 fn : ∀ i, i < u.fns.length → MQ u (el u.fns i) (el (allM u.cl) i).1 (el (allM u.cl) i).2
 sig : ∀ c s, (c, s) ∈ allM u.cl → c ∈ bK u.cl ∧ gB (aY u.cl c) s.name = some s
theorem Re {u : aK} (h : xM u = 0) : wG u := by
 unfold xM at h
 obtain ⟨h1, h⟩ := tD h
 obtain ⟨h2, h⟩ := tD h
 obtain ⟨w1, w2, w3, w4, w5, w6⟩ := tE h1
 have v := Ev.hv w1
 refine ⟨v, w2, w3, w4, w5, w6, fun i hi => ?_, fun c s hm => ?_⟩
 ·obtain ⟨a1, a2, a3, _, a5, a6⟩ := GP (dY h2 i hi)
  exact ⟨a1, a2, a3, om, a6⟩
 ·unfold allM at hm
  obtain ⟨d, hd, hm⟩ := List.mem_flatMap.1 hm
  obtain ⟨t, ht, e⟩ := List.mem_map.1 hm
  cases e
  obtain ⟨i, hi, rfl⟩ := dn hd
  have k1 := iu ((fW w1).2 i hi)
  have hc : aY u.cl (el u.cl i).name = el u.cl i := by unfold aY; rw [k1.2.1]; rfl
  refine ⟨by rw [← qE hi]; exact b8 (by rw [bL]; exact hi), ?_⟩
  rw [hc]
  obtain ⟨j, hj, rfl⟩ := dn ht
  refine gY hj (if_pos rfl) fun k hk => if_neg fun q => ?_
  have h := k1.2.2.2.2 j hj
  unfold fR at h
  obtain ⟨_, h⟩ := bF dc h
  obtain ⟨h3, _⟩ := bF dc h
  exact h3 ⟨k, hk, q⟩
structure o4 (u : aK) (H : List nW) (x : dC) : Prop where
 n0 : 0 ≤ x.n
 n1 : x.n < H.length
 s0 : 0 ≤ x.site
 s1 : x.site < bH u.fns
def JU (H : List nW) (x : dC) : List Nat := (el H x.n.toNat).cls
def tF (u : aK) (H : List nW) (x : dC) (t : List Nat) : Prop := x.kind = 3 → o4 u H x ∧ t ∈ aA u.cl (JU H x)
theorem GQ {cl : List aU} {a t : List Nat} (h : t ∈ aA cl a) : a ∈ bK cl := by
 by_cases q : bl (bK cl) a < 0
 ·unfold aA b7 at h
  rw [bA, if_pos q] at h; cases h
 ·exact aW.1 om
theorem jA {u : aK} (v : HV u.cl) {H : List nW} {x : dC} {s t : List Nat} (h : tF u H x s) (hf : iD u.cl s t) : tF u H x t := fun hk => by
 obtain ⟨h1, h2⟩ := h hk
 refine ⟨h1, ?_⟩
 rcases hf with rfl | ⟨rfl, _⟩ | ⟨_, _, _, q⟩
 ·exact h2
 ·exact absurd (cq h2) v.ok.hn
 ·exact EP v (GQ h2) h2 q
theorem qF {u : aK} {H : List nW} {x : dC} {t : List Nat} (h : x.kind ≠ 3) : tF u H x t := fun q => absurd q h
theorem zH {t : List Nat} : (ES t).kind ≠ 3 := by
 unfold ES
 by_cases q : t = gZ
 ·rw [if_pos q]; decide
 ·rw [if_neg q]; decide
def zB (H H' : List nW) : Prop := H.length ≤ H'.length ∧ ∀ i, i < H.length → (el H' i).cls = (el H i).cls
theorem o4.le {u : aK} {H H' : List nW} {x : dC} (h : o4 u H x) (l : zB H H') : o4 u H' x := ⟨h.n0, by have := h.n1; have := l.1; omega, h.s0, h.s1⟩
theorem tF.le {u : aK} {H H' : List nW} {x : dC} {t : List Nat} (h : tF u H x t) (l : zB H H') : tF u H' x t := fun hk => by
 obtain ⟨h1, h2⟩ := h hk
 refine ⟨h1.le l, ?_⟩
 unfold JU at h2 ⊢
 have := h1.n0
 have := h1.n1
 rw [l.2 _ (by omega)]; exact h2
structure B1 (u : aK) (H : List nW) (o : nW) : Prop where
 c : o.cls ∈ bK u.cl
 len : o.bd.length = (dh u.cl (aA u.cl o.cls)).length
 nm : ∀ i, i < o.bd.length → (el o.bd i).name = (el (dh u.cl (aA u.cl o.cls)) i).name
 v : ∀ i, i < o.bd.length → tF u H (el o.bd i).v (el (dh u.cl (aA u.cl o.cls)) i).ly
theorem wH {cl : List aU} {nm : List Nat} : ∀ (l : List (List Nat)), (dh cl l).findSome? (fun f => if f.name = nm then some f else none) = (l.findSome? fun c => (j5 (aY cl c) nm).map fun f => (c, f)).map Prod.snd
 | [] => rfl
 | c :: l => by
  show ((aY cl c).fields ++ dh cl l).findSome? _ = _
  rw [List.findSome?_append, wH l, List.findSome?_cons]
  unfold j5
  cases (aY cl c).fields.findSome? fun f => if f.name = nm then some f else none <;> rfl
theorem JV {u : aK} (v : HV u.cl) {H : List nW} {o : nW} (h : B1 u H o) {t nm d : List Nat} {f : ju} (ht : t ∈ aA u.cl o.cls) (hf : cK u.cl t nm = some (d, f)) : dZ o.bd nm < o.bd.length ∧ (el (dh u.cl (aA u.cl o.cls)) (dZ o.bd nm)).ly = f.ly := by
 have h1 := MO v h.c ht hf
 have h2 := wH (cl := u.cl) (nm := nm) (aA u.cl o.cls)
 rw [show (aA u.cl o.cls).findSome? (fun c => (j5 (aY u.cl c) nm).map fun f => (c, f)) = cK u.cl o.cls nm from rfl, h1] at h2
 have hl := h.len
 unfold dZ
 rcases ed (fun x : lQ => x.name = nm) o.bd with ⟨_, q⟩ | ⟨j, e, hj, q, q2⟩
 ·rw [iB fun i hi => if_neg fun w => q i (by omega) (by rw [h.nm i (by omega)]; exact w)] at h2
  cases h2
 ·rw [e]
  refine ⟨hj, ?_⟩
  have h3 := h.nm j hj
  have h4 := gY (g := fun f : ju => if f.name = nm then some f else none) (l := dh u.cl (aA u.cl o.cls)) (y := el (dh u.cl (aA u.cl o.cls)) j) om (if_pos (by rw [← h3]; exact q)) fun i hi => if_neg fun w => q2 i hi (by rw [h.nm i (by omega)]; exact w)
  rw [h4] at h2
  cases h2
  rfl
theorem JW {u : aK} (v : HV u.cl) (c : List Nat) : (dh u.cl (aA u.cl c)).length ≤ 1040 := by
 have h1 := xN v.f16 (aA u.cl c) fun d hd => cq hd
 have h2 := gF (s := c) v.ok.ct
 omega
theorem GR {u : aK} (uo : wG u) {c nm : List Nat} {s : cz} (hc : c ∈ bK u.cl) (hs : gB (aY u.cl c) nm = some s) : 0 ≤ qG u.fns c nm ∧ qG u.fns c nm < u.fns.length ∧ MQ u (el u.fns (qG u.fns c nm).toNat) c s ∧ s.name = nm := by
 obtain ⟨y, hy, e⟩ := List.exists_of_findSome?_eq_some hs
 by_cases w' : ¬ y.name = nm
 ·rw [if_neg w'] at e; cases e
 have w := not_not.1 w'
 rw [if_pos w] at e; cases e
 have hm : (c, s) ∈ allM u.cl := by
  obtain ⟨h1, h2⟩ := j7 (aW.2 hc)
  rw [bL] at h1
  unfold allM
  refine List.mem_flatMap.2 ⟨aY u.cl c, b8 h1, List.mem_map.2 ⟨s, hy, ?_⟩⟩
  rw [show (aY u.cl c).name = c from (qE h1).symm.trans h2]
 obtain ⟨i, hi, e2⟩ := dn hm
 rw [uo.al] at hi
 have k := uo.fn i hi
 rw [e2] at k
 unfold qG
 rcases ed (fun f : dN => f.cls = c ∧ f.name = nm) u.fns with ⟨_, q⟩ | ⟨j, e, hj, q, _⟩
 ·exact absurd ⟨k.fits.1, k.fits.2.1.trans w⟩ (q i hi)
 ·rw [e]
  have kj := uo.fn j hj
  have hmj : ((el (allM u.cl) j).1, (el (allM u.cl) j).2) ∈ allM u.cl := b8 (by rw [uo.al]; exact hj)
  have s1 := (uo.sig _ _ hmj).2
  have e3 : (el (allM u.cl) j).1 = c := kj.fits.1.symm.trans q.1
  have e4 : (el (allM u.cl) j).2.name = nm := kj.fits.2.1.symm.trans q.2
  rw [e3, e4, hs] at s1
  cases s1
  rw [e3] at kj
  exact ⟨om, om, kj, w⟩
end Go.Proofs.YtgaihilgffficaaGreatDoor.Ev
