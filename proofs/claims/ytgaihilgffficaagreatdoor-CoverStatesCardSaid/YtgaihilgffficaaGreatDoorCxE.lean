/- CoverStates, part 33 -/
import Derived.Test.YtgaihilgffficaaGreatDoorCwO
set_option linter.all false
set_option maxHeartbeats 4000000
namespace Go.Proofs.YtgaihilgffficaaGreatDoor.Ev
open Go
open Classical
theorem c8.hd {S S' : aX} (hl : ig S) (h : ∀ p, ¬ p < 1000 → aI S' p = aI S p := by intro p hp; repeat (first | exact aV om rfl | rfl | refine aV om ?_)) : c8 S' S := fun p id d e _ => by
 have hp : ¬ p < 1000 := fun q => by rw [hl p q] at e; cases e
 exact ⟨d, by rw [h p hp]; exact e, .refl _⟩
theorem c8.nil {S : aX} : c8 S [] := fun q id d e _ => by cases e
theorem c8.SA {S S' : aX} {p : Nat} {d : PB} (t : c8 S S') : c8 S ((p, none, d) :: S') := fun q id d' e hd => by
 rw [aw] at e
 by_cases hq : p = q
 ·rw [if_pos hq] at e; cases e
 ·rw [if_neg hq] at e; exact t q id d' e hd
noncomputable def cX (u : aK) (m : DM) (x : bJ) : Int := if x.op = 9 then ET u (el m.heap (dt u m x.a).n.toNat).cls x.name else qG u.fns x.cls x.name
theorem AA {α β : Type} [Inhabited α] {l : List α} {f : α → β} {j : Nat} (h : j < l.length) : (l.take j).map f ++ [f (el l j)] = (l.take (j + 1)).map f := by
 rw [List.take_succ_eq_append_getElem h, List.map_append]
 simp [el, h]
def fH (u : aK) (m : DM) (x : bJ) : List dC := (if x.op = 9 then [dt u m x.a] else []) ++ x.args.map (dt u m)
def DZ (u : aK) (m : DM) (x : bJ) (r : Int) (m2 : DM) : Prop := (m2 = m ∧ (r = 3 ∨ r = 5)) ∨ (r = 0 ∧ (x.op = 9 → (dt u m x.a).kind = 3) ∧ m.aD.length < 64 ∧ ∃ lS iK, m2 = pH m (sx m (cX u m x) (fH u m x) (el u.fns (cX u m x).toNat).vars.length lS) iK)
theorem yB {u : aK} {m : DM} {S : aX} {x : bJ} (hm : MS u m S) (ht : nY u m) (ct : u.cl.length ≤ 64) (hop : x.op = 9 ∨ x.op = 10) (ha : x.op = 9 → 0 ≤ x.a ∧ x.a < (el m.aD (m.aD.length - 1)).bg.length) (hr : x.op = 9 → (dt u m x.a).kind = 3 → 0 ≤ (dt u m x.a).n ∧ (dt u m x.a).n < m.heap.length) (hv : ∀ i, i < x.args.length → 0 ≤ el x.args i ∧ el x.args i < (el m.aD (m.aD.length - 1)).bg.length) (h6 : x.args.length ≤ 6) (hn0 : 0 ≤ m.n ∧ m.n ≤ 1000000) (hf : (x.op = 9 → (dt u m x.a).kind = 3) → (0 ≤ cX u m x ∧ cX u m x < u.fns.length) ∧ (el u.fns (cX u m x).toNat).vars.length ≤ 256 ∧ (fH u m x).length ≤ (el u.fns (cX u m x).toNat).vars.length) : lP Tryz.prog X0 Mx 92 [.ptr 1000 m.i0 0, .agg (fw x)] S fun v S2 => ∃ m2, MS u m2 S2 ∧ ∃ r, v = .int .i64 r ∧ DZ u m x r m2 := by
 have hnt : (75 : Nat) ≤ 1000000 := by decide
 refine kO (iz ym (jB _) (by simp) hnt ?_)
 have hn := ht.ne
 have hM := hm.mc.Ay
 have hH := hm.mc.hp
 have hF := hm.mc.fp
 have hO := hm.mc.ob
 rcases hop with h9 | h10
 ·have hFX : cX u m x = ET u (el m.heap (dt u m x.a).n.toNat).cls x.name := if_pos h9
  have hAX : fH u m x = [dt u m x.a] ++ x.args.map (dt u m) := by unfold fH; rw [if_pos h9]
  repeat' (first | refine Qb ?_ | refine af (vs := rM u m) ?_ rfl Lk rfl | refine aT (rows := fun i => fU i (el m.aD i)) ?_ rfl Lk rfl om | (refine fB ((dt u m x.a).n.toNat) (fun id2 eH => ?_); first | (rw [eH] at hH; have eH0 := eH) | (obtain rfl := Option.some.inj (eH0.symm.trans eH))) | refine aT (rows := fun i => Fb i (el m.heap i)) ?_ rfl Lk rfl om | refine bG (us := bQ u) ?_ rfl Lk ⟨by show 3 ≤ 9; decide, rfl⟩ | (refine ai ?_; intro hl) | (refine aj ?_; intro b) | (refine Ba ?_ ?_ <;> intro hc <;> try exact Zb) | refine aG ?_ | refine pd ?_ | refine dW (aM (ox ?_)) | (refine aq (ij (.cons _ _ _ _ (MC.zf (u := u) (Mk hm.mc)) (.cons _ _ _ _ (.refl _) .nil)) (cc ht (ha h9) ⟨rfl, ?_⟩))) | refine dW (aM (uv ct ?_)) | (refine bw ?_; intro bs) | (refine ti (f := dd) (dt u m x.a) ?_; intro od1) | refine pb ?_)
  all_goals first
   | exact ⟨Or.inr rfl, ⟨trivial, trivial⟩, _, rfl, m, (by (repeat (refine c7.cons ?_)); exact hm.low.t), (Mk hm.mc), 3, rfl, Or.inl ⟨rfl, Or.inl rfl⟩⟩
   | exact ⟨Or.inr rfl, ⟨trivial, trivial⟩, _, rfl, m, (by (repeat (refine c7.cons ?_)); exact hm.low.t), (Mk hm.mc), 5, rfl, Or.inl ⟨rfl, Or.inr rfl⟩⟩
   | skip
  replace hf := hf fun _ => by assumption
  rw [hFX, hAX] at hf
  refine iY (fun q : Nat × Option Nat => [(0, .ptr 1000 m.i0 0), (3, .ptr 3 _ 0), (5, oL 47 q.2 3 ([dt u m x.a] ++ (x.args.take q.1).map (dt u m))), (6, .int .i64 (ET u (el m.heap (dt u m x.a).n.toNat).cls x.name)), (8, .int .i64 q.1)]) (fun q => (47, q.2, aL 3 dd ([dt u m x.a] ++ (x.args.take q.1).map (dt u m))) :: (3, some _, .cells (fw x)) :: S) (fun q => q.1 ≤ x.args.length) (fun q => x.args.length - q.1) (0, od1) (Nat.zero_le _) [] (fun p => p) (.c (.c (.c (.c (.c .nil))))) (c8.zs (c8.head rfl (.refl _) (c8.head rfl (.refl _) (c8.hd hm.low)))) ?_
  rintro ⟨j, od⟩ hj
  simp only at hj ⊢
  by_cases hlt : j < x.args.length
  ·repeat' (first | refine Qb ?_ | refine af (vs := rM u m) ?_ rfl Lk rfl | refine aT (rows := fun i => fU i (el m.aD i)) ?_ rfl Lk rfl om | (refine ai ?_; intro hl) | (refine aj ?_; intro b) | (refine Ba ?_ ?_ <;> intro hc <;> try exact Zb) | refine aG ?_ | refine pd ?_ | (refine aq (ij (.cons _ _ _ _ (MC.zf (u := u) (Mk hm.mc)) (.cons _ _ _ _ (.refl _) .nil)) (cc ht (hv _ om) ⟨rfl, ?_⟩))) | (refine fi (f := dd) (dt u m (el x.args j)) ?_ rfl rfl rfl rfl rfl (fun _ => rfl) (by simp only [List.length_append, List.length_map, List.length_take, List.length_cons, List.length_nil]; omega); intro od2) | (refine bw ?_; intro bs) | refine pb ?_)
   rw [List.append_assoc, AA hlt]
   exact ⟨(j + 1, od2), by dsimp only; omega, by dsimp only; omega, [], fun p => p, .c (.c (.c (.c (.c .nil)))), c8.zs (c8.head rfl (.refl _) (c8.head rfl (.refl _) (c8.hd hm.low)))⟩
  ·have hjl : x.args.take j = x.args := List.take_of_length_le om
   rw [hjl]
   repeat' (first | refine Qb ?_ | refine af (vs := rM u m) ?_ rfl Lk rfl | refine aT (rows := fun i => fU i (el m.aD i)) ?_ rfl Lk rfl om | (refine ai ?_; intro hl) | (refine aj ?_; intro b) | (refine Ba ?_ ?_ <;> intro hc <;> try exact Zb) | refine aG ?_ | refine pd ?_ | (refine aq (eY (u := u) (m := m) [(47, od, aL 3 dd ([dt u m x.a] ++ x.args.map (dt u m)))] (.cons _ _ _ _ (.refl _) (.cons _ _ _ _ (.refl _) (.cons _ _ _ _ (fx rfl) .nil))) (fun q y e => by rw [aw] at e; by_cases hq : 47 = q; (rw [if_pos hq] at e; cases e; subst hq; exact ⟨dc, rfl⟩); (rw [if_neg hq] at e; cases e)) (Mk hm.mc) (by (repeat (refine c7.cons ?_)); exact hm.low.t) (fun S0 h0 => jP h0 hf.1 hf.2.1 hf.2.2 hn0 om) (fun v m' S1 h1 h2 => ?_))) | refine pb ?_)
   obtain ⟨lS, iK, h2⟩ := h2
   exact ⟨Or.inr rfl, ⟨trivial, trivial⟩, _, rfl, m', (by (repeat (refine c7.cons ?_)); exact h1.low.t), h1.mc, 0, rfl, by unfold DZ; rw [hFX, hAX]; exact Or.inr ⟨rfl, fun q => by first | assumption | omega, om, lS, iK, h2⟩⟩
 ·have hFX : cX u m x = qG u.fns x.cls x.name := if_neg om
  have hAX : fH u m x = [] ++ x.args.map (dt u m) := by unfold fH; rw [if_neg (by omega)]
  repeat' (first | refine Qb ?_ | refine af (vs := rM u m) ?_ rfl Lk rfl | refine aT (rows := fun i => fU i (el m.aD i)) ?_ rfl Lk rfl om | refine aT (rows := fun i => Fb i (el m.heap i)) ?_ rfl Lk rfl om | refine bG (us := bQ u) ?_ rfl Lk ⟨by show 3 ≤ 9; decide, rfl⟩ | (refine ai ?_; intro hl) | (refine aj ?_; intro b) | (refine Ba ?_ ?_ <;> intro hc <;> try exact Zb) | refine aG ?_ | refine pd ?_ | refine dW (aM (ox ?_)) | refine pb ?_)
  ·exact ⟨Or.inr rfl, ⟨trivial, trivial⟩, _, rfl, m, (by (repeat (refine c7.cons ?_)); exact hm.low.t), (Mk hm.mc), 5, rfl, Or.inl ⟨rfl, Or.inr rfl⟩⟩
  replace hf := hf fun q => by omega
  rw [hFX, hAX] at hf
  refine iY (fun q : Nat × Option Nat => [(0, .ptr 1000 m.i0 0), (3, .ptr 3 _ 0), (5, oL 70 q.2 3 ([] ++ (x.args.take q.1).map (dt u m))), (6, .int .i64 (qG u.fns x.cls x.name)), (8, .int .i64 q.1)]) (fun q => (70, q.2, aL 3 dd ([] ++ (x.args.take q.1).map (dt u m))) :: (3, some _, .cells (fw x)) :: S) (fun q => q.1 ≤ x.args.length) (fun q => x.args.length - q.1) (0, none) (Nat.zero_le _) [] (fun p => p) (.c (.c (.cons rfl (.vO _ _) (.c (.c .nil))))) (c8.zs (c8.SA (c8.head rfl (.refl _) (c8.hd hm.low)))) ?_
  rintro ⟨j, od⟩ hj
  simp only at hj ⊢
  by_cases hlt : j < x.args.length
  ·repeat' (first | refine Qb ?_ | refine af (vs := rM u m) ?_ rfl Lk rfl | refine aT (rows := fun i => fU i (el m.aD i)) ?_ rfl Lk rfl om | (refine ai ?_; intro hl) | (refine aj ?_; intro b) | (refine Ba ?_ ?_ <;> intro hc <;> try exact Zb) | refine aG ?_ | refine pd ?_ | (refine aq (ij (.cons _ _ _ _ (MC.zf (u := u) (Mk hm.mc)) (.cons _ _ _ _ (.refl _) .nil)) (cc ht (hv _ om) ⟨rfl, ?_⟩))) | (refine fi (f := dd) (dt u m (el x.args j)) ?_ rfl rfl rfl rfl rfl (fun _ => rfl) (by simp only [List.length_append, List.length_map, List.length_take, List.length_cons, List.length_nil]; omega); intro od2) | (refine bw ?_; intro bs) | refine pb ?_)
   rw [List.append_assoc, AA hlt]
   exact ⟨(j + 1, od2), by dsimp only; omega, by dsimp only; omega, [], fun p => p, .c (.c (.c (.c (.c .nil)))), c8.zs (c8.head rfl (.refl _) (c8.head rfl (.refl _) (c8.hd hm.low)))⟩
  ·have hjl : x.args.take j = x.args := List.take_of_length_le om
   rw [hjl]
   repeat' (first | refine Qb ?_ | refine af (vs := rM u m) ?_ rfl Lk rfl | refine aT (rows := fun i => fU i (el m.aD i)) ?_ rfl Lk rfl om | (refine ai ?_; intro hl) | (refine aj ?_; intro b) | (refine Ba ?_ ?_ <;> intro hc <;> try exact Zb) | refine aG ?_ | refine pd ?_ | (refine aq (eY (u := u) (m := m) [(70, od, aL 3 dd ([] ++ x.args.map (dt u m)))] (.cons _ _ _ _ (.refl _) (.cons _ _ _ _ (.refl _) (.cons _ _ _ _ (fx rfl) .nil))) (fun q y e => by rw [aw] at e; by_cases hq : 70 = q; (rw [if_pos hq] at e; cases e; subst hq; exact ⟨dc, rfl⟩); (rw [if_neg hq] at e; cases e)) (Mk hm.mc) (by (repeat (refine c7.cons ?_)); exact hm.low.t) (fun S0 h0 => jP h0 hf.1 hf.2.1 hf.2.2 hn0 om) (fun v m' S1 h1 h2 => ?_))) | refine pb ?_)
   obtain ⟨lS, iK, h2⟩ := h2
   exact ⟨Or.inr rfl, ⟨trivial, trivial⟩, _, rfl, m', (by (repeat (refine c7.cons ?_)); exact h1.low.t), h1.mc, 0, rfl, by unfold DZ; rw [hFX, hAX]; exact Or.inr ⟨rfl, fun q => by first | assumption | omega, om, lS, iK, h2⟩⟩
def bz (m : DM) : DM := {m with aD := m.aD.take (m.aD.length - 1)}
abbrev J9 (u : aK) (m : DM) (T : aX) : aX := (1002, m.iK, .arr 8 (bz m).aD.length fun i => fU i (el (bz m).aD i)) :: (1000, some m.i0, .cells (rM u (bz m))) :: T
theorem mG {m : DM} : (bz m).aD.length = m.aD.length - 1 := by unfold bz; simp only [List.length_take]; omega
theorem MC.AD {u : aK} {m : DM} {T : aX} (h : MC u m T) (hn : 0 < m.aD.length) : c8 ((1000, some m.i0, .cells (uB 5 (PV.own 1002 m.iK (m.aD.length - 1) 8).cells (rM u m))) :: T) (J9 u m T) ∧ MC u (bz m) (J9 u m T) := by
 refine ⟨fun p id d e hd => ?_, (MC.pop h om).2⟩
 rw [aw] at e
 by_cases q1 : 1002 = p
 ·rw [if_pos q1] at e
  simp only [Option.some.injEq, Prod.mk.injEq] at e
  obtain ⟨e1, rfl⟩ := e
  rw [aw, if_neg (by omega), ← q1, h.fp, e1]
  refine ⟨_, rfl, .arr _ _ _ _ _ (by rw [mG]; omega) fun i hi => c5.of_eq ?_⟩
  rw [mG] at hi
  show fU i (el m.aD i) = fU i (el (m.aD.take (m.aD.length - 1)) i)
  rw [fg hi]
 rw [if_neg q1, aw] at e
 rw [aw]
 by_cases q0 : 1000 = p
 ·rw [if_pos q0] at e ⊢
  simp only [Option.some.injEq, Prod.mk.injEq] at e
  obtain ⟨e1, rfl⟩ := e
  rw [e1]
  refine ⟨_, rfl, .cells _ _ (c5.of_eq ?_)⟩
  unfold rM
  rw [mG]; rfl
 ·rw [if_neg q0] at e ⊢; exact ⟨d, e, .refl _⟩
noncomputable def J0 (u : aK) (m : DM) (x : bJ) : dC := if x.a = -1 then ⟨0, 0, 0⟩ else dt u m x.a
def zC (u : aK) (m : DM) : Int := (el (el u.fns (el m.aD (m.aD.length - 1)).fn.toNat).code (el m.aD (m.aD.length - 1)).at_.toNat).dst
noncomputable def Pg (u : aK) (m : DM) (v : dC) : DM := if zC u m = -1 then sw m {el m.aD (m.aD.length - 1) with at_ := (el m.aD (m.aD.length - 1)).at_ + 1} else sr m (zC u m) v
theorem wm {u : aK} {m : DM} {S : aX} {x : bJ} (hm : MS u m S) (ht : nY u m) (ha : x.a ≠ -1 → 0 ≤ x.a ∧ x.a < (el m.aD (m.aD.length - 1)).bg.length) (ht1 : 0 < (bz m).aD.length → nY u (bz m)) (hd : 0 < (bz m).aD.length → zC u (bz m) ≠ -1 → 0 ≤ zC u (bz m) ∧ zC u (bz m) < (el (bz m).aD ((bz m).aD.length - 1)).bg.length) : lP Tryz.prog X0 Mx 93 [.ptr 1000 m.i0 0, .agg (fw x)] S fun v S2 => ∃ m2, MS u m2 S2 ∧ ∃ r, v = .int .i64 r ∧ (((bz m).aD.length = 0 ∧ r = 1 ∧ m2 = bz m) ∨ (0 < (bz m).aD.length ∧ r = 0 ∧ m2 = Pg u (bz m) (J0 u m x))) := by
 have hnt : (73 : Nat) ≤ 1000000 := by decide
 refine kO (iz wa (jB _) (by simp) hnt ?_)
 have hn := ht.ne
 have hpl := mG (m := m)
 have hM := hm.mc.Ay
 have hH := hm.mc.hp
 have hF := hm.mc.fp
 have hO := hm.mc.ob
 rcases Nat.eq_zero_or_pos (bz m).aD.length with hz | hz
 ·repeat' (first | refine pg ?_ | refine af (vs := rM u m) ?_ rfl Lk rfl | refine aT (rows := fun i => fU i (el m.aD i)) ?_ rfl Lk rfl om | (refine yC (MC.AD (u := u) (m := m) (Mk hm.mc) hn).1 ?_) | (refine oA (m.aD.length - 1) ?_) | refine aH ?_ | refine af ?_ | refine aa ?_ | (refine ai ?_; intro hl) | (refine aj ?_; intro b) | (refine aQ ?_ ?_ <;> intro hc <;> try first | contradiction | omega) | refine aE ?_ | refine aN ?_ | refine ag ?_ | refine aF ?_ | refine aG ?_ | refine pd ?_ | refine sC.mk rfl ?_ | refine ay ?_ | (refine aq (ij (.cons _ _ _ _ (MC.zf (u := u) (Mk hm.mc)) (.cons _ _ _ _ (.refl _) .nil)) (cc ht (ha am) ⟨rfl, ?_⟩))) | refine gH ?_ | refine ay (vs := rM u m) ?_ rfl rfl Lk rfl rfl (Nat.le_of_ble_eq_true rfl) | refine cH ?_ | refine pc ?_ | refine pt ?_)
  all_goals exact ⟨Or.inr rfl, ⟨trivial, trivial⟩, _, rfl, bz m, (by (repeat (refine c7.cons ?_)); exact hm.low.t), (MC.AD (u := u) (Mk hm.mc) hn).2, 1, rfl, Or.inl ⟨hz, rfl, rfl⟩⟩
 ·have ht' := ht1 hz
  have q0 := ht'.f0
  have q1 := ht'.f1
  have q2 := ht'.a0
  have q3 := ht'.a1
  have q4 := ht'.cl
  have hd' := hd hz
  have hT1 : aI S (2 * ((bz m).aD.length - 1) + 1010) = some ((el (bz m).aD ((bz m).aD.length - 1)).lS, aL 3 dd (el (bz m).aD ((bz m).aD.length - 1)).bg) := by
   have e : el (bz m).aD ((bz m).aD.length - 1) = el m.aD ((bz m).aD.length - 1) := fg om
   rw [e]; exact hm.mc.fr _ om
  have hdd : zC u (bz m) = (el (el u.fns (el (bz m).aD ((bz m).aD.length - 1)).fn.toNat).code (el (bz m).aD ((bz m).aD.length - 1)).at_.toNat).dst := rfl
  rw [hdd] at hd'
  repeat' (first | refine pg ?_ | refine af (vs := rM u m) ?_ rfl Lk rfl | refine aT (rows := fun i => fU i (el m.aD i)) ?_ rfl Lk rfl om | (refine yC (MC.AD (u := u) (m := m) (Mk hm.mc) hn).1 ?_) | (refine oA (m.aD.length - 1) ?_) | (refine fB (el (el u.fns (el (bz m).aD ((bz m).aD.length - 1)).fn.toNat).code (el (bz m).aD ((bz m).aD.length - 1)).at_.toNat).dst.toNat (fun id2 eW => ?_); rw [eW] at hT1) | refine aH ?_ | refine af ?_ | refine aa ?_ | (refine ai ?_; intro hl) | (refine aj ?_; intro b) | (refine aQ ?_ ?_ <;> intro hc <;> try first | contradiction | omega) | refine aE ?_ | refine aN ?_ | refine ag ?_ | refine aF ?_ | refine aG ?_ | refine pd ?_ | refine sC.mk rfl ?_ | refine ay ?_ | (refine aq (ij (.cons _ _ _ _ (MC.zf (u := u) (Mk hm.mc)) (.cons _ _ _ _ (.refl _) .nil)) (cc ht (ha am) ⟨rfl, ?_⟩))) | refine gH ?_ | refine ay (vs := rM u m) ?_ rfl rfl Lk rfl rfl (Nat.le_of_ble_eq_true rfl) | (refine aq (cg (u := u) (m := bz m) (MC.AD (u := u) (Mk hm.mc) hn).2 ((bz m).aD.length - 1) om rfl (fun id eG => ?_))) | refine c9 (rows := fun j => dd (el (el (bz m).aD ((bz m).aD.length - 1)).bg j)) ?_ rfl rfl Lk rfl rfl | refine c9 (m := (bz m).aD.length) (rows := fun i => fU i (el (bz m).aD i)) ?_ rfl rfl (by first | (refine aV om ?_; rw [← eG]; rfl) | (rw [← eG]; rfl)) rfl rfl | refine aT (n := (bz m).aD.length) (rows := fun i => fU i (el (bz m).aD i)) ?_ rfl (by first | (refine aV om ?_; rw [← eG]; rfl) | (rw [← eG]; rfl)) rfl om | refine cH ?_ | refine pc ?_ | refine pt ?_)
  all_goals first
   | have hv : J0 u m x = ⟨0, 0, 0⟩ := if_pos am
   | have hv : J0 u m x = dt u m x.a := if_neg am
  all_goals first
   | (have hl : Pg u (bz m) (J0 u m x) = sw (bz m) {el (bz m).aD ((bz m).aD.length - 1) with at_ := (el (bz m).aD ((bz m).aD.length - 1)).at_ + 1} := if_pos (by rw [hdd]; assumption)
      exact ⟨Or.inr rfl, ⟨trivial, trivial⟩, _, rfl, _, (by (repeat (refine c7.cons ?_)); exact hm.low.t), (by rw [← eG]; exact MC.row (m := bz m) (k := (bz m).aD.length - 1) (MC.AD (u := u) (Mk hm.mc) hn).2 om _ rfl rfl), 0, rfl, Or.inr ⟨hz, rfl, hl.symm⟩⟩)
   | (have hl : Pg u (bz m) (J0 u m x) = sr (bz m) (zC u (bz m)) (J0 u m x) := if_neg (by rw [hdd]; assumption)
      rw [hv] at hl
      exact ⟨Or.inr rfl, ⟨trivial, trivial⟩, _, rfl, _, (by (repeat (refine c7.cons ?_)); exact hm.low.t), (by rw [← eG, ← eW]; exact MC.PJ (m := bz m) (MC.AD (u := u) (Mk hm.mc) hn).2 hz (v := zC u (bz m)) (by rw [hdd]; omega) _), 0, rfl, Or.inr ⟨hz, rfl, hl.symm.trans (by rw [hv])⟩⟩)
def tg (m : DM) (j : Nat) : DM := {m with aD := m.aD.take j}
theorem Na {m : DM} {j : Nat} (hj : j ≤ m.aD.length) : bz (tg m j) = tg m (j - 1) := by
 unfold bz tg
 simp only [List.length_take, List.take_take]
 congr 2
 omega
theorem B3 {m : DM} {j : Nat} (hj : j ≤ m.aD.length) : (tg m j).aD.length = j := by unfold tg; simp only [List.length_take]; omega
theorem Nb {m : DM} : tg m m.aD.length = m := by unfold tg; rw [List.take_length]
theorem c8.Rl {S S' : aX} {p : Nat} {x : Option Nat × PB} {y : Nat × Option Nat × PB} (hl : ig S') (hp : p < 1000) (t : c8 (y :: S) S') : c8 (y :: (p, x) :: S) S' := fun q id d e hd => by
 have hq : ¬ q < 1000 := fun w => by rw [hl q w] at e; cases e
 obtain ⟨b, h1, h2⟩ := t q id d e hd
 refine ⟨b, ?_, h2⟩
 obtain ⟨k, v⟩ := y
 rw [aw] at h1 ⊢
 by_cases w : k = q
 ·rw [if_pos w] at h1 ⊢; exact h1
 ·rw [if_neg w] at h1 ⊢; rw [aw, if_neg (by omega)]; exact h1
def MU (u : aK) (f : vL) : Int := (el (el u.fns f.fn.toNat).code f.at_.toNat).xR
def JY (u : aK) (m : DM) (e : dC) (r : Int) (m2 : DM) : Prop := (r = 2 ∧ m2.bo = m.bo ∧ m2.end_ = m.end_ ∧ m2.i0 = m.i0) ∨ (r = 0 ∧ ∃ j, 0 < j ∧ j ≤ m.aD.length ∧ MU u (el m.aD (j - 1)) ≠ -1 ∧ m2 = sw (tg m j) {el m.aD (j - 1) with at_ := MU u (el m.aD (j - 1)), wI := e})
theorem nM {u : aK} {m0 : DM} {S0 : aX} {e : dC} (hm0 : MS u m0 S0) (ht0 : ∀ j, 0 < j → j ≤ m0.aD.length → nY u (tg m0 j)) : lP Tryz.prog X0 Mx 94 [.ptr 1000 m0.i0 0, .agg (dd e)] S0 fun v S2 => ∃ m2, MS u m2 S2 ∧ ∃ r, v = .int .i64 r ∧ JY u m0 e r m2 := by
 have hnt : (58 : Nat) ≤ 1000000 := by decide
 refine kO (iz wb (jB _) (by simp) hnt ?_)
 repeat' (first | refine Qa ?_ | refine af (vs := rM u m) ?_ rfl Lk rfl | refine aT (rows := fun i => fU i (el m.aD i)) ?_ rfl Lk rfl om | (refine Ba ?_ ?_ <;> try exact Za) | intro hc)
 refine iY (fun q : Nat × aX => [(0, .ptr 1000 m0.i0 0), (3, .ptr 3 _ 0)]) (fun q => (3, some _, .cells (dd e)) :: q.2) (fun q => q.1 ≤ m0.aD.length ∧ MS u (tg m0 q.1) q.2) (fun q => q.1) (m0.aD.length, S0) ⟨Nat.le_refl _, by rw [Nb]; exact hm0⟩ [] (fun p => p) (.c (.c .nil)) (c8.zs (c8.head rfl (.refl _) (c8.hd hm0.low))) ?_
 rintro ⟨j, S⟩ ⟨hj, hm⟩
 simp only at hj hm ⊢
 have hjl := B3 hj
 have htj := ht0 j
 have hpk := Na hj
 have hfr : ∀ i, i < j → el (tg m0 j).aD i = el m0.aD i := fun i hi => fg hi
 rw [show (PV.ptr 1000 m0.i0 0) = .ptr 1000 (tg m0 j).i0 0 from rfl]
 have hmj : tg m0 j = tg m0 j := rfl
 generalize hmm : tg m0 j = m at *
 rcases Nat.eq_zero_or_pos j with hz | hz
 ·have hM := hm.mc.Ay
  have hH := hm.mc.hp
  have hF := hm.mc.fp
  have hO := hm.mc.ob
  repeat' (first | refine Qa ?_ | refine af (vs := rM u m) ?_ rfl Lk rfl | refine aT (rows := fun i => fU i (el m.aD i)) ?_ rfl Lk rfl om | (refine Ba ?_ ?_ <;> try exact Za) | intro hc)
  exact ⟨Or.inr rfl, ⟨trivial, trivial⟩, _, rfl, m, (by (repeat (refine c7.cons ?_)); exact hm.low.t), (Mk hm.mc), 2, rfl, Or.inl ⟨rfl, by rw [← hmm]; rfl, by rw [← hmm]; rfl, by rw [← hmm]; rfl⟩⟩
 ·have ht := htj hz hj
  have hn := ht.ne
  have q0 := ht.f0
  have q1 := ht.f1
  have q2 := ht.a0
  have q3 := ht.a1
  have hM := hm.mc.Ay
  have hH := hm.mc.hp
  have hF := hm.mc.fp
  have hO := hm.mc.ob
  repeat' (first | refine Qa ?_ | refine af (vs := rM u m) ?_ rfl Lk rfl | refine aT (rows := fun i => fU i (el m.aD i)) ?_ rfl Lk rfl om | (refine oA (m.aD.length - 1) ?_) | (refine Ba ?_ ?_ <;> try exact Za) | (refine aq (cg (u := u) (Mk hm.mc) (m.aD.length - 1) hn rfl (fun id eF => ?_)); first | (rw [eF] at hF; have eF0 := eF) | (obtain rfl := Option.some.inj (eF0.symm.trans eF))) | refine c9 (rows := fun i => fU i (el m.aD i)) ?_ rfl rfl Lk rfl rfl | refine c9 ?_ | refine ay (vs := rM u m) ?_ rfl rfl Lk rfl rfl (Nat.le_of_ble_eq_true rfl) | intro hc)
  ·have hlow : ig (J9 u m S) := (hm.low.cons (p := 1000) om).cons (p := 1002) om
   exact ⟨(j - 1, J9 u m S), by dsimp only; omega, ⟨by dsimp only; omega, by dsimp only; rw [← hpk]; exact ⟨hlow, (MC.AD hm.mc hn).2⟩⟩, [], fun p => p, .c (.c .nil), c8.zs (c8.head rfl (.refl _) (c8.Rl hlow dc (MC.AD hm.mc hn).1))⟩
  ·have hk : m.aD.length - 1 < m.aD.length := by omega
   have hje : j - 1 = m.aD.length - 1 := by omega
   have hml : {el m.aD (m.aD.length - 1) with at_ := MU u (el m.aD (m.aD.length - 1)), wI := e} = ({el m0.aD (j - 1) with at_ := MU u (el m0.aD (j - 1)), wI := e} : vL) := by rw [← hfr (j - 1) (by omega), hje]
   refine ⟨Or.inr rfl, ⟨trivial, trivial⟩, _, rfl, sw m {el m.aD (m.aD.length - 1) with at_ := MU u (el m.aD (m.aD.length - 1)), wI := e}, (by (repeat (refine c7.cons ?_)); exact hm.low.t), ?_, 0, rfl, Or.inr ⟨rfl, j, hz, hj, ?_, ?_⟩⟩
   ·rw [← eF0]
    refine MC.same (MC.row (m := m) (Mk hm.mc) hk {el m.aD (m.aD.length - 1) with at_ := MU u (el m.aD (m.aD.length - 1)), wI := e} rfl rfl) (fun p hp => ?_)
    by_cases w : 1002 = p
    ·rw [aw, if_pos w, aw, if_pos w]
     congr 3
     funext i
     by_cases q : i = m.aD.length - 1
     ·subst q; simp only [if_true]; rfl
     ·simp only [if_neg q]
    ·rw [aw, if_neg w, aw, if_neg w, aw, if_neg (by omega), aw, if_neg w]
   ·rw [← hfr (j - 1) (by omega), hje]; assumption
   ·rw [hmm, hml]
def Ka (f : ju) : lQ := ⟨f.name, ES f.ly⟩
def dh (cl : List aU) (l : List (List Nat)) : List ju := l.flatMap fun c => (aY cl c).fields
theorem Hr {α β : Type} [Inhabited α] {a l : List α} {f : α → β} {j : Nat} (h : j < l.length) : (a ++ l.take j).map f ++ [f (el l j)] = (a ++ l.take (j + 1)).map f := by
 rw [List.take_succ_eq_append_getElem h, ← List.append_assoc, List.map_append (l₂ := [_])]
 simp [el, h]
def jL (cl : List aU) (c : List Nat) : List lQ := (dh cl (aA cl c)).map Ka
theorem Fg {cl : List aU} {l : List (List Nat)} {i : Nat} (h : i < l.length) : dh cl (l.take (i + 1)) = dh cl (l.take i) ++ (aY cl (el l i)).fields := by
 unfold dh
 rw [List.take_succ_eq_append_getElem h, List.flatMap_append]
 simp [el, h]
theorem xN {cl : List aU} (h : ∀ c ∈ bK cl, (aY cl c).fields.length ≤ 16) : ∀ (l : List (List Nat)), (∀ c ∈ l, c ∈ bK cl) → (dh cl l).length ≤ 16 * l.length
 | [], _ => by simp [dh]
 | c :: l, hl => by
  have h1 := xN h l fun d hd => hl d (List.mem_cons_of_mem _ hd)
  have h2 := h c (hl c (by simp))
  show ((aY cl c).fields ++ dh cl l).length ≤ _
  rw [List.length_append, List.length_cons]
  omega
theorem yD {u : aK} {c : List Nat} (ct : u.cl.length ≤ 64) (hfl : (dh u.cl (aA u.cl c)).length ≤ 10000) (hfi : ∀ i, i < (aA u.cl c).length → (dh u.cl ((aA u.cl c).take i)).length + (aY u.cl (el (aA u.cl c) i)).fields.length ≤ 10000) : lP Tryz.prog X0 Mx 152 [.agg (bQ u), .str c] [] fun v S2 => ∃ bp b, S2 = [(900, bp, b)] ∧ b = aL 4 gf (jL u.cl c) ∧ v = .agg [.str c, oL 900 bp 4 (jL u.cl c)] := by
 have hnt : (59 : Nat) ≤ 1000000 := by decide
 refine uy (iz yt (jB _) (by simp) hnt ?_)
 repeat' (first | refine Qa ?_ | (refine Ba ?_ ?_ <;> try exact Za) | refine bG (us := bh u.cl) ?_ rfl rfl ⟨by show 1 ≤ 3; decide, rfl⟩ | refine aq (ao (fY ct ?_)) | intro hc)
 refine iY (fun i : Nat × Option Nat => [(2, .ptr 2 _ 0), (4, .ptr 4 _ 0), (5, .ptr 5 _ 0), (6, pL 1 pS (aA u.cl c)), (7, .int .i64 i.1)]) (fun i => [(2, some _, .cells (bQ u)), (4, some _, .cells [.str [], .aO]), (5, some _, .cells [.str c, oL 56 i.2 4 ((dh u.cl ((aA u.cl c).take i.1)).map Ka)]), (56, i.2, aL 4 gf ((dh u.cl ((aA u.cl c).take i.1)).map Ka))]) (fun i => i.1 ≤ (aA u.cl c).length) (fun i => (aA u.cl c).length - i.1) (0, none) (Nat.zero_le _) [] (fun p => p) (.c (.c (.c (.c (.c .nil))))) (c8.zs (c8.head rfl (.refl _) (c8.head rfl (.refl _) (c8.head rfl (.cells _ _ (.cons _ _ _ _ (.refl _) (.cons _ _ _ _ (.vO _ _) .nil))) (c8.SA c8.nil))))) ?_
 rintro ⟨i, od⟩ hi
 simp only at hi ⊢
 have hls := gF (s := c) ct
 by_cases hlt : i < (aA u.cl c).length
 ·have hm := cq (b8 hlt)
  have h1 := aW.2 hm
  have h2 := ee (l := bK u.cl) (s := el (aA u.cl c) i)
  rw [bL] at h2
  have hfii := hfi i hlt
  repeat' (first | refine Qa ?_ | (refine Ba ?_ ?_ <;> try exact Za) | refine bG (us := bh u.cl) ?_ rfl rfl ⟨by show 1 ≤ 3; decide, rfl⟩ | refine dW (aM (dA ?_)) | intro hc)
  refine iY (fun j : Nat × Option Nat => [(2, .ptr 2 _ 0), (4, .ptr 4 _ 0), (5, .ptr 5 _ 0), (6, pL 1 pS (aA u.cl c)), (7, .int .i64 (i : Nat)), (8, pL 2 tI (aY u.cl (el (aA u.cl c) i)).fields), (9, .int .i64 j.1)]) (fun j => [(2, some _, .cells (bQ u)), (4, some _, .cells [.str [], .aO]), (5, some _, .cells [.str c, oL 56 j.2 4 ((dh u.cl ((aA u.cl c).take i) ++ (aY u.cl (el (aA u.cl c) i)).fields.take j.1).map Ka)]), (56, j.2, aL 4 gf ((dh u.cl ((aA u.cl c).take i) ++ (aY u.cl (el (aA u.cl c) i)).fields.take j.1).map Ka))]) (fun j => j.1 ≤ (aY u.cl (el (aA u.cl c) i)).fields.length) (fun j => (aY u.cl (el (aA u.cl c) i)).fields.length - j.1) (0, od) (Nat.zero_le _) [] (fun p => p) (.c (.c (.c (.c (.c (.c (.c .nil))))))) (c8.zs (c8.head rfl (.refl _) (c8.head rfl (.refl _) (c8.head rfl (.cells _ _ (c5.of_eq (by rw [List.take_zero, List.append_nil]))) (c8.head (by rw [List.take_zero, List.append_nil]; rfl) (.refl _) c8.nil))))) ?_
  rintro ⟨j, od'⟩ hj
  simp only at hj ⊢
  by_cases hlt2 : j < (aY u.cl (el (aA u.cl c) i)).fields.length
  ·repeat' (first | refine Qa ?_ | (refine Ba ?_ ?_ <;> try exact Za) | refine dW (aM (ur ?_)) | (refine bw ?_; intro bs) | (refine fi (f := gf) (Ka (el (aY u.cl (el (aA u.cl c) i)).fields j)) ?_ rfl rfl rfl rfl rfl (fun _ => rfl) (by simp only [List.length_map, List.length_append, List.length_take]; omega); intro od2) | intro hc)
   rw [show (((dh u.cl ((aA u.cl c).take i) ++ (aY u.cl (el (aA u.cl c) i)).fields.take j).map Ka) ++ [Ka (el (aY u.cl (el (aA u.cl c) i)).fields j)]) = ((dh u.cl ((aA u.cl c).take i) ++ (aY u.cl (el (aA u.cl c) i)).fields.take (j + 1)).map Ka) from Hr hlt2]
   exact ⟨(j + 1, od2), by dsimp only; omega, by dsimp only; omega, [], fun p => p, .c (.c (.c (.c (.c (.c (.c .nil)))))), c8.zs (c8.head rfl (.refl _) (c8.head rfl (.refl _) (c8.head rfl (.refl _) (c8.head rfl (.refl _) c8.nil))))⟩
  ·rw [List.take_of_length_le (show (aY u.cl (el (aA u.cl c) i)).fields.length ≤ j by omega), ← Fg hlt]
   repeat' (first | refine Qa ?_ | (refine Ba ?_ ?_ <;> try exact Za) | intro hc)
   exact ⟨(i + 1, od'), by dsimp only; omega, by dsimp only; omega, [], fun p => p, .c (.c (.c (.c (.c .nil)))), c8.zs (c8.head rfl (.refl _) (c8.head rfl (.refl _) (c8.head rfl (.refl _) (c8.head rfl (.refl _) c8.nil))))⟩
 ·rw [List.take_of_length_le (show (aA u.cl c).length ≤ i by omega)]
  repeat' (first | refine Qa ?_ | (refine Ba ?_ ?_ <;> try exact Za) | intro hc)
  refine ⟨Or.inr rfl, ⟨rfl, trivial⟩, _, rfl, [], _, [(900, od, aL 4 gf (jL u.cl c))], .agg [.str c, oL 900 od 4 (jL u.cl c)], Mi (a := 56) (b := 900) (fun id d e => by cases e) (fun p hp id d e hd => ?_) (fun id d e hd => ?_), .agg _ _ (.cons _ _ _ _ (.refl _) (.cons _ _ _ _ (.M9 _ _ _ _ _) .nil)), od, _, rfl, rfl, rfl⟩
  ·rw [aw, if_neg (fun w => hp w.symm)] at e; cases e
  ·rw [aw, if_pos rfl] at e; cases e
   exact ⟨_, rfl, .refl _⟩
end Go.Proofs.YtgaihilgffficaaGreatDoor.Ev
