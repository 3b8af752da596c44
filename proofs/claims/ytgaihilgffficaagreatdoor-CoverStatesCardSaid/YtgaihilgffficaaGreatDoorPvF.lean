/- CoverStates, part 20 -/
import Derived.Test.YtgaihilgffficaaGreatDoorPvD
set_option linter.all false
namespace Go.Proofs.YtgaihilgffficaaGreatDoor.Ev
open Go
variable [Gb]
def Leaves (c : C) (h : H) (F : Nat → Prop) (S : aX) (env' : bu) (h' : H) (Q : aZ → aX → Prop) : Prop := ∃ G' S' F', Ext h F S h' F' S' ∧ St c h' F' S' ∧ RE h' F' G' env' ∧ Q G' S'
theorem Leaves.mono {c : C} {h : H} {F : Nat → Prop} {S : aX} {env' : bu} {h' : H} {Q Q' : aZ → aX → Prop} (l : Leaves c h F S env' h' Q) (hq : ∀ G S, Q G S → Q' G S) : Leaves c h F S env' h' Q' := by
 obtain ⟨G', S', F', a1, a2, a3, a4⟩ := l
 exact ⟨G', S', F', a1, a2, a3, hq _ _ a4⟩
theorem Leaves.after {c : C} {h h1 : H} {F F1 : Nat → Prop} {S S1 : aX} {env' : bu} {h' : H} {Q : aZ → aX → Prop} (x : Ext h F S h1 F1 S1) (l : Leaves c h1 F1 S1 env' h' Q) : Leaves c h F S env' h' Q := by
 obtain ⟨G', S', F', a1, a2, a3, a4⟩ := l
 exact ⟨G', S', F', x.trans a1, a2, a3, a4⟩
section
variable (P : Program) (X : dg) (M : Mf)
structure PG (nt : Nat) (ops : List SR) (G : aZ) (S : aX) (Q : aZ → aX → Prop) : Prop where
 run : ∀ c h F env, St c h F S → RE h F G env → WG P X M c nt ops env h (fun env' h' => Leaves c h F S env' h' Q)
structure PC (nt : Nat) (x : SC) (G : aZ) (S : aX) (Q : Ex → aZ → aX → Prop) : Prop where
 run : ∀ c h F env, St c h F S → RE h F G env → WC P X M c nt x env h (fun e env' h' => Leaves c h F S env' h' (Q e))
structure Jh (nt : Nat) (b : SC) (Q : Ex → aZ → aX → Prop) (e : Ex) (G : aZ) (S : aX) : Prop where
 get : match e with
  | .normal => PC P X M nt b G S Q
  | e => Q e G S
end
structure Ot (id : Nat) (Q : Ex → aZ → aX → Prop) (e : Ex) (G : aZ) (S : aX) : Prop where
 get : match e with
  | .exit id' => bif Nat.beq id' id then Q .normal G S else Q (.exit id') G S
  | e => Q e G S
def dM (G : aZ) : Option (Nat × Bool) → Option Bool
 | none => some true
 | some (t, w) => match fJ G t with
  | some (.bool b) => some (b == w)
  | some (.bO _) => some false
  | _ => none
theorem dE {h : H} {F : Nat → Prop} {G : aZ} {env : bu} (r : RE h F G env) {g : Option (Nat × Bool)} {b : Bool} (e : dM G g = some b) : cW env g = some b := by
 cases g with
 | none => exact e
 | some g =>
  obtain ⟨t, w⟩ := g
  simp only [dM] at e
  split at e
  ·rename_i x hx
   obtain ⟨a, e1, q⟩ := r.at_ _ _ hx
   cases q
   simp only [cW, e1]; exact e
  ·rename_i x hx
   obtain ⟨a, e1, q⟩ := r.at_ _ _ hx
   cases q
   simp only [cW, e1]; exact e
  ·cases e
section
variable {P : Program} {X : dg} {M : Mf} {nt : Nat} {G : aZ} {S : aX}
theorem WG.mono {c : C} {ops : List SR} {env : bu} {h : H} {Q Q' : bu → H → Prop} (w : WG P X M c nt ops env h Q) (hq : ∀ e h, Q e h → Q' e h) : WG P X M c nt ops env h Q' := .mk fun sl hs => by
 obtain ⟨sl', h', env', h1, h2, h3⟩ := w.run sl hs
 exact ⟨sl', h', env', h1, h2, hq _ _ h3⟩
theorem PG.mono {ops : List SR} {Q Q' : aZ → aX → Prop} (w : PG P X M nt ops G S Q) (hq : ∀ G S, Q G S → Q' G S) : PG P X M nt ops G S Q' := ⟨fun c h F env s r => WG.mono (w.run c h F env s r) fun e h l => l.mono hq⟩
theorem PC.mono {x : SC} {Q Q' : Ex → aZ → aX → Prop} (w : PC P X M nt x G S Q) (hq : ∀ e G S, Q e G S → Q' e G S) : PC P X M nt x G S Q' := ⟨fun c h F env s r => (w.run c h F env s r).mono fun e _ h l => l.mono (hq e)⟩
theorem Ou {Q : aZ → aX → Prop} (q : Q G S) : PG P X M nt [] G S Q := ⟨fun c h F env s r => Ov ⟨G, S, F, Ext.refl _ _ _, s, r, q⟩⟩
theorem QD {d p : Nat} {op : SO} {g : Option (Nat × Bool)} {m b : Bool} {f : Option XV} {ops : List SR} {Q : aZ → aX → Prop} (hnt : nt ≤ 1000000) (hg : dM G g = some true) (hd : Nat.blt d nt = true) (w : PO P X M d op G S fun v S => PG P X M nt ops ((d, v) :: G) S Q) : PG P X M nt (⟨some d, op, g, p, m, b, f⟩ :: ops) G S Q := ⟨fun c h F env s r =>
 QE hnt (dE r hg) hd ((w.run c h F env s r).mono fun v h1 ⟨q, S1, F1, a1, a2, a3, a4⟩ =>
  WG.mono (a4.run c h1 F1 _ a2 ((r.mono fun id x => s.jT a1 id x).put a3)) fun _ _ l => l.after a1)⟩
theorem Ow {p : Nat} {op : SO} {g : Option (Nat × Bool)} {m b : Bool} {f : Option XV} {ops : List SR} {Q : aZ → aX → Prop} (hnt : nt ≤ 1000000) (hg : dM G g = some true) (w : PO P X M nt op G S fun v S => PG P X M nt ops G S Q) : PG P X M nt (⟨none, op, g, p, m, b, f⟩ :: ops) G S Q := ⟨fun c h F env s r =>
 Ox hnt (dE r hg) ((w.run c h F env s r).mono fun v h1 ⟨q, S1, F1, a1, a2, a3, a4⟩ =>
  WG.mono (a4.run c h1 F1 _ a2 (r.mono fun id x => s.jT a1 id x)) fun _ _ l => l.after a1)⟩
theorem Oy {d p : Nat} {op : SO} {g : Nat × Bool} {m b : Bool} {f : Option XV} {ops : List SR} {Q : aZ → aX → Prop} (hnt : nt ≤ 1000000) (hg : dM G (some g) = some false) (hd : Nat.blt d nt = true) (w : PG P X M nt ops ((d, .bO []) :: G) S Q) : PG P X M nt (⟨some d, op, some g, p, m, b, f⟩ :: ops) G S Q := ⟨fun c h F env s r =>
 Oz hnt (dE r hg) hd (w.run c h F _ s (r.put (.bO _ _ .nil)))⟩
theorem Lz {p : Nat} {op : SO} {g : Nat × Bool} {m b : Bool} {f : Option XV} {ops : List SR} {Q : aZ → aX → Prop} (hnt : nt ≤ 1000000) (hg : dM G (some g) = some false) (w : PG P X M nt ops G S Q) : PG P X M nt (⟨none, op, some g, p, m, b, f⟩ :: ops) G S Q := ⟨fun c h F env s r =>
 LA hnt (dE r hg) (w.run c h F _ s r)⟩
theorem PO.S8 {d : Nat} {op : SO} {K : PV → aX → Prop} (w : kG P X M op G fun v => K v S) : PO P X M d op G S K := ⟨fun c h F env s r => w.run c h F env r _ fun p a q hk => ⟨p, S, F, Ext.refl _ _ _, s, q, hk⟩⟩
theorem PO.S9 {d : Nat} {op : SO} {K : PV → aX → Prop} (w : Jb P X M d op G fun f b => ∀ id, K (f id) ((d, some id, b) :: S)) : PO P X M d op G S K := ⟨fun c h F env s r => w.run c h F env r _ fun f b ab a q1 q2 _ hk => by
 obtain ⟨s1, x1⟩ := s.new d q1
 exact ⟨_, _, F, x1, s1, q2 _, hk h.n⟩⟩
theorem PO.Ta {d : Nat} {op : SO} {K : PV → aX → Prop} (w : wM P X M op G S fun v => K v S) : PO P X M d op G S K := ⟨fun c h F env s r => by
 obtain ⟨x, A, off, vs, h1, h2, h3, h4, h5⟩ := w.run h F env r fun p id b e hb => (s.own p id b e hb).2.2.2.2
 refine h5 c ?_ _ fun p a q hk => ⟨p, S, F, Ext.refl _ _ _, s, q, hk⟩
 rcases h4 with q | ⟨p, b, e, hb⟩
 ·exact (s.fr A q).2
 ·exact (s.own p A b e hb).2.2.1⟩
def SO.cls : SO → Nat
 | .box _ => 1
 | .cr _ _ _ => 1
 | .tm _ _ _ => 1
 | .aB _ => 2
 | .ax _ _ => 2
 | .store _ _ _ => 3
 | .append _ _ _ _ => 3
 | .call _ _ => 3
 | .lookup _ _ _ _ _ => 3
 | .lj _ _ _ _ => 3
 | .rQ => 1
 | .yr _ => 1
 | .QF _ => 3
 | _ => 0
def LB (P : Program) (X : dg) (M : Mf) (d : Nat) (op : SO) (G : aZ) (S : aX) (K : PV → aX → Prop) : Option Prop := match SO.cls op with
 | 0 => some (kG P X M op G fun v => K v S)
 | 1 => some (Jb P X M d op G fun f b => ∀ id, K (f id) ((d, some id, b) :: S))
 | 2 => some (wM P X M op G S fun v => K v S)
 | _ => some (PO P X M d op G S K)
theorem Ez {d : Nat} {op : SO} {K : PV → aX → Prop} {J : Prop} (e : LB P X M d op G S K = some J) (w : J) : PO P X M d op G S K := by
 unfold LB at e
 split at e
 ·cases e; exact .S8 w
 ·cases e; exact .S9 w
 ·cases e; exact .Ta w
 ·cases e; exact w
def My (P : Program) (X : dg) (M : Mf) (nt : Nat) (ops : List SR) (G : aZ) (S : aX) (Q : aZ → aX → Prop) : Option Prop := match ops with
 | [] => some (Q G S)
 | ⟨some d, op, g, _, _, _, _⟩ :: ops => bif Nat.blt d nt then match dM G g with
  | some true => LB P X M d op G S (fun v S => PG P X M nt ops ((d, v) :: G) S Q)
  | some false => some (PG P X M nt ops ((d, .bO []) :: G) S Q)
  | none => none
  else none
 | ⟨none, op, g, _, _, _, _⟩ :: ops => match dM G g with
  | some true => LB P X M nt op G S (fun v S => PG P X M nt ops G S Q)
  | some false => some (PG P X M nt ops G S Q)
  | none => none
theorem pg {ops : List SR} {Q : aZ → aX → Prop} {J : Prop} (g : J) (e : My P X M nt ops G S Q = some J := by exact rfl) (hnt : nt ≤ 1000000 := by assumption) : PG P X M nt ops G S Q := by
 unfold My at e
 split at e
 ·cases e; exact Ou g
 ·rename_i d op g0 p m b f ops
  cases hd : Nat.blt d nt with
  | false => rw [hd] at e; cases e
  | true =>
   rw [hd, cond_true] at e
   split at e
   ·rename_i q; exact QD hnt q hd (Ez e g)
   ·rename_i q
    cases e
    cases g0 with
    | none => cases q
    | some g0 => exact Oy hnt q hd g
   ·cases e
 ·rename_i op g0 p m b f ops
  split at e
  ·rename_i q; exact Ow hnt q (Ez e g)
  ·rename_i q
   cases e
   cases g0 with
   | none => cases q
   | some g0 => exact Lz hnt q g
  ·cases e
/-! code -/
theorem LC {Q : Ex → aZ → aX → Prop} (q : Q .normal G S) : PC P X M nt .skip G S Q := ⟨fun c h F env s r => LD ⟨G, S, F, Ext.refl _ _ _, s, r, q⟩⟩
theorem LF {id : Nat} {Q : Ex → aZ → aX → Prop} (q : Q (.exit id) G S) : PC P X M nt (.exit id) G S Q := ⟨fun c h F env s r => LG ⟨G, S, F, Ext.refl _ _ _, s, r, q⟩⟩
theorem OA {Q : Ex → aZ → aX → Prop} (q : Q .ret G S) : PC P X M nt .ret G S Q := ⟨fun c h F env s r => OB ⟨G, S, F, Ext.refl _ _ _, s, r, q⟩⟩
theorem OC {a b : SC} {Q : Ex → aZ → aX → Prop} (w : PC P X M nt a G S (Jh P X M nt b Q)) : PC P X M nt (.seq a b) G S Q := ⟨fun c h F env s r =>
 OD ((w.run c h F env s r).mono fun e env' h' ⟨G', S', F', a1, a2, a3, a4⟩ => .mk (by
  cases e with
  | normal => exact (a4.get.run c h' F' env' a2 a3).mono fun _ _ _ l => l.after a1
  | exit id => exact ⟨G', S', F', a1, a2, a3, a4.get⟩
  | ret => exact ⟨G', S', F', a1, a2, a3, a4.get⟩))⟩
theorem OE {ops : List SR} {Q : Ex → aZ → aX → Prop} (w : PG P X M nt ops G S (Q .normal)) : PC P X M nt (.JL ops) G S Q := ⟨fun c h F env s r => OF (w.run c h F env s r)⟩
theorem Ji {id : Nat} {b : SC} {Q : Ex → aZ → aX → Prop} (w : PC P X M nt b G S (Ot id Q)) : PC P X M nt (.block id b) G S Q := ⟨fun c h F env s r =>
 Jj ((w.run c h F env s r).mono fun e env' h' ⟨G', S', F', a1, a2, a3, a4⟩ => .mk (by
  have a5 := a4.get
  cases e with
  | normal => exact ⟨G', S', F', a1, a2, a3, a5⟩
  | ret => exact ⟨G', S', F', a1, a2, a3, a5⟩
  | exit id' =>
   simp only at a5 ⊢
   cases hb : Nat.beq id' id with
   | true => rw [hb] at a5; exact ⟨G', S', F', a1, a2, a3, a5⟩
   | false => rw [hb] at a5; exact ⟨G', S', F', a1, a2, a3, a5⟩))⟩
theorem R8 {v : XV} {a b : SC} {Q : Ex → aZ → aX → Prop} (hv : ca G v = some (.bool true)) (w : PC P X M nt a G S Q) : PC P X M nt (.cond v a b) G S Q := ⟨fun c h F env s r => by
 obtain ⟨u, e1, q⟩ := r.ev hv
 cases q
 exact R9 e1 (w.run c h F env s r)⟩
theorem Sa {v : XV} {a b : SC} {Q : Ex → aZ → aX → Prop} (hv : ca G v = some (.bool false)) (w : PC P X M nt b G S Q) : PC P X M nt (.cond v a b) G S Q := ⟨fun c h F env s r => by
 obtain ⟨u, e1, q⟩ := r.ev hv
 cases q
 exact Sb e1 (w.run c h F env s r)⟩
def Mz (P : Program) (X : dg) (M : Mf) (nt : Nat) (x : SC) (G : aZ) (S : aX) (Q : Ex → aZ → aX → Prop) : Option Prop := match x with
 | .seq a b => some (PC P X M nt a G S (Jh P X M nt b Q))
 | .JL ops => some (PG P X M nt ops G S (Q .normal))
 | .block id b => some (PC P X M nt b G S (Ot id Q))
 | .skip => some (Q .normal G S)
 | .exit id => some (Q (.exit id) G S)
 | .ret => some (Q .ret G S)
 | .cond v a b => match ca G v with
  | some (.bool true) => some (PC P X M nt a G S Q)
  | some (.bool false) => some (PC P X M nt b G S Q)
  | _ => none
 | _ => none
theorem pc {x : SC} {Q : Ex → aZ → aX → Prop} {J : Prop} (g : J) (e : Mz P X M nt x G S Q = some J := by exact rfl) : PC P X M nt x G S Q := by
 unfold Mz at e
 split at e
 ·cases e; exact OC g
 ·cases e; exact OE g
 ·cases e; exact Ji g
 ·cases e; exact LC g
 ·cases e; exact LF g
 ·cases e; exact OA g
 ·split at e
  ·rename_i q; cases e; exact R8 q g
  ·rename_i q; cases e; exact Sa q g
  ·cases e
 ·cases e
def MA (P : Program) (X : dg) (M : Mf) (nt : Nat) (b : SC) (Q : Ex → aZ → aX → Prop) (e : Ex) (G : aZ) (S : aX) : Option Prop := match e with
 | .normal => some (PC P X M nt b G S Q)
 | .exit id => some (Q (.exit id) G S)
 | .ret => some (Q .ret G S)
theorem pt {b : SC} {Q : Ex → aZ → aX → Prop} {x : Ex} {J : Prop} (g : J) (e : MA P X M nt b Q x G S = some J := by exact rfl) : Jh P X M nt b Q x G S := by
 unfold MA at e
 split at e
 ·cases e; exact ⟨g⟩
 ·cases e; exact ⟨g⟩
 ·cases e; exact ⟨g⟩
def MB (id : Nat) (Q : Ex → aZ → aX → Prop) (e : Ex) (G : aZ) (S : aX) : Option Prop := match e with
 | .normal => some (Q .normal G S)
 | .exit id' => bif Nat.beq id' id then some (Q .normal G S) else some (Q (.exit id') G S)
 | .ret => some (Q .ret G S)
theorem pb {id : Nat} {Q : Ex → aZ → aX → Prop} {x : Ex} {J : Prop} (g : J) (e : MB id Q x G S = some J := by exact rfl) : Ot id Q x G S := by
 unfold MB at e
 split at e
 ·cases e; exact ⟨g⟩
 ·rename_i id'
  refine ⟨?_⟩
  simp only
  cases q : Nat.beq id' id with
  | true => rw [q] at e; cases e; exact g
  | false => rw [q] at e; cases e; exact g
 ·cases e; exact ⟨g⟩
theorem OG {x : SC} {G' : aZ} {S' : aX} {Q : Ex → aZ → aX → Prop} (hG : jy G G') (hS : kz S S') (w : PC P X M nt x G' S' Q) : PC P X M nt x G S Q := ⟨fun c h F env s r => by
 obtain ⟨s1, x1⟩ := hS.lay s
 exact (w.run c h F env s1 (hG.lay s r)).mono fun _ _ _ l => l.after x1⟩
theorem Cn {ops : List SR} {G' : aZ} {Q : aZ → aX → Prop} (hG : jy G G') (w : PG P X M nt ops G' S Q) : PG P X M nt ops G S Q := ⟨fun c h F env s r => w.run c h F env s (hG.lay s r)⟩
theorem cA (k slot : Nat) (Pr : Prop) {d : Nat} {op : SO} {ops : List SR} {Q : aZ → aX → Prop} (h2 : ∀ b, (b = true ↔ Pr) → PG P X M nt (ops.drop k) ((slot, .bool b) :: G) S Q) (h1 : (∀ G' b, jy G' G → fJ G' slot = some (.bool b) → (b = true ↔ Pr) → PG P X M nt (ops.drop k) G' S Q) → PO P X M d op G S (fun v S => PG P X M nt ops ((d, v) :: G) S Q)) : PO P X M d op G S (fun v S => PG P X M nt ops ((d, v) :: G) S Q) :=
 h1 fun _ b hs hl hp => Cn (.cons hl (.refl _) hs) (h2 b hp)
theorem yb (k slot : Nat) (Pr : Prop) {d : Nat} {op : SO} {ops : List SR} {Q : aZ → aX → Prop} (h2 : ∀ b, (b = true ↔ Pr) → PG P X M nt (ops.drop k) ((slot, .bool b) :: G) S Q) (h1 : (∀ G' b, jy G' G → fJ G' slot = some (.bool b) → (b = true ↔ Pr) → PG P X M nt (ops.drop k) G' S Q) → kG P X M op G (fun v => PG P X M nt ops ((d, v) :: G) S Q)) : kG P X M op G (fun v => PG P X M nt ops ((d, v) :: G) S Q) :=
 h1 fun _ b hs hl hp => Cn (.cons hl (.refl _) hs) (h2 b hp)
theorem jy.c {G G' : aZ} {t : Nat} {q : PV} (hs : jy G G') (h : fJ G t = some q := by exact rfl) : jy G ((t, q) :: G') := .cons h (.refl _) hs
theorem kz.c {S S' : aX} {q : Nat} {bp : Option Nat} {b : PB} (hs : kz S S') (h : aI S q = some (bp, b) := by exact rfl) : kz S ((q, bp, b) :: S') := .cons h (.refl _) hs
theorem jy.su {G G' : aZ} (h : jy G G' := by repeat' (first | exact jy.nil | refine jy.cons rfl (.refl _) ?_)) : jy G G' := h
theorem kz.su {S S' : aX} (h : kz S S' := by repeat' (first | exact kz.nil | refine kz.cons rfl (.refl _) ?_)) : kz S S' := h
def OH {ι : Type} (Gf : ι → aZ) (Sf : ι → aX) (I : ι → Prop) (μ : ι → Nat) (i : ι) (Q : Ex → aZ → aX → Prop) : Ex → aZ → aX → Prop := fun e G S => match e with
 | .normal => ∃ j, μ j < μ i ∧ I j ∧ jy G (Gf j) ∧ kz S (Sf j)
 | e => Q e G S
theorem aJ {ι : Type} {b : SC} {Q : Ex → aZ → aX → Prop} (Gf : ι → aZ) (Sf : ι → aX) (I : ι → Prop) (μ : ι → Nat) (i0 : ι) (h0 : I i0) (hG : jy G (Gf i0)) (hS : kz S (Sf i0)) (step : ∀ i, I i → PC P X M nt b (Gf i) (Sf i) (OH Gf Sf I μ i Q)) : PC P X M nt (.loop b) G S Q := by
 refine OG hG hS ⟨?_⟩
 intro c h F env s r
 suffices key : ∀ n i, μ i = n → I i → ∀ h F env, St c h F (Sf i) → RE h F (Gf i) env → WC P X M c nt (.loop b) env h (fun e env' h' => Leaves c h F (Sf i) env' h' (Q e)) from key _ i0 rfl h0 h F env s r
 intro n
 induction n using Nat.strongRecOn with
 | ind n ih =>
  intro i hn hi h F env s r
  have w := (step i hi).run c h F env s r
  refine .mk fun sl hs => ?_
  obtain ⟨e, sl1, h1, env1, ⟨N, hN⟩, hs1, G1, S1, F1, a1, a2, a3, a4⟩ := w.run sl hs
  cases e with
  | normal =>
   obtain ⟨j, hj, hI, sg, ss⟩ := a4
   obtain ⟨s2, x2⟩ := ss.lay a2
   have w2 := ih (μ j) om j rfl hI h1 F1 env1 s2 (sg.lay a2 a3)
   obtain ⟨e2, sl2, h2, env2, ⟨N2, hN2⟩, hs2, q2⟩ := w2.run sl1 hs1
   refine ⟨e2, sl2, h2, env2, ⟨N + N2 + 1, fun n hn rd ds => ?_⟩, hs2, (q2.after x2).after a1⟩
   cases n with
   | zero => omega
   | succ n =>
    show dT _ c nt rd (.loop b.den) (ev (cC P) (bW P X) M n c (.code nt rd b.den sl ds) h) = _
    rw [hN n (by omega) rd ds]
    exact hN2 n om rd ds
  | exit id =>
   refine ⟨.exit id, sl1, h1, env1, ⟨N + 1, fun n hn rd ds => ?_⟩, hs1, ⟨G1, S1, F1, a1, a2, a3, a4⟩⟩
   cases n with
   | zero => omega
   | succ n =>
    show dT _ c nt rd (.loop b.den) (ev (cC P) (bW P X) M n c (.code nt rd b.den sl ds) h) = _
    rw [hN n (by omega) rd ds]; rfl
  | ret =>
   refine ⟨.ret, sl1, h1, env1, ⟨N + 1, fun n hn rd ds => ?_⟩, hs1, ⟨G1, S1, F1, a1, a2, a3, a4⟩⟩
   cases n with
   | zero => omega
   | succ n =>
    show dT _ c nt rd (.loop b.den) (ev (cC P) (bW P X) M n c (.code nt rd b.den sl ds) h) = _
    rw [hN n (by omega) rd ds]; rfl
/-! functions -/
def He : List PV → Nat → aZ → aZ
 | [], _, G => G
 | v :: vs, i, G => He vs (i + 1) ((i, v) :: G)
theorem MD {h : H} {F : Nat → Prop} : ∀ {ps : List PV} {azs : List AV} {i : Nat} {G : aZ} {env : bu}, Rs h F ps azs → RE h F G env → RE h F (He ps i G) (LH azs i env)
 | _, _, _, _, _, .nil, r => r
 | _, _, i, _, _, .cons p a ps azs q qs, r => MD (i := i + 1) qs (r.put q)
def yh (G : aZ) (S : aX) : List (Nat × Option (Option Nat)) → Option (List PV)
 | [] => some []
 | r :: rs => match fJ G r.1, yh G S rs with
  | some v, some vs => match r.2 with
   | none => some (v :: vs)
   | some none => match v with
    | .ptr p id off => match aI S p with
     | some (some _, .cells cs) => match qt cs off with
      | some u => some (u :: vs)
      | none => none
     | _ => none
    | _ => none
   | some (some n) => match v with
    | .ptr p id off => match aI S p with
     | some (some _, .cells cs) => bif Nat.ble (off + n) cs.length then some (.agg ((cs.drop off).take n) :: vs) else none
     | _ => none
    | _ => none
  | _, _ => none
def Cs (G : aZ) (S : aX) : List (Nat × Option (Option Nat)) → Prop
 | [] => True
 | r :: rs => (match r.2 with
  | none => True
  | some _ => match fJ G r.1 with
   | some (.ptr p id off) => match aI S p with
    | some (some id', _) => id' = id
    | _ => False
   | _ => False) ∧ Cs G S rs
theorem ME {c : C} {h : H} {F : Nat → Prop} {G : aZ} {S : aX} {env : bu} (s : St c h F S) (r : RE h F G env) : ∀ {rs : List (Nat × Option (Option Nat))} {ps : List PV}, yh G S rs = some ps → Cs G S rs → ∃ azs, BO c h env rs = some azs ∧ Rs h F ps azs
 | [], ps, e, _ => by cases e; exact ⟨[], rfl, .nil⟩
 | x :: rs, ps, e, hi => by
  simp only [yh] at e
  split at e
  ·rename_i v vs h1 h2
   obtain ⟨a, e1, q1⟩ := r.at_ _ _ h1
   obtain ⟨azs, e2, q2⟩ := ME s r h2 hi.2
   obtain ⟨t, x2⟩ := x
   cases x2 with
   | none =>
    cases e
    exact ⟨a :: azs, by simp only [BO, e1, e2], .cons _ _ _ _ q1 q2⟩
   | some x2 =>
    have hi1 := hi.1
    simp only [h1] at hi1
    cases x2 with
    | none =>
     simp only at e
     split at e
     ·rename_i p id off
      split at e
      ·rename_i id' cs hS
       split at e
       ·rename_i u hu
        cases e
        cases q1
        simp only [hS] at hi1
        subst hi1
        obtain ⟨_, g2, _, ab, g3, g4⟩ := s.at_ hS (fun q => by cases q)
        cases g4 with
        | cells _ bs q =>
         rw [lf] at hu
         obtain ⟨w, e3, q3⟩ := q.get hu
         refine ⟨w :: azs, ?_, .cons _ _ _ _ q3 q2⟩
         have e4 : cT c h id' = some (.cells bs) := (dV g2).trans g3
         simp only [BO, e1, e2, e4, gP, e3]
       ·cases e
      ·cases e
     ·cases e
    | some n =>
     simp only at e
     split at e
     ·rename_i p id off
      split at e
      ·rename_i id' cs hS
       cases hb : Nat.ble (off + n) cs.length with
       | false => rw [hb] at e; cases e
       | true =>
        rw [hb] at e
        cases e
        cases q1
        simp only [hS] at hi1
        subst hi1
        obtain ⟨_, g2, _, ab, g3, g4⟩ := s.at_ hS (fun q => by cases q)
        cases g4 with
        | cells _ bs q =>
         have hl := Nat.le_of_ble_eq_true hb
         obtain ⟨q3, q4⟩ := q.part hl
         refine ⟨.agg ((bs.drop off).take n) :: azs, ?_, .cons _ _ _ _ (.agg _ _ q3) q2⟩
         have e4 : cT c h id' = some (.cells bs) := (dV g2).trans g3
         simp only [BO, e1, e2, e4]
         rw [gw _ _ _ (by omega), gx _ _ _ (by simp; omega)]
      ·cases e
     ·cases e
  ·cases e
def Ct : List PV → PV
 | [v] => v
 | vs => .bO vs
theorem QG {h : H} {F : Nat → Prop} {ps : List PV} {azs : List AV} (q : Rs h F ps azs) : R h F (Ct ps) (LI azs) := by
 cases q with
 | nil => exact .bO _ _ .nil
 | cons p a ps azs q1 q2 =>
  cases q2 with
  | nil => exact q1
  | cons p2 a2 ps2 as2 q3 q4 => exact .bO _ _ (.cons _ _ _ _ q1 (.cons _ _ _ _ q3 q4))
theorem iz {f : Nat} {args : List PV} {res : List (Nat × Option (Option Nat))} {s : SC} {K : PV → aX → Prop} (ht : bW P X f = some (.fn ⟨nt, res, s.den⟩)) (hM : ∀ azs c h, M f azs c h = none) (hl : args.length ≤ nt) (hnt : nt ≤ 1000000)
    (w : PC P X M nt s (He args 0 []) S (fun e G S => (e = .normal ∨ e = .ret) ∧ Cs G S res ∧ ∃ vs, yh G S res = some vs ∧ K (Ct vs) S)) : lP P X M f args S K := fun c h F azs st r =>
 QH ht (hM azs c h) (by rw [r.len]; exact hl) hnt ((w.run c h F _ st (MD r ⟨fun t p e => (by cases e), st.gl⟩)).mono fun e env' h' ⟨G', S', F', a1, a2, a3, a4, a5, vs, a6, a7⟩ => by
  obtain ⟨bs, e1, q⟩ := ME a2 a3 a6 a5
  exact ⟨a4, bs, e1, _, S', F', a1, a2, QG q, a7⟩)
theorem MW {f : Nat} {args : List PV} {g : List AV → Option AV} {K : PV → Prop} {p : PV} (ht : bW P X f = some (.ext g)) (hM : ∀ azs c h, M f azs c h = none) (hg : ∀ h F azs, Rs h F args azs → ∃ v, g azs = some v ∧ R h F p v) (hk : K p) : PF P X M f args K := fun c h F azs st r => by
 obtain ⟨v, e, q⟩ := hg h F azs r
 refine ⟨v, h, ⟨1, fun n hn => ?_⟩, p, [], F, Ext.refl _ _ _, st, q, hk⟩
 cases n with
 | zero => omega
 | succ n =>
  show (match M f azs c h with | some r => lr.call r.1 r.2 | none => jF (ev (cC P) (bW P X) M n) c azs h (bW P X f)) = _
  rw [hM, ht]
  simp only [jF, e]
theorem E1 {G : aZ} {S : aX} {res : List (Nat × Option (Option Nat))} {K : PV → Prop} {r : PV} (k : K r) (a : Cs G S res := by repeat' (first | exact trivial | refine ⟨?_, ?_⟩)) (h : (yh G S res).map Ct = some r := by exact rfl) : (Ex.ret = .normal ∨ Ex.ret = .ret) ∧ Cs G S res ∧ ∃ vs r, yh G S res = some vs ∧ Zf S (Ct vs) r ∧ K r := by
 cases q : yh G S res with
 | none => rw [q] at h; cases h
 | some vs =>
  rw [q] at h
  have e : Ct vs = r := Option.some.inj h
  exact ⟨Or.inr rfl, a, vs, r, rfl, e ▸ .refl _, k⟩
theorem Ak {f : Nat} {args : List PV} {res : List (Nat × Option (Option Nat))} {s : SC} {K : PV → Prop} (ht : bW P X f = some (.fn ⟨nt, res, s.den⟩)) (hM : ∀ azs c h, M f azs c h = none) (hl : args.length ≤ nt) (hnt : nt ≤ 1000000)
    (w : PC P X M nt s (He args 0 []) [] (fun e G S => (e = .normal ∨ e = .ret) ∧ Cs G S res ∧ ∃ vs r, yh G S res = some vs ∧ Zf S (Ct vs) r ∧ K r)) : PF P X M f args K := by
 have w2 := iz (K := fun p S => ∃ r, Zf S p r ∧ K r) ht hM hl hnt (w.mono fun e G S ⟨a4, a5, vs, r, a6, a7, a8⟩ => ⟨a4, a5, vs, a6, r, a7, a8⟩)
 intro c h F azs st r
 refine (w2 c h F azs st r).mono fun v h' ⟨p, S', F', a1, a2, a3, q, z, hk⟩ => ?_
 have hr := z.lay a2 (fun _ _ e => e) v a3
 have hf : ∀ id, nH F' S' id → id < h'.n ∧ seen c.cM id = true := fun id q => by
  rcases q with q | ⟨p, b, e, hb⟩
  ·exact a2.fr id q
  ·obtain ⟨g1, _, g3, _⟩ := a2.own p id b e hb
   exact ⟨g1, g3⟩
 refine ⟨q, [], nH F' S', ⟨a1.le, fun id x => Or.inl (a1.sub id x), a1.same, fun id x => ?_, fun id x => (cj x).elim⟩, St.nil a2.cx (a2.gl.mono fun id x => ⟨Or.inl x, rfl⟩) hf, hr, hk⟩
 rcases x with x | x
 ·exact a1.tf id x
 ·rcases a1.zh id x with y | y
  ·exact Or.inr (Or.inl y)
  ·exact Or.inr (Or.inr y)
end
end Go.Proofs.YtgaihilgffficaaGreatDoor.Ev
