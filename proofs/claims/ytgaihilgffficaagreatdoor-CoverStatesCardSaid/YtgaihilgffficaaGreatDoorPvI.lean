/- CoverStates, part 22 -/
import Derived.Test.YtgaihilgffficaaGreatDoorPvG
set_option linter.all false
namespace Go.Proofs.YtgaihilgffficaaGreatDoor.Ev
open Go
section
variable [Gb]
def el {α : Type} [Inhabited α] (l : List α) (i : Nat) : α := l.getD i default
def pS (s : List Nat) : List PV := [.str s]
def pI (n : Int) : List PV := [.int .i64 n]
def pL {α : Type} [Inhabited α] (e : Nat) (f : α → List PV) (l : List α) : PV := .tr e l.length fun i => f (el l i)
def oL {α : Type} (p : Nat) (bp : Option Nat) (e : Nat) (l : List α) : PV := .own p bp l.length e
def aL {α : Type} [Inhabited α] (e : Nat) (f : α → List PV) (l : List α) : PB := .arr e l.length fun i => f (el l i)
theorem b8 {α : Type} [Inhabited α] {l : List α} {i : Nat} (h : i < l.length) : el l i ∈ l := by simp [el, h]
theorem cQ {α β : Type} [Inhabited α] [Inhabited β] {l : List α} {f : α → β} {i : Nat} (h : i < l.length) : el (l.map f) i = f (el l i) := by simp [el, h]
theorem iw {α : Type} [Inhabited α] {l m : List α} {i : Nat} : el (l ++ m) i = if i < l.length then el l i else el m (i - l.length) := by
 unfold el
 by_cases h : i < l.length
 ·simp [h, List.getElem?_append_left h]
 ·simp [h, List.getElem?_append_right (Nat.le_of_not_lt h)]
theorem J1 {α : Type} [Inhabited α] {l : List α} {n i : Nat} : el (l.drop n) i = el l (n + i) := by simp [el]
theorem fg {α : Type} [Inhabited α] {l : List α} {n i : Nat} (h : i < n) : el (l.take n) i = el l i := by simp [el, List.getElem?_take, h]
theorem dn {α : Type} [Inhabited α] {l : List α} {x : α} (h : x ∈ l) : ∃ i, i < l.length ∧ el l i = x := by
 obtain ⟨i, hi, e⟩ := List.mem_iff_getElem.1 h
 exact ⟨i, hi, by simp [el, hi, e]⟩
theorem Zf.eq {S : aX} {p q : PV} (e : p = q) : Zf S p q := e ▸ .refl p
theorem fx {S : aX} {α : Type} [Inhabited α] {p e : Nat} {bp : Option Nat} {f : α → List PV} {l : List α} (h : aI S p = some (bp, aL e f l) := by exact rfl) : Zf S (oL p bp e l) (pL e f l) := .own _ _ _ _ _ _ _ h (Nat.le_refl _) fun i _ => c5.refl _
def LO (S S' : aX) : Prop := ∀ p id d, aI S' p = some (some id, d) → ∃ b, aI S p = some (some id, b) ∧ wN b d
theorem LO.lay {c : C} {h : H} {F : Nat → Prop} {S S' : aX} (z : LO S S') (s : St c h F S) : St c h F S' ∧ Ext h F S h F S' := by
 refine ⟨⟨s.cx, s.gl, s.fr, fun p id d e hd => ?_, fun p q id b d e1 e2 hb hd => ?_⟩, Nat.le_refl _, fun _ q => q, fun _ _ _ => rfl, fun _ q => Or.inl q, fun id ⟨p, d, e, hd⟩ => ?_⟩
 ·obtain ⟨b, e1, cv⟩ := z p id d e
  obtain ⟨g1, g2, g3, g4, ab, g5, g6⟩ := s.own p id b e1 (cv.dead hd)
  exact ⟨g1, g2, g3, g4, ab, g5, cv.lay s g6⟩
 ·obtain ⟨b1, f1, c1⟩ := z p id b e1
  obtain ⟨b2, f2, c2⟩ := z q id d e2
  exact s.inj p q id b1 b2 f1 f2 (c1.dead hb) (c2.dead hd)
 ·obtain ⟨b, e1, cv⟩ := z p id d e
  exact Or.inr ⟨p, b, e1, cv.dead hd⟩
section
variable {P : Program} {X : dg} {M : Mf} {d : Nat} {G : aZ} {S : aX} {K : PV → aX → Prop} {op : SO}
theorem PO.QI (w : PO P X M d op G S fun p S1 => ∃ p2 S2, Cv p p2 ∧ LO S1 S2 ∧ K p2 S2) : PO P X M d op G S K := ⟨fun c h F env s r => (w.run c h F env s r).mono fun v h' ⟨p, S', F', a1, a2, a3, p2, S2, z1, z2, hk⟩ => by
 obtain ⟨s2, x2⟩ := z2.lay a2
 exact ⟨p2, S2, F', a1.trans x2, s2, z1.cv a2 a3, hk⟩⟩
theorem BS {p : Nat} {bp : Option Nat} {b d : PB} (z : wN b d) : LO ((p, bp, b) :: S) ((p, bp, d) :: S) := fun q id b' e => by
 rw [aw] at e ⊢
 by_cases h : p = q
 ·rw [if_pos h] at e ⊢
  cases e; exact ⟨b, rfl, z⟩
 ·rw [if_neg h] at e ⊢
  exact ⟨b', e, .refl _⟩
theorem LP {α : Type} [Inhabited α] {e : Nat} {f : α → List PV} {l m : List α} {r : Nat → List PV} (h : ∀ i, i < m.length → r i = f (el m i)) : wN (.arr e (l.length + m.length) (lL l.length (fun i => f (el l i)) r)) (aL e f (l ++ m)) := by
 unfold aL
 rw [List.length_append]
 refine .arr _ _ _ _ _ (by simp) fun i hi => c5.of_eq ?_
 unfold lL
 rw [iw]
 by_cases x : i < l.length
 ·rw [if_pos x, if_pos x]
 ·rw [if_neg x, if_neg x]; exact h _ om
theorem mI {α : Type} [Inhabited α] {e by_ : Nat} {f : α → List PV} {l m : List α} {s x : XV} {t v : PV} {p : Nat} {r2 : Nat → List PV} (hk : ∀ bp, K (oL p bp e (l ++ m)) ((p, bp, aL e f (l ++ m)) :: S)) (hs : ca G s = some t) (hx : ca G x = some v) (ht : Rb S e d t p l.length (fun i => f (el l i))) (hv : Src S e v m.length r2) (hr : ∀ i, i < m.length → r2 i = f (el m i)) (ho : ∀ y, PV.cw (f y) = true) (hb : (l.length + m.length) * by_ ≤ 140737488355328) (hby : 0 < by_ := by decide) : PO P X M d (.append e by_ s x) G S K := by
 refine PO.QI (gI (fun bp _ => ⟨_, _, Zf.eq ?_, BS (LP hr), hk bp⟩) hs hx ht hv (fun i hi => by rw [hr i hi]; exact ho _) hb hby)
 unfold oL
 rw [List.length_append]
theorem fi {α : Type} [Inhabited α] {e by_ : Nat} {f : α → List PV} {l : List α} (y : α) {s x : XV} {p q id : Nat} {bp : Option Nat} {r : Nat → List PV} (hk : ∀ bp, K (oL p bp e (l ++ [y])) ((p, bp, aL e f (l ++ [y])) :: S)) (hs : ca G s = some (oL p bp e l) := by exact rfl) (hx : ca G x = some (.own q (some id) 1 e) := by exact rfl) (hS : aI S p = some (bp, aL e f l) := by exact rfl) (hX : aI S q = some (some id, .arr e 1 r) := by exact rfl) (hr : r 0 = f y := by exact rfl) (ho : ∀ y, PV.cw (f y) = true := by exact fun _ => rfl) (hb : (l.length + 1) * by_ ≤ 140737488355328 := by omega) (hby : 0 < by_ := by decide) : PO P X M d (.append e by_ s x) G S K :=
 mI hk hs hx (.own _ _ _ _ _ hS (Nat.le_refl _)) (.own _ _ _ _ _ hX (Nat.le_refl _)) (fun i hi => by
  have : i = 0 := by simpa using hi
  subst this; exact hr) ho hb hby
theorem ti {α : Type} [Inhabited α] {e by_ : Nat} {f : α → List PV} (y : α) {s x : XV} {q id : Nat} {r : Nat → List PV} (hk : ∀ bp, K (oL d bp e [y]) ((d, bp, aL e f [y]) :: S)) (hs : ca G s = some .aO := by exact rfl) (hx : ca G x = some (.own q (some id) 1 e) := by exact rfl) (hX : aI S q = some (some id, .arr e 1 r) := by exact rfl) (hr : r 0 = f y := by exact rfl) (ho : ∀ y, PV.cw (f y) = true := by exact fun _ => rfl) (hb : by_ ≤ 140737488355328 := by decide) (hby : 0 < by_ := by decide) : PO P X M d (.append e by_ s x) G S K :=
 mI (l := []) (m := [y]) hk hs hx (.aO _) (.own _ _ _ _ _ hX (Nat.le_refl _)) (fun i hi => by
  have : i = 0 := by simpa using hi
  subst this; exact hr) ho (by show (0 + 1) * by_ ≤ _; omega) hby
theorem x7 {α : Type} [Inhabited α] {e by_ : Nat} {f : α → List PV} {l m : List α} {s x : XV} {p : Nat} {bp : Option Nat} (hk : ∀ bp, K (oL p bp e (l ++ m)) ((p, bp, aL e f (l ++ m)) :: S)) (hs : ca G s = some (oL p bp e l) := by exact rfl) (hx : ca G x = some (pL e f m) := by exact rfl) (hS : aI S p = some (bp, aL e f l) := by exact rfl) (ho : ∀ y, PV.cw (f y) = true := by exact fun _ => rfl) (hb : (l.length + m.length) * by_ ≤ 140737488355328 := by omega) (hby : 0 < by_ := by decide) : PO P X M d (.append e by_ s x) G S K :=
 mI hk hs hx (.own _ _ _ _ _ hS (Nat.le_refl _)) (.tr _ _) (fun i _ => rfl) ho hb hby
theorem tM {α : Type} [Inhabited α] {K0 : PV → Prop} {x : XV} {p id i off e : Nat} {f : α → List PV} {l : List α} {v : PV} (hk : K0 v) (hx : ca G x = some (.ib p id i off e) := by exact rfl) (hS : aI S p = some (some id, aL e f l) := by exact rfl) (hv : qt (f (el l i)) off = some v := by exact rfl) (hi : i < l.length := by omega) : wM P X M (.aB x) G S K0 := aT hk hx hS hv hi
theorem gS {f : XV} {args : List XV} {g : Nat} {caps vs ws ws' : List PV} (w : PF P X M g ws' fun r => r.flat = true ∧ K r S) (hf : ca G f = some (.fn g caps) := by exact rfl) (ha : zg G args = some vs := by exact rfl) (hw : vs ++ caps = ws := by exact rfl) (hz : c5 S ws ws' := by repeat (first | exact .nil | refine .cons _ _ _ _ (by first | exact fx | exact .refl _) ?_)) : PO P X M d (.call f args) G S K := aq (ij hz w) hf ha hw
end
end
section
variable [Gb] {P : Program} {X : dg} {M : Mf} {d : Nat} {G : aZ} {S : aX}
theorem J4 {neg : Bool} {x : XV} {e n : Nat} {rows : Nat → List PV} {K0 : PV → Prop} (ht : n = 0 → K0 (.bool (!neg))) (hf : K0 (.bool neg)) (hx : ca G x = some (.tr e n rows) := by exact rfl) : kG P X M (.M1 neg x) G K0 := ⟨fun c h F env r K' k => by
 obtain ⟨a, e1, q⟩ := r.ev hx
 cases q with
 | wD e rows av q =>
  rcases q with rfl | ⟨oa, cp, rfl⟩ | ⟨id, off, cap, vs, rfl, _⟩
  ·exact bq (fun sl hs call k' => by simp only [SO.den, pY, hs.ev e1]) (k _ _ (.bool _) (ht rfl))
  ·cases oa with
   | none => exact bq (fun sl hs call k' => by simp only [SO.den, pY, hs.ev e1]) (k _ _ (.bool _) (ht rfl))
   | some oa => exact bq (fun sl hs call k' => by simp only [SO.den, pY, hs.ev e1]) (k _ _ (.bool _) hf)
  ·exact bq (fun sl hs call k' => by simp only [SO.den, pY, hs.ev e1]) (k _ _ (.bool _) hf)
 | tr _ _ _ id off cap vs h0 h1 h2 h3 h4 h5 => exact bq (fun sl hs call k' => by simp only [SO.den, pY, hs.ev e1]) (k _ _ (.bool _) hf)⟩
end
section
variable [Gb]
inductive wR (Z : aX) : PB → PB → Prop
 | refl (b : PB) : wR Z b b
 | cells (ps qs : List PV) : c5 Z ps qs → wR Z (.cells ps) (.cells qs)
 | arr (e n m : Nat) (r1 r2 : Nat → List PV) : m ≤ n → (∀ i, i < m → c5 Z (r1 i) (r2 i)) → wR Z (.arr e n r1) (.arr e m r2)
theorem wR.lay {Z S : aX} {c : C} {h : H} {F : Nat → Prop} (st : St c h F S) (hS : ∀ q x, aI Z q = some x → aI S q = some x) {b d : PB} (z : wR Z b d) {ab : AB} (r : RB h F b ab) : RB h (nH F Z) d ab := by
 cases z with
 | refl => exact r.mono fun id q => ⟨Or.inl q, rfl⟩
 | cells ps qs z => cases r with | cells _ azs q => exact .cells _ _ (z.lay st hS q)
 | arr e n m r1 r2 hm z =>
  cases r with
  | arr _ _ _ azs q1 q2 q3 => exact .arr _ _ _ _ (Nat.le_trans (Nat.mul_le_mul_right e hm) q1) (fun i hi => by rw [(z i hi).len]; exact q2 i om) fun i hi => (z i hi).lay st hS (q3 i om)
theorem wR.dead {Z : aX} {b d : PB} (z : wR Z b d) (h : d ≠ .dead) : b ≠ .dead := by
 cases z <;> first | exact h | (intro q; cases q)
structure ZS (Z : aX) (r : Nat → Nat) (S S' : aX) : Prop where
 sub : ∀ q x, aI Z q = some x → aI S q = some x
 get : ∀ p id d, aI S' p = some (some id, d) → d ≠ .dead → aI Z (r p) = none ∧ ∃ b, aI S (r p) = some (some id, b) ∧ wR Z b d
 inj : ∀ p q id b d, aI S' p = some (some id, b) → aI S' q = some (some id, d) → b ≠ .dead → d ≠ .dead → r p = r q → p = q
theorem ZS.lay {Z S S' : aX} {r : Nat → Nat} (z : ZS Z r S S') {c : C} {h : H} {F : Nat → Prop} (s : St c h F S) : St c h (nH F Z) S' ∧ Ext h F S h (nH F Z) S' := by
 refine ⟨⟨s.cx, s.gl.mono fun id q => ⟨Or.inl q, rfl⟩, fun id q => ?_, fun p id d e hd => ?_, fun p q id b d e1 e2 hb hd => ?_⟩, Nat.le_refl _, fun _ q => Or.inl q, fun _ _ _ => rfl, fun id q => ?_, fun id ⟨p, d, e, hd⟩ => ?_⟩
 ·rcases q with q | ⟨p, b, e, hb⟩
  ·exact s.fr id q
  ·obtain ⟨g1, _, g3, _⟩ := s.own p id b (z.sub _ _ e) hb
   exact ⟨g1, g3⟩
 ·obtain ⟨hz, b, e1, zb⟩ := z.get p id d e hd
  obtain ⟨g1, g2, g3, g4, ab, g5, g6⟩ := s.own _ id b e1 (zb.dead hd)
  refine ⟨g1, g2, g3, fun q => ?_, ab, g5, zb.lay s z.sub g6⟩
  rcases q with q | ⟨p', b', e', hb'⟩
  ·exact g4 q
  ·have := s.inj p' _ id b' b (z.sub _ _ e') e1 hb' (zb.dead hd)
   subst this
   rw [hz] at e'; cases e'
 ·obtain ⟨_, b1, f1, c1⟩ := z.get p id b e1 hb
  obtain ⟨_, b2, f2, c2⟩ := z.get q id d e2 hd
  exact z.inj p q id b d e1 e2 hb hd (s.inj _ _ id b1 b2 f1 f2 (c1.dead hb) (c2.dead hd))
 ·rcases q with q | ⟨p, b, e, hb⟩
  ·exact Or.inl q
  ·exact Or.inr (Or.inr ⟨p, b, z.sub _ _ e, hb⟩)
 ·obtain ⟨_, b, e1, zb⟩ := z.get p id d e hd
  exact Or.inr ⟨_, b, e1, zb.dead hd⟩
inductive kP (Z : aX) (G : aZ) : aZ → Prop
 | nil : kP Z G []
 | cons {t : Nat} {p q : PV} {G' : aZ} : fJ G t = some p → Zf Z p q → kP Z G G' → kP Z G ((t, q) :: G')
theorem kP.get {Z : aX} {G G' : aZ} (s : kP Z G G') : ∀ {t : Nat} {q : PV}, fJ G' t = some q → ∃ p, fJ G t = some p ∧ Zf Z p q := by
 induction s with
 | nil => intro t q e; cases e
 | @cons k p u G' h1 h2 _ ih =>
  intro t q e
  simp only [fJ] at e
  cases hb : Nat.beq k t with
  | true => rw [hb] at e; cases e; rw [← Nat.eq_of_beq_eq_true hb]; exact ⟨p, h1, h2⟩
  | false => rw [hb] at e; exact ih e
inductive DF (S : aX) : aX → Prop
 | nil : DF S []
 | cons {q : Nat} {x : Option Nat × PB} {Z : aX} : aI S q = some x → DF S Z → DF S ((q, x) :: Z)
theorem DF.get {S Z : aX} (z : DF S Z) : ∀ q x, aI Z q = some x → aI S q = some x := by
 induction z with
 | nil => intro q x e; cases e
 | @cons k y Z h1 _ ih =>
  intro q x e
  rw [aw] at e
  by_cases hk : k = q
  ·rw [if_pos hk] at e; cases e; rw [← hk]; exact h1
  ·rw [if_neg hk] at e; exact ih q x e
theorem kP.c {Z : aX} {G G' : aZ} {t : Nat} {q : PV} (hs : kP Z G G') (h : fJ G t = some q := by exact rfl) : kP Z G ((t, q) :: G') := .cons h (.refl _) hs
theorem kP.su {Z : aX} {G G' : aZ} (h : kP Z G G' := by repeat' (first | exact kP.nil | refine kP.cons rfl (.refl _) ?_)) : kP Z G G' := h
inductive sk (Z S : aX) : aX → Prop
 | nil : sk Z S []
 | cons {q : Nat} {bp : Option Nat} {b d : PB} {S' : aX} : aI Z q = none → aI S q = some (bp, b) → wR Z b d → sk Z S S' → sk Z S ((q, bp, d) :: S')
 | vO {q : Nat} {d : PB} {S' : aX} : sk Z S S' → sk Z S ((q, none, d) :: S')
theorem sk.zs {Z S S' : aX} (hz : DF S Z) (s : sk Z S S') : ZS Z (fun p => p) S S' := by
 refine ⟨hz.get, ?_, fun p q _ _ _ _ _ _ _ e => e⟩
 induction s with
 | nil => intro p id d e; cases e
 | @cons k bp b u S' h0 h1 h2 _ ih =>
  intro p id d e hd
  rw [aw] at e
  by_cases hb : k = p
  ·rw [if_pos hb] at e; cases e; rw [← hb]; exact ⟨h0, b, h1, h2⟩
  ·rw [if_neg hb] at e; exact ih p id d e hd
 | @vO k u S' _ ih =>
  intro p id d e hd
  rw [aw] at e
  by_cases hb : k = p
  ·rw [if_pos hb] at e; cases e
  ·rw [if_neg hb] at e; exact ih p id d e hd
section
variable {P : Program} {X : dg} {M : Mf} {nt d : Nat} {G : aZ} {S : aX} {K : PV → aX → Prop}
theorem tn {x : SC} {G' : aZ} {S' Z : aX} {r : Nat → Nat} {Q : Ex → aZ → aX → Prop} (hG : kP Z G G') (hS : ZS Z r S S') (w : PC P X M nt x G' S' Q) : PC P X M nt x G S Q := ⟨fun c h F env s re => by
 obtain ⟨s1, x1⟩ := hS.lay s
 refine (w.run c h _ env s1 ⟨fun t q e => ?_, s1.gl⟩).mono fun e _ h l => l.after x1
 obtain ⟨p, e1, zf⟩ := hG.get e
 obtain ⟨a, e2, r1⟩ := re.at_ t p e1
 exact ⟨a, e2, zf.lay s hS.sub a r1⟩⟩
theorem G9 {x : SC} (Z : aX) (G' : aZ) (S' : aX) {Q : Ex → aZ → aX → Prop} (hz : DF S Z) (hG : kP Z G G') (hS : sk Z S S') (w : PC P X M nt x G' S' Q) : PC P X M nt x G S Q := tn hG (hS.zs hz) w
def c8 (S S' : aX) : Prop := ∀ p id d, aI S' p = some (some id, d) → d ≠ .dead → ∃ b, aI S p = some (some id, b) ∧ wR [] b d
theorem c8.zs {S S' : aX} (h : c8 S S') : ZS [] (fun p => p) S S' := ⟨fun q x e => (by cases e), fun p id d e hd => ⟨rfl, h p id d e hd⟩, fun p q _ _ _ _ _ _ _ e => e⟩
theorem c8.refl (S : aX) : c8 S S := fun p id d e _ => ⟨d, e, .refl _⟩
theorem c8.cons {S : aX} {p : Nat} {bp : Option Nat} {b d : PB} (h : aI S p = some (bp, b)) (z : wR [] b d) : c8 S ((p, bp, d) :: S) := fun q id d' e hd => by
 rw [aw] at e
 by_cases hq : p = q
 ·rw [if_pos hq] at e; cases e; rw [← hq]; exact ⟨b, h, z⟩
 ·rw [if_neg hq] at e; exact ⟨d', e, .refl _⟩
theorem yC {x : SC} {S' : aX} {Q : Ex → aZ → aX → Prop} (h : c8 S S') (w : PC P X M nt x G S' Q) : PC P X M nt x G S Q := ⟨fun c h' F env s re => by
 obtain ⟨s1, x1⟩ := h.zs.lay s
 exact (w.run c h' _ env s1 (re.mono fun id q => ⟨Or.inl q, rfl⟩)).mono fun e _ h l => l.after x1⟩
theorem Hs {x : SC} {S' : aX} {r : Nat → Nat} {Q : Ex → aZ → aX → Prop} (h : ZS [] r S S') (w : PC P X M nt x G S' Q) : PC P X M nt x G S Q := ⟨fun c h' F env s re => by
 obtain ⟨s1, x1⟩ := h.lay s
 exact (w.run c h' _ env s1 (re.mono fun id q => ⟨Or.inl q, rfl⟩)).mono fun e _ h l => l.after x1⟩
theorem uy {f : Nat} {args : List PV} (w : lP P X M f args S fun v S1 => ∃ Z r S2 v2, ZS Z r S1 S2 ∧ Zf Z v v2 ∧ K v2 S2) : lP P X M f args S K := fun c h F azs s r =>
 (w c h F azs s r).mono fun v h' ⟨p, S', F', a1, a2, a3, Z, r2, S2, v2, z1, z2, hk⟩ => by
  obtain ⟨s1, x1⟩ := z1.lay a2
  exact ⟨v2, S2, _, a1.trans x1, s1, z2.lay a2 z1.sub v a3, hk⟩
theorem uz {f : Nat} {args args' : List PV} {Z S' : aX} {r : Nat → Nat} (hz : c5 Z args args') (hS : ZS Z r S S') (w : lP P X M f args' S' K) : lP P X M f args S K := fun c h F azs s q => by
 obtain ⟨s1, x1⟩ := hS.lay s
 exact (w c h _ azs s1 (hz.lay s hS.sub q)).mono fun v h' ⟨p, S2, F', a1, a2, a3, hk⟩ => ⟨p, S2, F', x1.trans a1, a2, a3, hk⟩
def OT {ι : Type} (Gf : ι → aZ) (Sf : ι → aX) (I : ι → Prop) (μ : ι → Nat) (i : ι) (Q : Ex → aZ → aX → Prop) : Ex → aZ → aX → Prop := fun e G S => match e with
 | .normal => ∃ j, μ j < μ i ∧ I j ∧ ∃ Z r, kP Z G (Gf j) ∧ ZS Z r S (Sf j)
 | e => Q e G S
theorem iY {ι : Type} {b : SC} {Q : Ex → aZ → aX → Prop} (Gf : ι → aZ) (Sf : ι → aX) (I : ι → Prop) (μ : ι → Nat) (i0 : ι) (h0 : I i0) (Z : aX) (r : Nat → Nat) (hG : kP Z G (Gf i0)) (hS : ZS Z r S (Sf i0)) (step : ∀ i, I i → PC P X M nt b (Gf i) (Sf i) (OT Gf Sf I μ i Q)) : PC P X M nt (.loop b) G S Q := by
 refine tn hG hS ⟨?_⟩
 intro c h F env s r
 suffices key : ∀ n i, μ i = n → I i → ∀ h F env, St c h F (Sf i) → RE h F (Gf i) env → WC P X M c nt (.loop b) env h (fun e env' h' => Leaves c h F (Sf i) env' h' (Q e)) from key _ i0 rfl h0 h F env s r
 intro n
 induction n using Nat.strongRecOn with
 | ind n ih =>
  intro i hn hi h F env s r
  have w := (step i hi).run c h F env s r
  refine .mk fun sl hs => ?_
  obtain ⟨e, sl1, h1, env1, ⟨N, hN⟩, hs1, G1, S1, F1, a1, a2, a3, a4⟩ := w.run sl hs
  cases e with
  | normal =>
   obtain ⟨j, hj, hI, Z, ρ, sg, ss⟩ := a4
   obtain ⟨s2, x2⟩ := ss.lay a2
   have r2 : RE h1 (nH F1 Z) (Gf j) env1 := ⟨fun t q e => by
    obtain ⟨p, e1, zf⟩ := sg.get e
    obtain ⟨a, e2, r1⟩ := a3.at_ t p e1
    exact ⟨a, e2, zf.lay a2 ss.sub a r1⟩, s2.gl⟩
   have w2 := ih (μ j) om j rfl hI h1 _ env1 s2 r2
   obtain ⟨e2, sl2, h2, env2, ⟨N2, hN2⟩, hs2, q2⟩ := w2.run sl1 hs1
   refine ⟨e2, sl2, h2, env2, ⟨N + N2 + 1, fun n hn rd ds => ?_⟩, hs2, (q2.after x2).after a1⟩
   cases n with
   | zero => omega
   | succ n =>
    show dT _ c nt rd (.loop b.den) (ev (cC P) (bW P X) M n c (.code nt rd b.den sl ds) h) = _
    rw [hN n (by omega) rd ds]
    exact hN2 n om rd ds
  | exit id =>
   refine ⟨.exit id, sl1, h1, env1, ⟨N + 1, fun n hn rd ds => ?_⟩, hs1, ⟨G1, S1, F1, a1, a2, a3, a4⟩⟩
   cases n with
   | zero => omega
   | succ n =>
    show dT _ c nt rd (.loop b.den) (ev (cC P) (bW P X) M n c (.code nt rd b.den sl ds) h) = _
    rw [hN n (by omega) rd ds]; rfl
  | ret =>
   refine ⟨.ret, sl1, h1, env1, ⟨N + 1, fun n hn rd ds => ?_⟩, hs1, ⟨G1, S1, F1, a1, a2, a3, a4⟩⟩
   cases n with
   | zero => omega
   | succ n =>
    show dT _ c nt rd (.loop b.den) (ev (cC P) (bW P X) M n c (.code nt rd b.den sl ds) h) = _
    rw [hN n (by omega) rd ds]; rfl
theorem dS : ∀ (L S : aX) (p : Nat), aI (L ++ S) p = match aI L p with
    | some x => some x
    | none => aI S p
 | [], S, p => rfl
 | (k, v) :: L, S, p => by
  rw [List.cons_append, aw, aw]
  by_cases hk : k = p
  ·rw [if_pos hk, if_pos hk]
  ·rw [if_neg hk, if_neg hk]; exact dS L S p
def ig (S : aX) : Prop := ∀ p, p < 1000 → aI S p = none
theorem Jm {f : Nat} {args : List PV} {L S0 : aX} {K0 : PV → aX → Prop} (hL : ∀ p x, aI L p = some x → p < 1000) (h0 : ig S0) (w : lP P X M f args S0 fun v S' => ig S' ∧ K0 v S') (hk : ∀ v S1, K0 v S1 → K v (L ++ S1)) : lP P X M f args (L ++ S0) K := fun c h F azs s r => by
 have inL : ∀ {S : aX}, ig S → ∀ p x, aI (L ++ S) p = some x → (p < 1000 ∧ aI L p = some x) ∨ (¬ p < 1000 ∧ aI S p = some x) := fun {S} hS p x e => by
  rw [dS] at e
  cases hl : aI L p with
  | some y => rw [hl] at e; cases e; exact Or.inl ⟨hL p _ hl, rfl⟩
  | none =>
   rw [hl] at e
   refine Or.inr ⟨fun q => ?_, e⟩
   have := hS p q
   simp only at e
   rw [this] at e; cases e
 have toL : ∀ {S : aX}, ig S → ∀ p x, aI S p = some x → aI (L ++ S) p = some x := fun {S} hS p x e => by
  have hp : ¬ p < 1000 := fun q => by rw [hS p q] at e; cases e
  have : aI L p = none := by
   cases hl : aI L p with
   | none => rfl
   | some y => exact absurd (hL p y hl) hp
  rw [dS, this]; exact e
 have ofL : ∀ {S : aX}, ∀ p x, aI L p = some x → aI (L ++ S) p = some x := fun {S} p x e => by rw [dS, e]
 have s0 : St c h F S0 := ⟨s.cx, s.gl, s.fr, fun p id b e hb => s.own p id b (toL h0 _ _ e) hb, fun p q id b d e1 e2 => s.inj p q id b d (toL h0 _ _ e1) (toL h0 _ _ e2)⟩
 have apart : ∀ p id b, aI L p = some (some id, b) → b ≠ .dead → ¬ Live S0 id := fun p id b e hb ⟨q, d, e2, hd⟩ => by
  have h1 := s.inj p q id b d (ofL _ _ e) (toL h0 _ _ e2) hb hd
  subst h1
  have := hL _ _ e
  rw [h0 _ this] at e2; cases e2
 refine (w c h F azs s0 r).mono fun v h' ⟨p, S1, F', a1, a2, a3, l1, a4⟩ => ⟨p, L ++ S1, F', ⟨a1.le, a1.sub, fun id bV hl => a1.same id bV fun ⟨q, b, e, hb⟩ => hl ⟨q, b, toL h0 _ _ e, hb⟩, fun id q => ?_, fun id ⟨q, b, e, hb⟩ => ?_⟩, ⟨a2.cx, a2.gl, a2.fr, fun q id b e hb => ?_, fun q1 q2 id b d e1 e2 hb hd => ?_⟩, a3, hk _ _ a4⟩
 ·rcases a1.tf id q with y | y | ⟨q, b, e, hb⟩
  ·exact Or.inl y
  ·exact Or.inr (Or.inl y)
  ·exact Or.inr (Or.inr ⟨q, b, toL h0 _ _ e, hb⟩)
 ·rcases inL l1 _ _ e with ⟨_, y⟩ | ⟨_, y⟩
  ·exact Or.inr ⟨q, b, ofL _ _ y, hb⟩
  ·rcases a1.zh id ⟨q, b, y, hb⟩ with z | ⟨q2, b2, z, hb2⟩
   ·exact Or.inl z
   ·exact Or.inr ⟨q2, b2, toL h0 _ _ z, hb2⟩
 ·rcases inL l1 _ _ e with ⟨_, y⟩ | ⟨_, y⟩
  ·obtain ⟨g1, g2, g3, g4, ab, g5, g6⟩ := s.own q id b (ofL _ _ y) hb
   have hap := apart q id b y hb
   refine ⟨Nat.lt_of_lt_of_le g1 a1.le, g2, g3, fun z => ?_, ab, (a1.same id g1 hap).trans g5, g6.mono fun i z => s0.jT a1 i z⟩
   rcases a1.tf id z with z | z | z
   ·exact g4 z
   ·omega
   ·exact hap z
  ·exact a2.own q id b y hb
 ·have mix : ∀ q1 q2 b d, aI L q1 = some (some id, b) → aI S1 q2 = some (some id, d) → b ≠ .dead → d ≠ .dead → False := fun q1 q2 b d e1 e2 hb hd => by
    rcases a1.zh id ⟨q2, d, e2, hd⟩ with z | z
    ·have := (s.own q1 id b (ofL _ _ e1) hb).1; omega
    ·exact apart q1 id b e1 hb z
  rcases inL l1 _ _ e1 with ⟨_, y1⟩ | ⟨_, y1⟩ <;> rcases inL l1 _ _ e2 with ⟨_, y2⟩ | ⟨_, y2⟩
  ·exact s.inj q1 q2 id b d (ofL _ _ y1) (ofL _ _ y2) hb hd
  ·exact (mix _ _ _ _ y1 y2 hb hd).elim
  ·exact (mix _ _ _ _ y2 y1 hd hb).elim
  ·exact a2.inj q1 q2 id b d y1 y2 hb hd
theorem J8 {S S2 : aX} {a b : Nat} (ha : a < 1000) (hb : ¬ b < 1000) (hl : ig S2) (hg : ∀ p, ¬ p < 1000 → p ≠ b → ∀ id d, aI S2 p = some (some id, d) → d ≠ .dead → ∃ b', aI S p = some (some id, b') ∧ wR [] b' d) (hm : ∀ id d, aI S2 b = some (some id, d) → d ≠ .dead → ∃ b', aI S a = some (some id, b') ∧ wR [] b' d) : ZS [] (fun p => if p = b then a else p) S S2 := by
 have hi : ∀ p x, aI S2 p = some x → ¬ p < 1000 := fun p x e q => by rw [hl p q] at e; cases e
 refine ⟨fun q x e => (by cases e), fun p id d e hd => ⟨rfl, ?_⟩, fun p q id c d e1 e2 _ _ e => ?_⟩
 ·by_cases hp : p = b
  ·subst hp; rw [if_pos rfl]; exact hm id d e hd
  ·rw [if_neg hp]; exact hg p (hi _ _ e) hp id d e hd
 ·have h1 := hi _ _ e1
  have h2 := hi _ _ e2
  by_cases hp : p = b <;> by_cases hq : q = b
  ·rw [hp, hq]
  ·rw [if_pos hp, if_neg hq] at e; omega
  ·rw [if_neg hp, if_pos hq] at e; omega
  ·rw [if_neg hp, if_neg hq] at e; exact e
theorem Mi {S S2 : aX} {a b : Nat} (ha : ∀ id d, aI S2 a = some (some id, d) → d = .dead) (hg : ∀ p, p ≠ b → ∀ id d, aI S2 p = some (some id, d) → d ≠ .dead → ∃ b', aI S p = some (some id, b') ∧ wR [] b' d) (hm : ∀ id d, aI S2 b = some (some id, d) → d ≠ .dead → ∃ b', aI S a = some (some id, b') ∧ wR [] b' d) : ZS [] (fun p => if p = b then a else p) S S2 := by
 refine ⟨fun q x e => (by cases e), fun p id d e hd => ⟨rfl, ?_⟩, fun p q id c d e1 e2 hc hd e => ?_⟩
 ·by_cases hp : p = b
  ·subst hp; rw [if_pos rfl]; exact hm id d e hd
  ·rw [if_neg hp]; exact hg p hp id d e hd
 ·by_cases hp : p = b <;> by_cases hq : q = b
  ·rw [hp, hq]
  ·rw [if_pos hp, if_neg hq] at e; subst e; exact absurd (ha _ _ e2) hd
  ·rw [if_neg hp, if_pos hq] at e; subst e; exact absurd (ha _ _ e1) hc
  ·rw [if_neg hp, if_neg hq] at e; exact e
theorem c8.top {S : aX} {p : Nat} {bp : Option Nat} {b d : PB} (z : wR [] b d) : c8 ((p, bp, b) :: S) ((p, bp, d) :: S) := fun q id d' e hd => by
 rw [aw] at e ⊢
 by_cases hq : p = q
 ·rw [if_pos hq] at e ⊢; cases e; exact ⟨b, rfl, z⟩
 ·rw [if_neg hq] at e ⊢; exact ⟨d', e, .refl _⟩
theorem c8.head {S S' : aX} {p : Nat} {bp : Option Nat} {b d : PB} (h : aI S p = some (bp, b)) (z : wR [] b d) (t : c8 S S') : c8 S ((p, bp, d) :: S') := fun q id d' e hd => by
 rw [aw] at e
 by_cases hq : p = q
 ·rw [if_pos hq] at e; cases e; rw [← hq]; exact ⟨b, h, z⟩
 ·rw [if_neg hq] at e; exact t q id d' e hd
theorem c8.Ff {S S' : aX} {p : Nat} {x : Option Nat × PB} (hl : ig S') (hp : p < 1000) (t : c8 S S') : c8 ((p, x) :: S) S' := fun q id d e hd => by
 have hq : ¬ q < 1000 := fun w => by rw [hl q w] at e; cases e
 rw [aw, if_neg (by omega)]
 exact t q id d e hd
theorem ig.cons {S : aX} {p : Nat} {x : Option Nat × PB} (hl : ig S) (hp : ¬ p < 1000) : ig ((p, x) :: S) := fun q hq => by
 rw [aw, if_neg (by omega)]; exact hl q hq
theorem c8.two {S : aX} {p : Nat} {bp : Option Nat} {b d : PB} {x : Option Nat × PB} (z : wR [] b d) : c8 ((p, bp, b) :: (p, x) :: S) ((p, bp, d) :: S) := fun q id d' e hd => by
 rw [aw] at e ⊢
 by_cases hq : p = q
 ·rw [if_pos hq] at e ⊢; cases e; exact ⟨b, rfl, z⟩
 ·rw [if_neg hq] at e ⊢; rw [aw, if_neg hq]; exact ⟨d', e, .refl _⟩
def Fc (n : Nat) (S : aX) : aX := (S.take n).filter fun e => Nat.blt e.1 1000
def JN (n : Nat) (S : aX) : aX := ((S.take n).filter fun e => !Nat.blt e.1 1000) ++ S.drop n
theorem eE (f : Nat → Bool) (p : Nat) : ∀ (S : aX), aI (S.filter fun e => f e.1) p = if f p = true then aI S p else none
 | [] => by simp [aI]
 | (k, v) :: S => by
  rw [List.filter_cons]
  by_cases hk : f k = true
  ·rw [if_pos hk, aw, aw, eE f p S]
   by_cases hp : k = p
   ·subst hp; rw [if_pos rfl, if_pos rfl, if_pos hk]
   ·rw [if_neg hp, if_neg hp]
  ·rw [if_neg hk, eE f p S, aw]
   by_cases hp : k = p
   ·subst hp; rw [if_neg hk, if_neg hk]
   ·rw [if_neg hp]
theorem Jn {n : Nat} {S : aX} (h : ig (S.drop n)) (p : Nat) : aI (Fc n S ++ JN n S) p = aI S p := by
 have e : aI S p = aI (S.take n ++ S.drop n) p := by rw [List.take_append_drop]
 rw [e]
 unfold Fc JN
 rw [dS, dS, dS, eE (fun k => Nat.blt k 1000) p, eE (fun k => !Nat.blt k 1000) p]
 by_cases hp : Nat.blt p 1000 = true
 ·rw [if_pos hp, if_neg (by rw [hp]; decide)]
 ·rw [if_neg hp, if_pos (by cases hb : Nat.blt p 1000 with
    | true => exact absurd hb hp
    | false => rfl)]
theorem LQ {n : Nat} {S : aX} (p : Nat) (x : Option Nat × PB) (e : aI (Fc n S) p = some x) : p < 1000 := by
 unfold Fc at e
 rw [eE (fun k => Nat.blt k 1000) p] at e
 by_cases hp : Nat.blt p 1000 = true
 ·simpa [Nat.blt_eq] using hp
 ·rw [if_neg hp] at e; cases e
theorem pG {n : Nat} {S : aX} (h : ig (S.drop n)) : ig (JN n S) := fun p hp => by
 unfold JN
 rw [dS, eE (fun k => !Nat.blt k 1000) p, if_neg (by rw [show Nat.blt p 1000 = true by simpa [Nat.blt_eq] using hp]; decide)]
 exact h p hp
theorem ux {n : Nat} {S : aX} (p : Nat) (hp : ¬ p < 1000) : aI (JN n S) p = aI S p := by
 have e : aI S p = aI (S.take n ++ S.drop n) p := by rw [List.take_append_drop]
 rw [e]
 unfold JN
 rw [dS, dS, eE (fun k => !Nat.blt k 1000) p, if_pos (by cases hb : Nat.blt p 1000 with
  | true => exact absurd (by simpa [Nat.blt_eq] using hb) hp
  | false => rfl)]
theorem M8 (n : Nat) {f : Nat} {args : List PV} {K0 : PV → aX → Prop} (h0 : ig (S.drop n)) (w : lP P X M f args (JN n S) fun v S' => ig S' ∧ K0 v S') (hk : ∀ v S1, K0 v S1 → K v (Fc n S ++ S1)) : lP P X M f args S K := by
 refine uz (Z := []) (r := fun p => p) (c5.refl _) ⟨fun q x e => (by cases e), fun p id d e _ => ⟨rfl, d, ?_, .refl _⟩, fun p q _ _ _ _ _ _ _ e => e⟩ (Jm LQ (pG h0) w hk)
 rw [Jn h0] at e; exact e
theorem PH {S S' : aX} (hl : ig S') (h : ∀ p, ¬ p < 1000 → ∀ id d, aI S' p = some (some id, d) → d ≠ .dead → ∃ b, aI S p = some (some id, b) ∧ wR [] b d) : ZS [] (fun p => p) S S' := ⟨fun q x e => (by cases e), fun p id d e hd => ⟨rfl, h p (fun q => by rw [hl p q] at e; cases e) id d e hd⟩, fun p q _ _ _ _ _ _ _ e => e⟩
theorem J5 {α : Type} [Inhabited α] {e by_ : Nat} {f : α → List PV} {m : List α} {s x : XV} {p n : Nat} {bp : Option Nat} {r : Nat → List PV} (hk : ∀ bp, (0 < m.length → ∃ id, bp = some id) → K (oL p bp e m) ((p, bp, aL e f m) :: S)) (hs : ca G s = some (.own p bp 0 e) := by exact rfl) (hx : ca G x = some (pL e f m) := by exact rfl) (hS : aI S p = some (bp, .arr e n r) := by exact rfl) (ho : ∀ y, PV.cw (f y) = true := by exact fun _ => rfl) (hb : m.length * by_ ≤ 140737488355328 := by omega) (hby : 0 < by_ := by decide) : PO P X M d (.append e by_ s x) G S K := by
 refine PO.QI (gI (k := 0) (fun bp ho2 => ⟨_, _, Zf.eq ?_, BS (.arr _ _ _ _ _ (by rw [Nat.zero_add]; exact Nat.le_refl _) fun i hi => c5.of_eq ?_), hk bp (by rw [Nat.zero_add] at ho2; exact ho2)⟩) hs hx (.own _ _ _ _ _ hS (Nat.zero_le _)) (.tr _ _) (fun i _ => ho _) (by rw [Nat.zero_add]; exact hb) hby)
 ·unfold oL; rw [Nat.zero_add]
 ·unfold lL; rw [if_neg (Nat.not_lt_zero _)]; rfl
end
section
variable {P : Program} {X : dg} {M : Mf} {nt d : Nat} {G : aZ} {S : aX} {K0 : PV → Prop}
theorem vA (p : IntKind) (n : Int) (h : H) : ∃ m, ∀ k : dH, yP p n h k = k (.int p m) h := by
 unfold yP
 cases w8 p n with
 | true => exact ⟨n, fun k => by simp only [cond, eh]⟩
 | false => exact ⟨p.wrap n, fun k => rfl⟩
theorem uu {f : SI} {x y : XV} {a b : Int} (hk : ∀ n, K0 (.int .i64 n)) (hf : f = .add ∨ f = .sub ∨ f = .mul := by first | exact Or.inl rfl | exact Or.inr (Or.inl rfl) | exact Or.inr (Or.inr rfl)) (hx : ca G x = some (.int .i64 a) := by exact rfl) (hy : ca G y = some (.int .i64 b) := by exact rfl) : kG P X M (.ints f x y) G K0 := ⟨fun c h F env r K' k => by
 obtain ⟨u, e1, q1⟩ := r.ev hx
 obtain ⟨v, e2, q2⟩ := r.ev hy
 cases q1; cases q2
 rcases hf with rfl | rfl | rfl
 ·obtain ⟨m, hm⟩ := vA .i64 (Int.add a b) h
  exact bq (fun sl hs call k => by simp only [SO.den, SI.den, Ev.ints, hs.ev e1, hs.ev e2, bN, cond, HZ]; exact hm k) (k _ _ (.int _ _) (hk m))
 ·obtain ⟨m, hm⟩ := vA .i64 (Int.sub a b) h
  exact bq (fun sl hs call k => by simp only [SO.den, SI.den, Ev.ints, hs.ev e1, hs.ev e2, bN, cond, H0]; exact hm k) (k _ _ (.int _ _) (hk m))
 ·obtain ⟨m, hm⟩ := vA .i64 (Int.mul a b) h
  exact bq (fun sl hs call k => by simp only [SO.den, SI.den, Ev.ints, hs.ev e1, hs.ev e2, bN, cond, KH]; exact hm k) (k _ _ (.int _ _) (hk m))⟩
theorem SP {i al fm p : Nat} {wr fz b : Bool} {S S0 : aX} {f : XV} {args : List XV} {g : Option (Nat × Bool)} {ops : List SR} {Q : aZ → aX → Prop} {k T : Nat} {caps vs ws : List PV} (w : lP P X M k ws [] fun v S1 => ∃ bp e, S1 = [(T, bp, e)] ∧ PD P X M nt ops (i + 1) (al ||| 1 <<< i) fm wr false S0 ((d, v) :: G) ((T, bp, e) :: S) Q)
    (hg : dM G g = some true := by exact rfl) (hf : ca G f = some (.fn k caps) := by exact rfl) (ha : zg G args = some vs := by exact rfl) (hws : vs ++ caps = ws := by exact rfl) (hp : al ||| p = p := by decide) (hw : wr = false ∨ fm ||| p = p := by first | exact Or.inl rfl | exact Or.inr dc) (hd : Nat.blt d nt = true := by exact rfl) (hnt : nt ≤ 1000000 := by assumption) : PD P X M nt (⟨some d, .call f args, g, p, true, b, none⟩ :: ops) i al fm wr fz S0 G S Q := ⟨fun c n0 h F env rs bs fs di r => by
 obtain ⟨a, e1, q1⟩ := r.ev hf
 obtain ⟨azs, e2, q2⟩ := r.Lt ha
 cases q1 with
 | fn _ _ cs q1 =>
 subst hws
 have hle := di.le
 have hfl : ∀ fl, fl ≤ h.n → WO P X M ⟨fl, (h.n, jf) :: cE p (bD n0 c.cM) rs⟩ (.call f args) env h (fun v h' => ∃ q F' bp e, Ext h F [] h' F' [(T, bp, e)] ∧ (∀ id, F' id → F id ∨ h.n ≤ id ∧ id < h'.n) ∧ R h' F' q v ∧ (∀ id, bp = some id → e ≠ .dead → h.n ≤ id ∧ id < h'.n ∧ ¬ F' id ∧ ∃ ab, h'.get id = some ab ∧ RB h' F' e ab) ∧ PD P X M nt ops (i + 1) (al ||| 1 <<< i) fm wr false S0 ((d, q) :: G) ((T, bp, e) :: S) Q) := fun fl hfl => by
  refine zn e1 e2 ((w _ h F _ (St.nil (Cx.mem hfl) di.st.gl fun id q => ⟨(di.st.fr id q).1, di.all hp (di.st.fr id q).2 (di.st.fr id q).1⟩) (q2.app q1)).mono fun v h' ⟨q, S1, F', a1, a2, a3, bp, e, z, a4⟩ => ?_)
  subst z
  refine ⟨q, F', bp, e, a1, fun id x => ?_, a3, fun id z hd => ?_, a4⟩
  ·rcases a1.tf id x with y | y | y
   ·exact Or.inl y
   ·exact Or.inr ⟨y, (a2.fr id x).1⟩
   ·exact (cj y).elim
  ·subst z
   have hl : aI [(T, some id, e)] T = some (some id, e) := by rw [aw, if_pos rfl]
   obtain ⟨g1, _, _, g4, g5⟩ := a2.own T id e hl hd
   refine ⟨?_, g1, g4, g5⟩
   rcases a1.zh id ⟨T, e, hl, hd⟩ with y | y
   ·exact y
   ·exact (cj y).elim
 have next : ∀ v h', (∃ q F' bp e, Ext h F [] h' F' [(T, bp, e)] ∧ (∀ id, F' id → F id ∨ h.n ≤ id ∧ id < h'.n) ∧ R h' F' q v ∧ (∀ id, bp = some id → e ≠ .dead → h.n ≤ id ∧ id < h'.n ∧ ¬ F' id ∧ ∃ ab, h'.get id = some ab ∧ RB h' F' e ab) ∧ PD P X M nt ops (i + 1) (al ||| 1 <<< i) fm wr false S0 ((d, q) :: G) ((T, bp, e) :: S) Q) → ji p h.t h'.t fs = true ∧ ∀ bs', (bs' = bs ∨ bs' = (i, h.t, h'.t) :: bs) → WD P X M c nt (bD n0 c.cM) ops (i + 1) (gL i h.n h'.n rs) bs' fs ((d, v) :: env) h' (fun env' h' => Leaves c h F S env' h' Q) := fun v h' ⟨q, F2, bp, e, a1, b2, b3, nw, a4⟩ => by
  have same : ∀ id, id < h.n → h'.get id = h.get id := fun id bV => a1.same id bV cj
  refine ⟨kB fun f x => ?_, fun bs' hbs => ?_⟩
  ·rcases hw with y | y
   ·obtain ⟨g1, us, g2⟩ := di.MF y f x
    exact Or.inr ⟨us, g2, (same _ g1).trans g2⟩
   ·rcases di.Gn f x with z | ⟨z, us, g2⟩
    ·exact Or.inl (testBit_or y z)
    ·exact Or.inr ⟨us, g2, (same _ (di.st.fr _ z).1).trans g2⟩
  ·have x2 : Ext h F [] h' F2 [] := ⟨a1.le, a1.sub, a1.same, fun id x => by rcases b2 id x with y | y; exact Or.inl y; exact Or.inr (Or.inl y.1), fun _ x => (cj x).elim⟩
   obtain ⟨s2, x3⟩ := di.st.frame x2 (di.st.cx.mono a1.le) (fun id x => by
    rcases b2 id x with y | y
    ·exact ⟨Nat.lt_of_lt_of_le (di.st.fr id y).1 a1.le, (di.st.fr id y).2⟩
    ·exact ⟨y.2, di.st.cx.cM id y.1⟩)
   have one : ∀ q x, aI ((T, bp, e) :: S) q = some x → (q = T ∧ x = (bp, e)) ∨ (q ≠ T ∧ aI S q = some x) := fun q x e => by
    rw [aw] at e
    by_cases hq : T = q
    ·rw [if_pos hq] at e; cases e; exact Or.inl ⟨hq.symm, rfl⟩
    ·rw [if_neg hq] at e; exact Or.inr ⟨fun w => hq w.symm, e⟩
   have s4 : St c h' F2 ((T, bp, e) :: S) := ⟨s2.cx, s2.gl, s2.fr, fun q id d e hd => by
    rcases one q _ e with ⟨_, y⟩ | ⟨_, y⟩
    ·cases y
     obtain ⟨g1, g2, g3, g4⟩ := nw id rfl hd
     exact ⟨g2, Nat.le_trans di.st.cx.low g1, di.st.cx.cM id g1, g3, g4⟩
    ·exact s2.own q id d y hd, fun r1 r2 id d1 d2 e1 e2 h1 h2 => by
    rcases one r1 _ e1 with ⟨w1, y1⟩ | ⟨_, y1⟩ <;> rcases one r2 _ e2 with ⟨w2, y2⟩ | ⟨_, y2⟩
    ·rw [w1, w2]
    ·cases y1
     have z1 := (nw id rfl h1).1
     have z2 := (di.st.own r2 id d2 y2 h2).1
     omega
    ·cases y2
     have z1 := (nw id rfl h2).1
     have z2 := (di.st.own r1 id d1 y1 h1).1
     omega
    ·exact di.st.inj r1 r2 id d1 d2 y1 y2 h1 h2⟩
   have x4 : Ext h F S h' F2 ((T, bp, e) :: S) := ⟨x3.le, x3.sub, x3.same, x3.tf, fun id ⟨q, d, e, hd⟩ => by
    rcases one q _ e with ⟨_, y⟩ | ⟨_, y⟩
    ·cases y; exact Or.inl (nw id rfl hd).1
    ·exact Or.inr ⟨q, d, y, hd⟩⟩
   have hle' := a1.le
   refine WD.mono (a4.run c n0 h' F2 _ _ _ fs ⟨s4, om, qw hle' di.OJ, fun r q => ?_, fun b q => ?_, fun hw b q id bV => ?_, fun f q => (di.Gn f q).imp id fun ⟨z, vs, e⟩ => ⟨a1.sub _ z, vs, (same _ (di.st.fr _ z).1).trans e⟩, fun hw f q => ?_, fun x => (by cases x), di.jG⟩ ((r.mono fun id q => ⟨a1.sub id q, same id (di.st.fr id q).1⟩).put b3)) fun _ _ l => l.after x4
   ·rcases gr _ q with q | q
    ·exact di.lo r q
    ·subst q; exact hle
   ·rcases hbs with rfl | rfl
    ·rw [Nat.testBit_or, di.JT b q]; rfl
    ·rcases List.mem_cons.1 q with rfl | q
     ·rw [Nat.testBit_or]; simp [Nat.testBit_shiftLeft]
     ·rw [Nat.testBit_or, di.JT b q]; rfl
   ·have e3 := same id om
    have jG : ∀ b ∈ bs, Tr.get b.2.1 id = h'.get id ∧ Tr.get b.2.2 id = h'.get id := fun b q => by
     obtain ⟨e1, e2⟩ := di.Pm hw b q id bV
     rw [e3]; exact ⟨e1, e2⟩
    rcases hbs with rfl | rfl
    ·exact jG b q
    ·rcases List.mem_cons.1 q with rfl | q
     ·exact ⟨e3.symm, rfl⟩
     ·exact jG b q
   ·obtain ⟨e1, us, e2⟩ := di.MF hw f q
    exact ⟨om, us, (same _ e1).trans e2⟩
 cases b with
 | true => exact zo hnt (dE r hg) hd ((hfl c.floor di.st.cx.low).mono fun v h' x => ⟨(next v h' x).1, (next v h' x).2 _ (Or.inr rfl)⟩)
 | false => exact DC hnt (dE r hg) hd ((hfl h.n (Nat.le_refl _)).mono fun v h' x => (next v h' x).2 _ (Or.inl rfl))⟩
theorem wQ {S : aX} {x : XV} {p id i off e n k : Nat} {rows : Nat → List PV} {us : List PV} (hk : K0 (.agg us)) (hx : ca G x = some (.ib p id i off e) := by exact rfl) (hS : aI S p = some (some id, .arr e n rows) := by exact rfl) (hu : off + k ≤ (rows i).length ∧ ((rows i).drop off).take k = us := by exact ⟨dc, rfl⟩) (hi : i < n := by omega) : wM P X M (.ax k x) G S K0 :=
 ld (p := .agg us) (fun h F env r s => by
  obtain ⟨a, e1, q⟩ := r.ev hx
  cases q
  obtain ⟨ab, h2, h3⟩ := s p id _ hS (fun q => by cases q)
  cases h3 with
  | arr _ _ _ azs q1 q2 q3 =>
   have h4 := (q3 i hi).part hu.1
   rw [hu.2, List.length_take, List.length_drop] at h4
   have := Nat.mul_le_mul_right e hi
   rw [Nat.succ_mul] at this
   refine ⟨_, _, _, _, rfl, e1, h2, Or.inr ⟨p, _, hS, fun q => by cases q⟩, fun c h1 K' k => qu e1 h1 h2 om ?_ (k _ (.agg _ _ h4.1))⟩
   rw [List.drop_take, List.take_take, List.drop_drop]
   congr 1
   omega) hk
theorem oA {e : Nat} {x : XV} {lo hi : Option XV} {p n : Nat} {bp : Option Nat} {u : Int} (j : Nat) (hk : K0 (.own p bp j e)) (hx : ca G x = some (.own p bp n e) := by exact rfl) (hl : nG G 0 lo = some 0 := by exact rfl) (hu : nG G n hi = some u := by exact rfl) (hj : u = (j : Int) := by omega) (h1 : j ≤ n := by omega) : kG P X M (.slice e x lo hi) G K0 := by
 subst hj
 exact Gl hk hx hl hu
theorem fB {e : Nat} {x i : XV} {k : IntKind} {z : Int} {p n : Nat} {bp : Option Nat} (j : Nat) (hk : ∀ id, bp = some id → K0 (.ib p id j 0 e)) (hx : ca G x = some (.own p bp n e) := by exact rfl) (hi : ca G i = some (.int k z) := by exact rfl) (hj : z = (j : Int) := by omega) (h1 : j < n := by omega) : kG P X M (.aR e x i) G K0 := by
 subst hj
 exact ef hk hx hi h1
theorem mL {e : Nat} {x i : XV} {k : IntKind} {z : Int} {n : Nat} {rows : Nat → List PV} (j : Nat) (hk : K0 (.fp (rows j) 0)) (hx : ca G x = some (.tr e n rows) := by exact rfl) (hi : ca G i = some (.int k z) := by exact rfl) (hj : z = (j : Int) := by omega) (h1 : j < n := by omega) : kG P X M (.aR e x i) G K0 := by
 subst hj
 exact aC hk hx hi h1
end
end
end Go.Proofs.YtgaihilgffficaaGreatDoor.Ev
