/- CoverStates, part 6 -/
import Derived.Test.YtgaihilgffficaaGreatDoorEvL
set_option linter.all false
namespace Go.Proofs.YtgaihilgffficaaGreatDoor.Ev
open Go
structure TE where
 sl : Tr AV
 h : H
 v : AV
 c : C
 oJ : Bool
 fc : Option Nat
def FV (nt : Nat) (sl : Tr AV) (d : Option Nat) (v : AV) (sl' : Tr AV) : Prop :=
 match d with
 | none => sl' = sl
 | some d => d < nt ∧ sl' = Tr.set depth sl d v
theorem gO {R : Type} {r : R} {nt : Nat} {sl : Tr AV} {d : Option Nat} {v : AV} {k : Tr AV → Option R} (e : rj nt sl d v k = some r) : ∃ sl', FV nt sl d v sl' ∧ k sl' = some r := by
 unfold rj at e
 cases d with
 | none => exact ⟨sl, rfl, e⟩
 | some d =>
  simp only at e
  cases hb : Nat.blt d nt with
  | false => rw [hb] at e; cases e
  | true =>
   rw [hb] at e
   simp only [cond, Tr.kY] at e
   exact ⟨_, ⟨by simpa [Nat.blt_eq] using hb, rfl⟩, e⟩
theorem Ej {id b : Nat} (hb : b ≠ 0) (h : (Nat.blt id b || Nat.beq b 0) = true) : id < b := by
 rcases (Bool.or_eq_true _ _).mp h with q | q
 ·simpa [Nat.blt_eq] using q
 ·exact absurd (Nat.eq_of_beq_eq_true q) hb
theorem Bw {id b : Nat} (h : b = 0 ∨ id < b) : (Nat.blt id b || Nat.beq b 0) = true := by
 rcases h with q | q
 ·subst q; simp
 ·have : Nat.blt id b = true := by simpa [Nat.blt_eq] using q
  rw [this]; rfl
theorem oO {bt : Nat} {base : List (Nat × Nat)} {id : Nat} : ∀ {rs : List (Nat × Nat × Nat)}, seen (cE bt base rs) id = true → seen base id = true ∨ ∃ r ∈ rs, bt.testBit r.1 = true ∧ r.2.1 ≤ id ∧ id < r.2.2
 | [], h => Or.inl h
 | r :: rs, h => by
  unfold cE at h
  cases hb' : (bt.testBit r.1 && Nat.blt 0 r.2.2) with
  | true =>
   rw [hb'] at h
   obtain ⟨hb, hz⟩ := (Bool.and_eq_true _ _).mp hb'
   have hz : 0 < r.2.2 := by simpa [Nat.blt_eq] using hz
   simp only [cond, seen] at h
   cases hc : Nat.ble r.2.1 id with
   | true =>
    rw [hc] at h
    simp only [cond] at h
    exact Or.inr ⟨r, by simp, hb, Nat.le_of_ble_eq_true hc, Ej om h⟩
   | false =>
    rw [hc] at h
    rcases oO (rs := rs) h with x | ⟨q, h1, h2⟩
    ·exact Or.inl x
    ·exact Or.inr ⟨q, by simp [h1], h2⟩
  | false =>
   rw [hb'] at h
   rcases oO (rs := rs) h with x | ⟨q, h1, h2⟩
   ·exact Or.inl x
   ·exact Or.inr ⟨q, by simp [h1], h2⟩
theorem iI {n id : Nat} : ∀ {l : List (Nat × Nat)}, seen (bD n l) id = true → seen l id = true ∧ id < n
 | [], h => by simp [bD, seen] at h
 | r :: rs, h => by
  unfold bD at h
  cases hb : Nat.ble n r.1 with
  | true =>
   rw [hb] at h
   obtain ⟨h1, h2⟩ := iI (l := rs) h
   have h3 := Nat.le_of_ble_eq_true hb
   refine ⟨?_, h2⟩
   unfold seen
   have : Nat.ble r.1 id = false := by
    cases hx : Nat.ble r.1 id with
    | false => rfl
    | true => have := Nat.le_of_ble_eq_true hx; omega
   rw [this]; exact h1
  | false =>
   rw [hb] at h
   simp only [cond] at h
   cases hc' : (Nat.ble r.2 n && Nat.blt 0 r.2) with
   | true =>
    rw [hc'] at h
    obtain ⟨hc, hz⟩ := (Bool.and_eq_true _ _).mp hc'
    have hz : 0 < r.2 := by simpa [Nat.blt_eq] using hz
    simp only [seen] at h ⊢
    cases hd : Nat.ble r.1 id with
    | true =>
     rw [hd] at h
     simp only [cond] at h ⊢
     have h4 := Nat.le_of_ble_eq_true hc
     have h5 : id < r.2 := Ej om h
     exact ⟨h, om⟩
    | false =>
     rw [hd] at h
     exact iI (l := rs) h
   | false =>
    rw [hc'] at h
    have hn : n ≠ 0 := fun q => by subst q; cases hb
    simp only [seen] at h ⊢
    cases hd : Nat.ble r.1 id with
    | true =>
     rw [hd] at h
     simp only [cond] at h ⊢
     have h5 : id < n := Ej hn h
     refine ⟨Bw ?_, h5⟩
     by_cases hz : r.2 = 0
     ·exact Or.inl hz
     ·refine Or.inr ?_
      have h6 : ¬ r.2 ≤ n := fun x => by
       have h7 := Nat.ble_eq_true_of_le x
       have h8 : Nat.blt 0 r.2 = true := by simp [Nat.blt_eq]; omega
       rw [h7, h8] at hc'; cases hc'
      omega
    | false =>
     rw [hd] at h
     exact iI (l := rs) h
theorem gr {i n n' : Nat} {rs : List (Nat × Nat × Nat)} : ∀ q ∈ gL i n n' rs, q ∈ rs ∨ q = (i, n, n') := fun q hq => by
 unfold gL at hq
 cases hb : Nat.beq n n' with
 | true => rw [hb] at hq; exact Or.inl hq
 | false =>
  rw [hb] at hq
  rcases List.mem_cons.1 hq with y | y
  ·exact Or.inr y
  ·exact Or.inl y
structure nE (c : C) (nt : Nat) (base : List (Nat × Nat)) (rs : List (Nat × Nat × Nat)) (bs : List (Nat × Tr AB × Tr AB)) (fs : List (Nat × Nat)) (D : Nat → C → Tr AV → H → AV → H → Prop) (i : Nat) (T : Nat → TE) (j : Nat) (x : XR) : Prop where
 put : FV nt (T j).sl x.dst (T j).v (T (j + 1)).sl
 step : Step (T j).c (T j).h (T (j + 1)).h
 on : dy (T j).sl x.guard = true → D (i + j) (T j).c (T j).sl (T j).h (T j).v (T (j + 1)).h
 off : dy (T j).sl x.guard = false → (T (j + 1)).h = (T j).h ∧ (T j).v = .bO [] ∧ okW (T j).sl x.guard = true
 low : c.floor ≤ (T j).c.floor ∧ (T j).c.floor ≤ (T j).h.n
 quiet : (T j).oJ = false → (T j).c.floor = (T j).h.n
 Mv : (T j).oJ = true → x.oJ = true ∧ x.mem = true
 jG : ∀ id, id < (T j).h.n → seen (T j).c.cM id = true → (T j).fc = some id ∨ x.mem = true
 Ek : ∀ A, (T j).fc = some A → (∀ b ∈ bs, x.bt.testBit b.1 = false → Tr.get b.2.2 A = Tr.get b.2.1 A) ∧ ∀ k, k < j → (T k).oJ = true → x.bt.testBit (i + k) = false → Tr.get (T (k + 1)).h.t A = Tr.get (T k).h.t A
 KY : (T j).oJ = true → (∀ f ∈ fs, x.bt.testBit f.1 = false → Tr.get (T (j + 1)).h.t f.2 = Tr.get (T j).h.t f.2) ∧ ∀ k A, k < j → (T k).fc = some A → x.bt.testBit (i + k) = false → Tr.get (T (j + 1)).h.t A = Tr.get (T j).h.t A
 Dp : ∀ id, seen (T j).c.cM id = true → (T j).h.n ≤ id ∨ seen base id = true ∨ (∃ r ∈ rs, x.bt.testBit r.1 = true ∧ r.2.1 ≤ id ∧ id < r.2.2) ∨ ∃ k, k < j ∧ x.bt.testBit (i + k) = true ∧ (T k).h.n ≤ id ∧ id < (T (k + 1)).h.n
 Bv : ∀ id, (T j).h.n ≤ id → id < (T (j + 1)).h.n → seen (T j).c.cM id = true
def sc (e : TE) (T : Nat → TE) : Nat → TE
 | 0 => e
 | k + 1 => T k
theorem nE.cons {c : C} {nt : Nat} {base : List (Nat × Nat)} {rs rs' : List (Nat × Nat × Nat)} {bs bs' : List (Nat × Tr AB × Tr AB)} {fs fs' : List (Nat × Nat)} {D : Nat → C → Tr AV → H → AV → H → Prop} {i : Nat} {T : Nat → TE} {j : Nat} {x : XR} {e : TE}
    (h : nE c nt base rs' bs' fs' D (i + 1) T j x) (hrs : ∀ r ∈ rs', r ∈ rs ∨ r = (i, e.h.n, (T 0).h.n)) (hbs : ∀ b ∈ bs, b ∈ bs') (hb : e.oJ = true → (i, e.h.t, (T 0).h.t) ∈ bs') (hfs : ∀ f ∈ fs, f ∈ fs') (hf : ∀ A, e.fc = some A → (i, A) ∈ fs') :
    nE c nt base rs bs fs D i (sc e T) (j + 1) x := by
 refine ⟨h.put, h.step, fun hw => ?_, h.off, h.low, h.quiet, h.Mv, h.jG, fun A hA => ⟨fun b hb1 hb2 => (h.Ek A hA).1 b (hbs b hb1) hb2, fun k hk hkb hkp => ?_⟩, fun hbar => ⟨fun f hf1 hf2 => (h.KY hbar).1 f (hfs f hf1) hf2, fun k A hk hkf hkp => ?_⟩, fun id hs => ?_, h.Bv⟩
 ·have := h.on hw
  rw [show i + 1 + j = i + (j + 1) by omega] at this
  exact this
 ·cases k with
  | zero => exact (h.Ek A hA).1 _ (hb hkb) hkp
  | succ k => exact (h.Ek A hA).2 k om hkb (by rw [show i + 1 + k = i + (k + 1) by omega]; exact hkp)
 ·cases k with
  | zero => exact (h.KY hbar).1 _ (hf A hkf) hkp
  | succ k => exact (h.KY hbar).2 k A om hkf (by rw [show i + 1 + k = i + (k + 1) by omega]; exact hkp)
 ·rcases h.Dp id hs with q | q | ⟨r, h1, h2, h3⟩ | ⟨k, h1, h2, h3⟩
  ·exact Or.inl q
  ·exact Or.inr (Or.inl q)
  ·rcases hrs r h1 with y | y
   ·exact Or.inr (Or.inr (Or.inl ⟨r, y, h2, h3⟩))
   ·subst y
    exact Or.inr (Or.inr (Or.inr ⟨0, om, h2, h3⟩))
  ·exact Or.inr (Or.inr (Or.inr ⟨k + 1, om, by rw [show i + (k + 1) = i + 1 + k by omega]; exact h2, h3⟩))
theorem mw {n id : Nat} {l : List (Nat × Nat)} (h : seen ((n, jf) :: l) id = true) : n ≤ id ∨ seen l id = true := by
 simp only [seen] at h
 cases hb : Nat.ble n id with
 | true => exact Or.inl (Nat.le_of_ble_eq_true hb)
 | false => rw [hb] at h; exact Or.inr h
theorem ew {n id : Nat} {l : List (Nat × Nat)} (h1 : n ≤ id) : seen ((n, jf) :: l) id = true := by
 simp only [seen, Nat.ble_eq_true_of_le h1, cond]
 exact Bw (Or.inl rfl)
theorem Bx {a id : Nat} (h : seen [(a, Nat.succ a)] id = true) : id = a := by
 simp only [seen] at h
 cases hb : Nat.ble a id with
 | true =>
  rw [hb] at h
  have h1 := Nat.le_of_ble_eq_true hb
  have h2 : id < Nat.succ a := Ej (by simp) h
  omega
 | false => rw [hb] at h; cases h
theorem nE.first {c : C} {nt : Nat} {base : List (Nat × Nat)} {rs : List (Nat × Nat × Nat)} {bs : List (Nat × Tr AB × Tr AB)} {fs : List (Nat × Nat)} {D : Nat → C → Tr AV → H → AV → H → Prop} {i : Nat} {T : Nat → TE} {x : XR} {sl : Tr AV} {h h' : H} {v : AV} {c' : C} {oJ : Bool} {fc : Option Nat}
    (hD : D i c' sl h v h') (hst : Step c' h h') (hwn : dy sl x.guard = true) (h2 : (T 0).h = h') (hp : FV nt sl x.dst v (T 0).sl) (hlow : c.floor ≤ c'.floor ∧ c'.floor ≤ h.n) (hq : oJ = false → c'.floor = h.n) (hib : oJ = true → x.oJ = true ∧ x.mem = true)
    (hold : ∀ id, id < h.n → seen c'.cM id = true → fc = some id ∨ x.mem = true) (hfB : ∀ A, fc = some A → ∀ b ∈ bs, x.bt.testBit b.1 = false → Tr.get b.2.2 A = Tr.get b.2.1 A) (hbF : oJ = true → ∀ f ∈ fs, x.bt.testBit f.1 = false → Tr.get h'.t f.2 = Tr.get h.t f.2)
    (hs : ∀ id, seen c'.cM id = true → h.n ≤ id ∨ seen base id = true ∨ (∃ r ∈ rs, x.bt.testBit r.1 = true ∧ r.2.1 ≤ id ∧ id < r.2.2)) (hnew : ∀ id, h.n ≤ id → seen c'.cM id = true) :
    nE c nt base rs bs fs D i (sc ⟨sl, h, v, c', oJ, fc⟩ T) 0 x := by
 subst h2
 refine ⟨hp, hst, fun _ => hD, fun q => ?_, hlow, hq, hib, hold, fun A hA => ⟨hfB A hA, fun k hk => absurd hk (Nat.not_lt_zero _)⟩, fun hb => ⟨hbF hb, fun k A hk => absurd hk (Nat.not_lt_zero _)⟩, fun id q => ?_, fun id q1 q2 => hnew id q1⟩
 ·have q' : dy sl x.guard = false := q
  rw [hwn] at q'; cases q'
 ·rcases hs id q with y | y | y
  ·exact Or.inl y
  ·exact Or.inr (Or.inl y)
  ·exact Or.inr (Or.inr (Or.inl y))
theorem qg {c : C} {call : ez} {nt : Nat} {base : List (Nat × Nat)} {D : Nat → C → Tr AV → H → AV → H → Prop} (hD : ∀ j c sl h v h', D j c sl h v h' → Step c h h') :
    ∀ (xs : List XR) (i : Nat) (rs : List (Nat × Nat × Nat)) (bs : List (Nat × Tr AB × Tr AB)) (fs : List (Nat × Nat)) (sl : Tr AV) (h : H) (r : Tr AV × H), WF h → c.floor ≤ h.n →
     (∀ j x, xs[j]? = some x → ∀ c' sl h k r, (x.mem = true → x.fc = none → Ctx c' h) → WF h → x.op c' call sl h k = some r → ∃ v h', k v h' = some r ∧ D (i + j) c' sl h v h') →
     cN c call nt base xs i rs bs fs sl h = some r →
     ∃ T : Nat → TE, (T 0).sl = sl ∧ (T 0).h = h ∧ (T xs.length).sl = r.1 ∧ (T xs.length).h = r.2 ∧ ∀ j x, xs[j]? = some x → nE c nt base rs bs fs D i T j x
 | [], i, rs, bs, fs, sl, h, r, hw, hl, hop, e => by
  simp only [cN, Option.some.injEq] at e
  subst e
  exact ⟨fun _ => ⟨sl, h, .bO [], c, false, none⟩, rfl, rfl, rfl, rfl, fun j x hx => by simp at hx⟩
 | x :: xs, i, rs, bs, fs, sl, h, r, hw, hl, hop, e => by
  have hop' : ∀ j y, xs[j]? = some y → ∀ c' sl h k r, (y.mem = true → y.fc = none → Ctx c' h) → WF h → y.op c' call sl h k = some r → ∃ v h', k v h' = some r ∧ D (i + 1 + j) c' sl h v h' := fun j y hy => by
   have := hop (j + 1) y (by simpa using hy)
   rw [show i + (j + 1) = i + 1 + j by omega] at this
   exact this
  have hop0 : ∀ c' sl h k r, (x.mem = true → x.fc = none → Ctx c' h) → WF h → x.op c' call sl h k = some r → ∃ v h', k v h' = some r ∧ D i c' sl h v h' := hop 0 x (by simp)
  have glue : ∀ (v : AV) (h' : H) (c' : C) (oJ : Bool) (fc : Option Nat) (sl1 : Tr AV) (rs' : List (Nat × Nat × Nat)) (bs' : List (Nat × Tr AB × Tr AB)) (fs' : List (Nat × Nat)), Step c' h h' →
      (∀ T : Nat → TE, (T 0).sl = sl1 → (T 0).h = h' → nE c nt base rs bs fs D i (sc ⟨sl, h, v, c', oJ, fc⟩ T) 0 x) →
      cN c call nt base xs (i + 1) rs' bs' fs' sl1 h' = some r → (∀ q ∈ rs', q ∈ rs ∨ q = (i, h.n, h'.n)) → (∀ b ∈ bs, b ∈ bs') → (oJ = true → (i, h.t, h'.t) ∈ bs') → (∀ f ∈ fs, f ∈ fs') → (∀ A, fc = some A → (i, A) ∈ fs') →
      ∃ T : Nat → TE, (T 0).sl = sl ∧ (T 0).h = h ∧ (T (x :: xs).length).sl = r.1 ∧ (T (x :: xs).length).h = r.2 ∧ ∀ j y, (x :: xs)[j]? = some y → nE c nt base rs bs fs D i T j y := fun v h' c' oJ fc sl1 rs' bs' fs' hst hfirst e hrs hbs hb hfs hf => by
   obtain ⟨T, h1, h2, h3, h4, h5⟩ := qg hD xs (i + 1) rs' bs' fs' sl1 h' r hst.wf (Nat.le_trans hl hst.le) hop' e
   refine ⟨sc ⟨sl, h, v, c', oJ, fc⟩ T, rfl, rfl, h3, h4, fun j y hy => ?_⟩
   cases j with
   | zero => simp at hy; subst hy; exact hfirst T h1 h2
   | succ j => exact (h5 j y (by simpa using hy)).cons (by rw [h2]; exact hrs) hbs (by rw [h2]; exact hb) hfs hf
  unfold cN at e
  cases hwn : dy sl x.guard with
  | false =>
   rw [hwn] at e
   simp only [cond] at e
   cases jt : okW sl x.guard with
   | false => rw [jt] at e; cases e
   | true =>
   rw [jt] at e
   simp only at e
   obtain ⟨sl1, hp, e⟩ := gO e
   refine glue (.bO []) h ⟨h.n, []⟩ false none sl1 rs bs fs (Step.refl hw) (fun T t1 t2 => ?_) e (fun q hq => Or.inl hq) (fun _ hb => hb) (fun q => by cases q) (fun _ hf => hf) (fun A q => by cases q)
   refine ⟨by simp only [sc]; rw [t1]; exact hp, by simp only [sc]; rw [t2]; exact Step.refl hw, fun q => ?_, fun _ => ⟨t2, rfl, jt⟩, ⟨hl, Nat.le_refl _⟩, fun _ => rfl, fun q => (by cases q), fun id _ q => (by simp [sc, seen] at q), fun A q => (by cases q), fun q => (by cases q), fun id q => (by simp [sc, seen] at q), fun id q1 q2 => ?_⟩
   ·have q' : dy sl x.guard = true := q
    rw [hwn] at q'; cases q'
   ·have q1' : h.n ≤ id := q1
    have q2' : id < (T 0).h.n := q2
    rw [t2] at q2'; omega
  | true =>
   rw [hwn] at e
   simp only [cond] at e
   have hvis : ∀ id, seen ((h.n, jf) :: cE x.bt base rs) id = true → h.n ≤ id ∨ seen base id = true ∨ (∃ r ∈ rs, x.bt.testBit r.1 = true ∧ r.2.1 ≤ id ∧ id < r.2.2) := fun id q => by
    rcases mw q with y | y
    ·exact Or.inl y
    ·exact Or.inr (oO y)
   have pure_ : x.op ⟨h.n, [(h.n, jf)]⟩ call sl h (fun v h' => rj nt sl x.dst v fun sl => cN c call nt base xs (i + 1) (gL i h.n h'.n rs) bs fs sl h') = some r → (x.mem = true → x.fc = none → False) →
       ∃ T : Nat → TE, (T 0).sl = sl ∧ (T 0).h = h ∧ (T (x :: xs).length).sl = r.1 ∧ (T (x :: xs).length).h = r.2 ∧ ∀ j y, (x :: xs)[j]? = some y → nE c nt base rs bs fs D i T j y := fun e hmf => by
    obtain ⟨v, h', e, hd⟩ := hop0 _ sl h _ r (fun q1 q2 => (hmf q1 q2).elim) hw e
    have hst := hD _ _ _ _ _ _ hd
    obtain ⟨sl1, hp, e⟩ := gO e
    refine glue v h' _ false none sl1 _ bs fs hst (fun T t1 t2 => ?_) e gr (fun _ hb => hb) (fun q => by cases q) (fun _ hf => hf) (fun A q => by cases q)
    refine nE.first hd hst hwn t2 (by rw [t1]; exact hp) ⟨hl, Nat.le_refl _⟩ (fun _ => rfl) (fun q => by cases q) (fun id h1 h2 => ?_) (fun A q => by cases q) (fun q => by cases q) (fun id q => ?_) (fun id q1 => ew q1)
    ·rcases mw h2 with y | y
     ·omega
     ·cases y
    ·rcases mw q with y | y
     ·exact Or.inl y
     ·cases y
   cases hfo : x.fc with
   | some xf =>
    rw [hfo] at e
    simp only at e
    cases hfi : yS (bR sl xf) with
    | none =>
     rw [hfi] at e
     exact pure_ e (fun _ q => by rw [hfo] at q; cases q)
    | some A =>
     rw [hfi] at e
     simp only at e
     cases hch : (seen ((h.n, jf) :: cE x.bt base rs) A && ml x.bt A bs) with
     | false => rw [hch] at e; cases e
     | true =>
      rw [hch] at e
      rw [Bool.and_eq_true] at hch
      simp only at e
      obtain ⟨v, h', e, hd⟩ := hop0 _ sl h _ r (fun _ q => by rw [hfo] at q; cases q) hw e
      have hst := hD _ _ _ _ _ _ hd
      obtain ⟨sl1, hp, e⟩ := gO e
      refine glue v h' _ false (some A) sl1 _ bs ((i, A) :: fs) hst (fun T t1 t2 => ?_) e gr (fun _ hb => hb) (fun q => by cases q) (fun _ hf => List.mem_cons_of_mem _ hf) (fun A' q => by cases q; exact List.mem_cons_self ..)
      refine nE.first hd hst hwn t2 (by rw [t1]; exact hp) ⟨hl, Nat.le_refl _⟩ (fun _ => rfl) (fun q => by cases q) (fun id h1 h2 => ?_) (fun A' q => by cases q; exact va hch.2) (fun q => by cases q) (fun id q => ?_) (fun id q1 => ew q1)
      ·rcases mw h2 with y | y
       ·omega
       ·exact Or.inl (by rw [Bx y])
      ·rcases mw q with y | y
       ·exact Or.inl y
       ·rw [Bx y]; exact hvis A hch.1
   | none =>
    rw [hfo] at e
    simp only at e
    cases hm : x.mem with
    | false =>
     rw [hm] at e
     exact pure_ e (fun q _ => by rw [hm] at q; cases q)
    | true =>
     rw [hm] at e
     cases hb : x.oJ with
     | true =>
      rw [hb] at e
      simp only at e
      obtain ⟨v, h', e, hd⟩ := hop0 ⟨c.floor, (h.n, jf) :: cE x.bt base rs⟩ sl h _ r (fun _ _ => ⟨hl, fun id q1 => ew q1⟩) hw e
      have hst := hD _ _ _ _ _ _ hd
      cases hun : ji x.bt h.t h'.t fs with
      | false => rw [hun] at e; cases e
      | true =>
       rw [hun] at e
       simp only at e
       obtain ⟨sl1, hp, e⟩ := gO e
       refine glue v h' _ true none sl1 _ ((i, h.t, h'.t) :: bs) fs hst (fun T t1 t2 => ?_) e gr (fun _ hb => List.mem_cons_of_mem _ hb) (fun _ => List.mem_cons_self ..) (fun _ hf => hf) (fun A q => by cases q)
       exact nE.first hd hst hwn t2 (by rw [t1]; exact hp) ⟨Nat.le_refl _, hl⟩ (fun q => by cases q) (fun _ => ⟨hb, hm⟩) (fun id _ _ => Or.inr hm) (fun A q => by cases q) (fun _ => vb hun) hvis (fun id q1 => ew q1)
     | false =>
      rw [hb] at e
      simp only at e
      obtain ⟨v, h', e, hd⟩ := hop0 ⟨h.n, (h.n, jf) :: cE x.bt base rs⟩ sl h _ r (fun _ _ => ⟨Nat.le_refl _, fun id q1 => ew q1⟩) hw e
      have hst := hD _ _ _ _ _ _ hd
      obtain ⟨sl1, hp, e⟩ := gO e
      refine glue v h' _ false none sl1 _ bs fs hst (fun T t1 t2 => ?_) e gr (fun _ hb => hb) (fun q => by cases q) (fun _ hf => hf) (fun A q => by cases q)
      exact nE.first hd hst hwn t2 (by rw [t1]; exact hp) ⟨hl, Nat.le_refl _⟩ (fun _ => rfl) (fun q => by cases q) (fun id _ _ => Or.inr hm) (fun A q => by cases q) (fun q => by cases q) hvis (fun id q1 => ew q1)
/-! the predecessors of an operation -/
theorem xe {acc : Array Nat} {p : Nat} : ∀ (l : List Edge) (s : Nat), (l.foldl (fun s e => if Region.binds .any e then s ||| 2 ^ e.on ||| acc.getD e.on 0 else s) s).testBit p = true →
    s.testBit p = true ∨ ∃ e ∈ l, Region.binds .any e = true ∧ (p = e.on ∨ (acc.getD e.on 0).testBit p = true)
 | [], s, h => Or.inl h
 | e :: l, s, h => by
  rw [List.foldl_cons] at h
  rcases xe l _ h with x | ⟨e', h1, h2⟩
  ·by_cases hb : Region.binds .any e = true
   ·rw [if_pos hb] at x
    rw [Nat.testBit_or, Nat.testBit_or, Bool.or_eq_true, Bool.or_eq_true] at x
    rcases x with (x | x) | x
    ·exact Or.inl x
    ·rw [Nat.testBit_two_pow] at x
     exact Or.inr ⟨e, by simp, hb, Or.inl (by simpa using (of_decide_eq_true x).symm)⟩
    ·exact Or.inr ⟨e, by simp, hb, Or.inr x⟩
   ·rw [if_neg hb] at x; exact Or.inl x
  ·exact Or.inr ⟨e', by simp [h1], h2⟩
def Iy (ops : Array Oper) (A : Array Nat) (j : Nat) : Prop := ∀ p, (A.getD j 0).testBit p = true → ∃ o, ops[j]? = some o ∧ ∃ e ∈ o.after, Region.binds .any e = true ∧ (p = e.on ∨ (A.getD e.on 0).testBit p = true)
theorem my {A : Array Nat} {v i p : Nat} (h : (A.getD i 0).testBit p = true) : ((A.push v).getD i 0).testBit p = true := by
 have hlt : i < A.size := by
  rcases Nat.lt_or_ge i A.size with x | x
  ·exact x
  ·simp [Array.getElem?_eq_none x] at h
 have e : (A.push v).getD i 0 = A.getD i 0 := by simp [Array.getElem?_push, Nat.ne_of_lt hlt]
 rw [e]; exact h
theorem sd {ops : Array Oper} : ∀ (l : List Oper) (acc : Array Nat), (∀ k, l[k]? = ops[acc.size + k]?) → (∀ j, Iy ops acc j) →
    ∀ j, Iy ops (l.foldl (fun acc o => acc.push (o.after.foldl (fun s e => if Region.binds .any e then s ||| 2 ^ e.on ||| acc.getD e.on 0 else s) 0)) acc) j
 | [], acc, _, h => h
 | o :: l, acc, hl, h => by
  rw [List.foldl_cons]
  refine sd l _ (fun k => ?_) (fun j p hp => ?_)
  ·have := hl (k + 1)
   simp only [List.getElem?_cons_succ] at this
   rw [this, Array.size_push]; congr 1; omega
  ·by_cases hj : j = acc.size
   ·subst hj
    have h0 := hl 0
    simp only [List.getElem?_cons_zero, Nat.add_zero] at h0
    have e : (acc.push (o.after.foldl (fun s e => if Region.binds .any e then s ||| 2 ^ e.on ||| acc.getD e.on 0 else s) 0)).getD acc.size 0 = o.after.foldl (fun s e => if Region.binds .any e then s ||| 2 ^ e.on ||| acc.getD e.on 0 else s) 0 := by simp
    rw [e, ← Array.foldl_toList] at hp
    rcases xe _ _ hp with x | ⟨e', h1, h2, h3⟩
    ·simp at x
    ·refine ⟨o, h0.symm, e', by simpa using h1, h2, ?_⟩
     rcases h3 with y | y
     ·exact Or.inl y
     ·exact Or.inr (my y)
   ·have e : (acc.push (o.after.foldl (fun s e => if Region.binds .any e then s ||| 2 ^ e.on ||| acc.getD e.on 0 else s) 0)).getD j 0 = acc.getD j 0 := by
      rcases Nat.lt_or_ge j acc.size with x | x
      ·simp [Array.getElem?_push, hj]
      ·simp [Array.getElem?_push, hj]
    rw [e] at hp
    obtain ⟨o', h1, e', h2, h3, h4⟩ := h j p hp
    refine ⟨o', h1, e', h2, h3, ?_⟩
    rcases h4 with y | y
    ·exact Or.inl y
    ·exact Or.inr (my y)
theorem FW (ops : Array Oper) (j : Nat) : Iy ops (Region.before ops) j := by
 unfold Region.before
 rw [← Array.foldl_toList]
 exact sd ops.toList #[] (by simp) (fun j p hp => by simp at hp) j
section
variable {dr : Prop}
def jV (dr : Prop) (P : Program) (ng : Nat) (call : ez) : Prop := ∀ (f : NN) args c h v h', Ctx c h → WF h → call f args c h = some (v, h') → KX dr P ng f args c h v h'
def FK (dr : Prop) (P : Program) (ng : Nat) : Prop := ∀ (o : Oper) (x : XO), cO P o = some x → ∀ (c : C) (call : ez) (sl : Tr AV) (h : H) (k : dH) (r : Tr AV × H), (kW o = true → Ctx c h) → WF h → jV dr P ng call →
 x c call sl h k = some r → ∃ v h', k v h' = some r ∧ KV dr P ng o c sl h v h'
section
variable {P : Program} {ng : Nat} {c : C} {call : ez} {nt : Nat} {ops : Array Oper}
theorem y7 (p : Nat) (o : Oper) : (∃ xo g, cO P o = some xo ∧ uV ops o.guard = some g ∧ o.op.operands.toList.all (NT P) = true ∧ cR P ops p o = { dst := o.dst, op := xo, guard := g, bt := p, mem := kW o, oJ := false, fc := none }) ∨
    ((cR P ops p o).op = KP ∧ (cR P ops p o).guard = none) := by
 unfold cR
 split
 ·rename_i x g h1 h2 h3
  exact Or.inl ⟨x, g, h1, h2, h3, rfl⟩
 ·exact Or.inr ⟨rfl, rfl⟩
theorem yZ {β : cn} {sl : Tr AV} {a : Act} {ys : List Operand} (hng : P.globals.size ≤ ng) (hgb : GB ng β) (hg : ys.all (NT P) = true) (hsl : ∀ t, Operand.tmp t ∈ ys → VR β (slot sl t) (a.tmps.getD t undef)) : yV β sl a ys := by
 intro y hy x hx
 cases y with
 | tmp t => simp [cV] at hx; subst hx; exact hsl t hy
 | const v =>
  simp only [cV, Option.map_eq_some_iff] at hx
  obtain ⟨z, h1, rfl⟩ := hx
  exact Iw h1
 | global g =>
  simp [cV] at hx; subst hx
  have := List.all_eq_true.1 hg _ hy
  simp only [NT, Nat.blt_eq] at this
  obtain ⟨s, e⟩ := hgb g om
  simp only [bR, Act.eval, VR]
  exact ⟨_, e, rfl⟩
 | func f =>
  simp [cV] at hx; subst hx
  simp only [bR, Act.eval, VR, bE]
  exact ⟨#[], rfl, rfl⟩
theorem K3 {β : cn} {v : AV} {u : Value} (h : VR β v u) (jt : Qh v = true) : (∃ b, v = .bool b ∧ u = .bool b) ∨ ((∀ b, v ≠ .bool b) ∧ ∀ b, u ≠ .bool b) := by
 cases v <;> simp only [VR] at h <;> first
  | (have hok' : false = true := jt; cases hok'; done)
  | (exact Or.inl ⟨_, rfl, h⟩)
  | (subst h; exact Or.inr ⟨fun _ e => (by cases e), fun _ e => (by cases e)⟩)
  | (obtain ⟨_, rfl, _⟩ := h; exact Or.inr ⟨fun _ e => (by cases e), fun _ e => (by cases e)⟩)
  | (obtain ⟨_, _, rfl⟩ := h; exact Or.inr ⟨fun _ e => (by cases e), fun _ e => (by cases e)⟩)
  | (obtain ⟨_, _, rfl, _⟩ := h; exact Or.inr ⟨fun _ e => (by cases e), fun _ e => (by cases e)⟩)
  | (obtain ⟨_, _, _, _, rfl, _⟩ := h; exact Or.inr ⟨fun _ e => (by cases e), fun _ e => (by cases e)⟩)
def IF (ops : Array Oper) (o : Oper) (t : Nat) : Prop := ∃ j w, o.guard = some (j, w) ∧ (ops[j]?).bind (·.dst) = some t
theorem vd {β : cn} {sl : Tr AV} {a : Act} {o : Oper} {g : Option (Nat × Bool)} (hg : uV ops o.guard = some g) (hsl : ∀ t, IF ops o t → VR β (slot sl t) (a.tmps.getD t undef)) (jt : dy sl g = false → okW sl g = true) :
    dy sl g = Region.wanted o (yielded ops a.tmps) := by
 unfold uV at hg
 unfold Region.wanted
 cases ho : o.guard with
 | none => rw [ho] at hg; simp only [Option.some.injEq] at hg; subst hg; rfl
 | some jw =>
  obtain ⟨j, wt⟩ := jw
  rw [ho] at hg
  simp only at hg
  cases hd : (ops[j]?).bind (·.dst) with
  | none => rw [hd] at hg; cases hg
  | some d =>
   rw [hd] at hg
   simp only [Option.some.injEq] at hg
   subst hg
   have hv := hsl d ⟨j, wt, ho, hd⟩
   simp only [dy, yielded, hd, Option.bind_some]
   have hk : Qh (slot sl d) = true := by
    cases hw : dy sl (some (d, wt)) with
    | false => exact jt hw
    | true =>
     unfold dy at hw
     simp only at hw
     cases hs : slot sl d <;> rw [hs] at hw <;> first | rfl | cases hw
   rcases K3 hv hk with ⟨b, e1, e2⟩ | ⟨e1, e2⟩
   ·rw [e1]
    have : a.tmps[d]? = some (.bool b) := by
     rw [Array.getD_eq_getD_getElem?] at e2
     cases hx : a.tmps[d]? with
     | none => rw [hx] at e2; simp [undef] at e2
     | some u => rw [hx] at e2; simp at e2; rw [e2]
    rw [this]
    cases b <;> cases wt <;> rfl
   ·have : (match slot sl d with | .bool b => b == wt | _ => false) = false := by
      split
      ·rename_i b hb; exact absurd hb (e1 b)
      ·rfl
    refine Eq.trans this ?_
    split
    ·rename_i b hb
     exact absurd (by rw [Array.getD_eq_getD_getElem?, hb]; rfl) (e2 b)
    ·cases wt <;> rfl
theorem tu.Qs {nt : Nat} {df : List Deferred} {β : cn} {sl sl' : Tr AV} {a : Act} {d : Option Nat} {v : AV} {u : Value} (h : tu nt df β sl a) (hp : FV nt sl d v sl') (hnt : nt ≤ 1000000) (hv : VR β v u) : tu nt df β sl' (a.put d u) := by
 cases d with
 | none => simp only [FV] at hp; subst hp; exact h
 | some d =>
  obtain ⟨h1, rfl⟩ := hp
  exact h.put h1 hnt hv
theorem qk {β : cn} : VR β (.bO []) undef := by simp [VR, bE, undef]
theorem jH {df : List Deferred} {rd : Option Nat} {m : Nat} (hO : FK dr P ng) (hC : jV dr P ng call) (hng : P.globals.size ≤ ng) (hnt : nt ≤ 1000000) : ∀ (l : List Oper) (i : Nat) (sl : Tr AV) (h : H) (r : Tr AV × H), (∀ k, l[k]? = ops[i + k]?) → WF h → Ctx c h →
    kq c call nt (l.map (cR P ops 0)) sl h = some r → Step c h r.2 ∧ ∀ β a w, GB ng β → HR c.floor β (view c h) w → tu nt df β sl a → (∀ id, h.n ≤ id → id < r.2.n → β id = none) → ∀ Q : Exit → Act → World → Prop,
     (∀ β' a' w', cI dr c.floor h.n r.2.n β (view c h) w β' (view c r.2) w' → tu nt df β' r.1 a' → Q .normal a' w') → wpOpsIn (W rd) m P ops Q (List.range' i l.length) a w
 | [], i, sl, h, r, hl, hw, hc, e => by
  simp only [List.map_nil, kq, Option.some.injEq] at e
  subst e
  refine ⟨Step.refl hw, fun β a w hgb hr hsl hfr Q hQ => ?_⟩
  simp only [List.length_nil, List.range'_zero, wpOpsIn]
  exact hQ β a w (cI.refl hr) hsl
 | o :: l, i, sl, h, r, hl, hw, hc, e => by
  have hl' : ∀ k, l[k]? = ops[i + 1 + k]? := fun k => by
   have := hl (k + 1)
   simp only [List.getElem?_cons_succ] at this
   rw [this]; congr 1; omega
  have hoi : ops[i]? = some o := by have := hl 0; simpa using this.symm
  simp only [List.map_cons] at e
  unfold kq at e
  rcases y7 (P := P) (ops := ops) 0 o with ⟨xo, g, h1, h2, h3, h4⟩ | ⟨h1, h2⟩
  ·rw [h4] at e
   simp only at e
   cases hwn : dy sl g with
   | false =>
    rw [hwn] at e
    simp only [cond] at e
    cases jt : okW sl g with
    | false => rw [jt] at e; cases e
    | true =>
    rw [jt] at e
    simp only at e
    obtain ⟨sl1, hp, e⟩ := gO e
    obtain ⟨s1, s2⟩ := jH hO hC hng hnt l (i + 1) sl1 h r hl' hw hc e
    refine ⟨s1, fun β a w hgb hr hsl hfr Q hQ => ?_⟩
    rw [List.length_cons, List.range'_succ, wpOpsIn_cons]
    unfold wpOpIn
    rw [hoi]
    have hwt := vd (ops := ops) (a := a) h2 (fun t _ => hsl.at_ t) (fun _ => jt)
    rw [hwn] at hwt
    simp only [← hwt, Bool.false_eq_true, if_false]
    refine ⟨fun _ _ => trivial, ?_⟩
    exact s2 β _ w hgb hr (hsl.Qs hp hnt qk) hfr Q hQ
   | true =>
    rw [hwn] at e
    simp only [cond] at e
    obtain ⟨v, h', e, hd⟩ := hO o xo h1 c call sl h _ r (fun _ => hc) hw hC e
    obtain ⟨sl1, hp, e⟩ := gO e
    obtain ⟨hst, hdd⟩ := hd
    obtain ⟨s1, s2⟩ := jH hO hC hng hnt l (i + 1) sl1 h' r hl' hst.wf (hc.mono hst.le) e
    refine ⟨hst.trans s1, fun β a w hgb hr hsl hfr Q hQ => ?_⟩
    rw [List.length_cons, List.range'_succ, wpOpsIn_cons]
    unfold wpOpIn
    rw [hoi]
    have hwt := vd (ops := ops) (a := a) h2 (fun t _ => hsl.at_ t) (fun q => by rw [hwn] at q; cases q)
    rw [hwn] at hwt
    simp only [← hwt, if_true]
    refine (hdd β a w hgb hr (yZ hng hgb h3 fun t _ => hsl.at_ t) (fun id q1 q2 => hfr id q1 (Nat.lt_of_lt_of_le q2 s1.le)) _ _ _ Q fun β1 val w1 hP1 hv1 => ?_)
    refine s2 β1 _ w1 (hgb.mono hP1.sub) hP1.hr ((hsl.mono hP1.sub).Qs hp hnt hv1) (fun id q1 q2 => ?_) Q fun β2 a2 w2 hP2 hs2 => hQ β2 a2 w2 (hP1.trans hP2) hs2
    cases hb : β1 id with
    | none => rfl
    | some L =>
     have h0 := hfr id (Nat.le_trans hst.le q1) q2
     have := hP1.fresh id L hb h0
     omega
  ·rw [h1, h2] at e
   simp [dy, KP] at e
/-! regions in any order -/
theorem xi {α : Type} {p q : α → Bool} : ∀ {l : List α} {x : α}, x ∈ l → p x = true → q x = false → (∀ y, q y = true → p y = true) → l.countP q < l.countP p
 | [], x, h, _, _, _ => by cases h
 | y :: l, x, h, hp, hq, hh => by
  have mono : ∀ l : List α, l.countP q ≤ l.countP p := fun l => List.countP_mono_left fun z _ hz => hh z hz
  rcases List.mem_cons.1 h with e | e
  ·subst e
   rw [List.countP_cons_of_pos hp, List.countP_cons_of_neg (by simp [hq])]
   have := mono l; omega
  ·have := xi e hp hq hh
   rw [List.countP_cons, List.countP_cons]
   cases hy : q y with
   | true => rw [hh y hy]; simp; omega
   | false => cases p y <;> simp <;> omega
theorem cI.toSub {f n n' : Nat} {β β' : cn} {g V g' : View} {w w' : World} (h : cI dr f n n' β g w β' V w') (hs : ∀ id b, g' id = some b → V id = some b) : cI dr f n n' β g w β' g' w' :=
 ⟨h.le, h.sub, h.fresh, h.hr.sub hs, h.os, h.tape, h.output, h.size, h.frame, h.news, fun id b e => h.jG id b (hs id b e)⟩
theorem fu {j : Nat} {o : Oper} (h : ops[j]? = some o) : ops.getD j default = o := by simp [h]
theorem qm (jt : Mu ops (Region.before ops) = true) {j : Nat} {o : Oper} (hj : ops[j]? = some o) :
    (∀ p, ((Region.before ops).getD j 0).testBit p = true → p < j) ∧ (∀ e ∈ o.after, Region.binds .any e = true → e.on < j) ∧
    ∀ d, o.dst = some d → ∀ i oi, ops[i]? = some oi → i ≠ j → (d ∈ oi.looksAt ops ∨ oi.dst = some d) → (i < j → ((Region.before ops).getD j 0).testBit i = true) ∧ (j < i → ((Region.before ops).getD i 0).testBit j = true) := by
 have hlt : j < ops.size := (Array.getElem?_eq_some_iff.1 hj).1
 unfold Mu at jt
 have h1 := List.all_eq_true.1 jt j (List.mem_range.2 hlt)
 rw [fu hj] at h1
 simp only [Bool.and_eq_true, decide_eq_true_eq] at h1
 obtain ⟨⟨h2, h3⟩, h4⟩ := h1
 refine ⟨fun p hp => ?_, fun e he hb => ?_, fun d hd i oi hi hne hlk => ?_⟩
 ·rcases Nat.lt_or_ge p j with x | x
  ·exact x
  ·rw [Nat.testBit_lt_two_pow (Nat.lt_of_lt_of_le h2 (Nat.pow_le_pow_right (by omega) x))] at hp; cases hp
 ·have := Array.all_eq_true_iff_forall_mem.1 h3 e he
  simpa [hb] using this
 ·rw [hd] at h4
  simp only at h4
  have hli : i < ops.size := (Array.getElem?_eq_some_iff.1 hi).1
  have h5 := List.all_eq_true.1 h4 i (List.mem_range.2 hli)
  rw [fu hi] at h5
  have h6 : (((oi.looksAt ops).contains d) || (oi.dst == some d)) = true := by
   rcases hlk with q | q
   ·simp [q]
   ·simp [q]
  rw [h6] at h5
  simp only [Bool.not_true, Bool.or_false, Bool.or_eq_true, beq_iff_eq] at h5
  rcases h5 with h5 | h5
  ·exact absurd h5 hne
  ·refine ⟨fun q => ?_, fun q => ?_⟩
   ·rw [if_pos q] at h5; exact h5
   ·rw [if_neg (by omega)] at h5; exact h5
theorem Dr {j i : Nat} {o oi : Oper} (hb : Ef ops (Region.before ops) j = true) (hi : ops[i]? = some oi) (hm : kW oi = true) (hne : i ≠ j) :
    (i < j → ((Region.before ops).getD j 0).testBit i = true) ∧ (j < i → ((Region.before ops).getD i 0).testBit j = true) := by
 have hli : i < ops.size := (Array.getElem?_eq_some_iff.1 hi).1
 unfold Ef at hb
 have h5 := List.all_eq_true.1 hb i (List.mem_range.2 hli)
 rw [fu hi, hm] at h5
 simp only [Bool.not_true, Bool.false_or, Bool.or_eq_true, beq_iff_eq] at h5
 rcases h5 with h5 | h5
 ·exact absurd h5 hne
 ·refine ⟨fun q => ?_, fun q => ?_⟩
  ·rw [if_pos q] at h5; exact h5
  ·rw [if_neg (by omega)] at h5; exact h5
end
end
end Go.Proofs.YtgaihilgffficaaGreatDoor.Ev
