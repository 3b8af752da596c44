/- Regions in any order: the evaluator's run as a trace. -/
import Derived.Test.YtfoahdpnalbbgaaGreatDoorEvM
set_option linter.unusedVariables false
set_option linter.unusedSimpArgs false
namespace Go.Proofs.YtfoahdpnalbbgaaGreatDoor.Ev
open Go
structure TE where
  sl : Tr AV
  h : H
  v : AV
  c : C
  bar : Bool
  foot : Option Nat
def PutR (nt : Nat) (sl : Tr AV) (d : Option Nat) (v : AV) (sl' : Tr AV) : Prop :=
  match d with
  | none => sl' = sl
  | some d => d < nt ∧ sl' = Tr.set depth sl d v
theorem putK_some {R : Type} {r : R} {nt : Nat} {sl : Tr AV} {d : Option Nat} {v : AV} {k : Tr AV → Option R} (e : putK nt sl d v k = some r) : ∃ sl', PutR nt sl d v sl' ∧ k sl' = some r := by
  unfold putK at e
  cases d with
  | none => exact ⟨sl, rfl, e⟩
  | some d =>
    simp only at e
    cases hb : Nat.blt d nt with
    | false => rw [hb] at e; cases e
    | true =>
      rw [hb] at e
      simp only [cond, Tr.setK_eq] at e
      exact ⟨_, ⟨by simpa [Nat.blt_eq] using hb, rfl⟩, e⟩
theorem visOf_seen {preds : Nat} {base : List (Nat × Nat)} {id : Nat} : ∀ {rs : List (Nat × Nat × Nat)}, seen (visOf preds base rs) id = true → seen base id = true ∨ ∃ r ∈ rs, preds.testBit r.1 = true ∧ r.2.1 ≤ id ∧ id < r.2.2
  | [], h => Or.inl h
  | r :: rs, h => by
    unfold visOf at h
    cases hb : preds.testBit r.1 with
    | true =>
      rw [hb] at h
      simp only [cond, seen] at h
      cases hc : Nat.ble r.2.1 id with
      | true =>
        rw [hc] at h
        simp only [cond] at h
        exact Or.inr ⟨r, by simp, hb, Nat.le_of_ble_eq_true hc, by simpa [Nat.blt_eq] using h⟩
      | false =>
        rw [hc] at h
        rcases visOf_seen (rs := rs) h with x | ⟨q, h1, h2⟩
        · exact Or.inl x
        · exact Or.inr ⟨q, by simp [h1], h2⟩
    | false =>
      rw [hb] at h
      rcases visOf_seen (rs := rs) h with x | ⟨q, h1, h2⟩
      · exact Or.inl x
      · exact Or.inr ⟨q, by simp [h1], h2⟩
theorem cutBase_seen {n id : Nat} : ∀ {l : List (Nat × Nat)}, seen (cutBase n l) id = true → seen l id = true ∧ id < n
  | [], h => by simp [cutBase, seen] at h
  | r :: rs, h => by
    unfold cutBase at h
    cases hb : Nat.ble n r.1 with
    | true =>
      rw [hb] at h
      obtain ⟨h1, h2⟩ := cutBase_seen (l := rs) h
      have h3 := Nat.le_of_ble_eq_true hb
      refine ⟨?_, h2⟩
      unfold seen
      have : Nat.ble r.1 id = false := by
        cases hx : Nat.ble r.1 id with
        | false => rfl
        | true => have := Nat.le_of_ble_eq_true hx; omega
      rw [this]; exact h1
    | false =>
      rw [hb] at h
      simp only [cond] at h
      cases hc : Nat.ble r.2 n with
      | true =>
        rw [hc] at h
        simp only [seen] at h ⊢
        cases hd : Nat.ble r.1 id with
        | true =>
          rw [hd] at h
          simp only [cond] at h ⊢
          have h4 := Nat.le_of_ble_eq_true hc
          have h5 : id < r.2 := by simpa [Nat.blt_eq] using h
          exact ⟨h, by omega⟩
        | false =>
          rw [hd] at h
          exact cutBase_seen (l := rs) h
      | false =>
        rw [hc] at h
        simp only [seen] at h ⊢
        cases hd : Nat.ble r.1 id with
        | true =>
          rw [hd] at h
          simp only [cond] at h ⊢
          have h5 : id < n := by simpa [Nat.blt_eq] using h
          have h6 : ¬ r.2 ≤ n := fun x => by
            have := Nat.ble_eq_true_of_le x
            rw [hc] at this; cases this
          exact ⟨by simp [Nat.blt_eq]; omega, h5⟩
        | false =>
          rw [hd] at h
          exact cutBase_seen (l := rs) h

theorem addR_mem {i n n' : Nat} {rs : List (Nat × Nat × Nat)} : ∀ q ∈ addR i n n' rs, q ∈ rs ∨ q = (i, n, n') := fun q hq => by
  unfold addR at hq
  cases hb : Nat.beq n n' with
  | true => rw [hb] at hq; exact Or.inl hq
  | false =>
    rw [hb] at hq
    rcases List.mem_cons.1 hq with y | y
    · exact Or.inr y
    · exact Or.inl y
/-- one operation of the trace -/
structure Link (c : C) (nt : Nat) (base : List (Nat × Nat)) (rs : List (Nat × Nat × Nat)) (bs : List (Nat × Tr AB × Tr AB)) (fs : List (Nat × Nat)) (D : Nat → C → Tr AV → H → AV → H → Prop) (i : Nat) (T : Nat → TE) (j : Nat) (x : XR) : Prop where
  put : PutR nt (T j).sl x.dst (T j).v (T (j + 1)).sl
  step : Step (T j).c (T j).h (T (j + 1)).h
  on : wants (T j).sl x.guard = true → D (i + j) (T j).c (T j).sl (T j).h (T j).v (T (j + 1)).h
  off : wants (T j).sl x.guard = false → (T (j + 1)).h = (T j).h ∧ (T j).v = .tup []
  low : c.floor ≤ (T j).c.floor
  quiet : (T j).bar = false → (T j).c.floor = (T j).h.n
  isbar : (T j).bar = true → x.bar = true ∧ x.mem = true
  old : ∀ id, id < (T j).h.n → seen (T j).c.vis id = true → (T j).foot = some id ∨ x.mem = true
  footB : ∀ A, (T j).foot = some A → (∀ b ∈ bs, x.preds.testBit b.1 = false → Tr.get b.2.2 A = Tr.get b.2.1 A) ∧ ∀ k, k < j → (T k).bar = true → x.preds.testBit (i + k) = false → Tr.get (T (k + 1)).h.t A = Tr.get (T k).h.t A
  barF : (T j).bar = true → (∀ f ∈ fs, x.preds.testBit f.1 = false → Tr.get (T (j + 1)).h.t f.2 = Tr.get (T j).h.t f.2) ∧ ∀ k A, k < j → (T k).foot = some A → x.preds.testBit (i + k) = false → Tr.get (T (j + 1)).h.t A = Tr.get (T j).h.t A
  sees : ∀ id, seen (T j).c.vis id = true → (T j).h.n ≤ id ∨ seen base id = true ∨ (∃ r ∈ rs, x.preds.testBit r.1 = true ∧ r.2.1 ≤ id ∧ id < r.2.2) ∨ ∃ k, k < j ∧ x.preds.testBit (i + k) = true ∧ (T k).h.n ≤ id ∧ id < (T (k + 1)).h.n
  newer : ∀ id, (T j).h.n ≤ id → id < (T (j + 1)).h.n → seen (T j).c.vis id = true

def consT (e : TE) (T : Nat → TE) : Nat → TE
  | 0 => e
  | k + 1 => T k
theorem Link.cons {c : C} {nt : Nat} {base : List (Nat × Nat)} {rs rs' : List (Nat × Nat × Nat)} {bs bs' : List (Nat × Tr AB × Tr AB)} {fs fs' : List (Nat × Nat)} {D : Nat → C → Tr AV → H → AV → H → Prop} {i : Nat} {T : Nat → TE} {j : Nat} {x : XR} {e : TE}
    (h : Link c nt base rs' bs' fs' D (i + 1) T j x) (hrs : ∀ r ∈ rs', r ∈ rs ∨ r = (i, e.h.n, (T 0).h.n)) (hbs : ∀ b ∈ bs, b ∈ bs') (hb : e.bar = true → (i, e.h.t, (T 0).h.t) ∈ bs') (hfs : ∀ f ∈ fs, f ∈ fs') (hf : ∀ A, e.foot = some A → (i, A) ∈ fs') :
    Link c nt base rs bs fs D i (consT e T) (j + 1) x := by
  refine ⟨h.put, h.step, fun hw => ?_, h.off, h.low, h.quiet, h.isbar, h.old, fun A hA => ⟨fun b hb1 hb2 => (h.footB A hA).1 b (hbs b hb1) hb2, fun k hk hkb hkp => ?_⟩, fun hbar => ⟨fun f hf1 hf2 => (h.barF hbar).1 f (hfs f hf1) hf2, fun k A hk hkf hkp => ?_⟩, fun id hs => ?_, h.newer⟩
  · have := h.on hw
    rw [show i + 1 + j = i + (j + 1) by omega] at this
    exact this
  · cases k with
    | zero => exact (h.footB A hA).1 _ (hb hkb) hkp
    | succ k => exact (h.footB A hA).2 k (by omega) hkb (by rw [show i + 1 + k = i + (k + 1) by omega]; exact hkp)
  · cases k with
    | zero => exact (h.barF hbar).1 _ (hf A hkf) hkp
    | succ k => exact (h.barF hbar).2 k A (by omega) hkf (by rw [show i + 1 + k = i + (k + 1) by omega]; exact hkp)
  · rcases h.sees id hs with q | q | ⟨r, h1, h2, h3⟩ | ⟨k, h1, h2, h3⟩
    · exact Or.inl q
    · exact Or.inr (Or.inl q)
    · rcases hrs r h1 with y | y
      · exact Or.inr (Or.inr (Or.inl ⟨r, y, h2, h3⟩))
      · subst y
        exact Or.inr (Or.inr (Or.inr ⟨0, by omega, h2, h3⟩))
    · exact Or.inr (Or.inr (Or.inr ⟨k + 1, by omega, by rw [show i + (k + 1) = i + 1 + k by omega]; exact h2, h3⟩))
theorem seen_new {n id : Nat} {l : List (Nat × Nat)} (h : seen ((n, big) :: l) id = true) : n ≤ id ∨ seen l id = true := by
  simp only [seen] at h
  cases hb : Nat.ble n id with
  | true => exact Or.inl (Nat.le_of_ble_eq_true hb)
  | false => rw [hb] at h; exact Or.inr h
theorem seen_big {n id : Nat} {l : List (Nat × Nat)} (h1 : n ≤ id) (h2 : id < big) : seen ((n, big) :: l) id = true := by
  simp only [seen, Nat.ble_eq_true_of_le h1, cond]
  simpa [Nat.blt_eq] using h2
theorem seen_one {a id : Nat} (h : seen [(a, Nat.succ a)] id = true) : id = a := by
  simp only [seen] at h
  cases hb : Nat.ble a id with
  | true =>
    rw [hb] at h
    have h1 := Nat.le_of_ble_eq_true hb
    have h2 : id < Nat.succ a := by simpa [Nat.blt_eq] using h
    omega
  | false => rw [hb] at h; cases h
/-- the first operation of a trace -/
theorem Link.first {c : C} {nt : Nat} {base : List (Nat × Nat)} {rs : List (Nat × Nat × Nat)} {bs : List (Nat × Tr AB × Tr AB)} {fs : List (Nat × Nat)} {D : Nat → C → Tr AV → H → AV → H → Prop} {i : Nat} {T : Nat → TE} {x : XR} {sl : Tr AV} {h h' : H} {v : AV} {c' : C} {bar : Bool} {foot : Option Nat}
    (hD : D i c' sl h v h') (hst : Step c' h h') (hwn : wants sl x.guard = true) (h2 : (T 0).h = h') (hp : PutR nt sl x.dst v (T 0).sl) (hlow : c.floor ≤ c'.floor) (hq : bar = false → c'.floor = h.n) (hib : bar = true → x.bar = true ∧ x.mem = true)
    (hold : ∀ id, id < h.n → seen c'.vis id = true → foot = some id ∨ x.mem = true) (hfB : ∀ A, foot = some A → ∀ b ∈ bs, x.preds.testBit b.1 = false → Tr.get b.2.2 A = Tr.get b.2.1 A) (hbF : bar = true → ∀ f ∈ fs, x.preds.testBit f.1 = false → Tr.get h'.t f.2 = Tr.get h.t f.2)
    (hs : ∀ id, seen c'.vis id = true → h.n ≤ id ∨ seen base id = true ∨ (∃ r ∈ rs, x.preds.testBit r.1 = true ∧ r.2.1 ≤ id ∧ id < r.2.2)) (hnew : ∀ id, h.n ≤ id → id < big → seen c'.vis id = true) :
    Link c nt base rs bs fs D i (consT ⟨sl, h, v, c', bar, foot⟩ T) 0 x := by
  subst h2
  refine ⟨hp, hst, fun _ => hD, fun q => ?_, hlow, hq, hib, hold, fun A hA => ⟨hfB A hA, fun k hk => absurd hk (Nat.not_lt_zero _)⟩, fun hb => ⟨hbF hb, fun k A hk => absurd hk (Nat.not_lt_zero _)⟩, fun id q => ?_, fun id q1 q2 => hnew id q1 ?_⟩
  · have q' : wants sl x.guard = false := q
    rw [hwn] at q'; cases q'
  · rcases hs id q with y | y | y
    · exact Or.inl y
    · exact Or.inr (Or.inl y)
    · exact Or.inr (Or.inr (Or.inl y))
  · have := hst.wf.small
    have q2' : id < (T 0).h.n := q2
    unfold big; omega
theorem evDreg_trace {c : C} {call : Caller} {nt : Nat} {base : List (Nat × Nat)} {D : Nat → C → Tr AV → H → AV → H → Prop} (hD : ∀ j c sl h v h', D j c sl h v h' → Step c h h') :
    ∀ (xs : List XR) (i : Nat) (rs : List (Nat × Nat × Nat)) (bs : List (Nat × Tr AB × Tr AB)) (fs : List (Nat × Nat)) (sl : Tr AV) (h : H) (r : Tr AV × H), WF h → c.floor ≤ h.n →
      (∀ j x, xs[j]? = some x → ∀ c' sl h k r, (x.mem = true → x.foot = none → Ctx c' h) → WF h → x.op c' call sl h k = some r → ∃ v h', k v h' = some r ∧ D (i + j) c' sl h v h') →
      evDreg c call nt base xs i rs bs fs sl h = some r →
      ∃ T : Nat → TE, (T 0).sl = sl ∧ (T 0).h = h ∧ (T xs.length).sl = r.1 ∧ (T xs.length).h = r.2 ∧ ∀ j x, xs[j]? = some x → Link c nt base rs bs fs D i T j x
  | [], i, rs, bs, fs, sl, h, r, hw, hl, hop, e => by
    simp only [evDreg, Option.some.injEq] at e
    subst e
    exact ⟨fun _ => ⟨sl, h, .tup [], c, false, none⟩, rfl, rfl, rfl, rfl, fun j x hx => by simp at hx⟩
  | x :: xs, i, rs, bs, fs, sl, h, r, hw, hl, hop, e => by
    have hop' : ∀ j y, xs[j]? = some y → ∀ c' sl h k r, (y.mem = true → y.foot = none → Ctx c' h) → WF h → y.op c' call sl h k = some r → ∃ v h', k v h' = some r ∧ D (i + 1 + j) c' sl h v h' := fun j y hy => by
      have := hop (j + 1) y (by simpa using hy)
      rw [show i + (j + 1) = i + 1 + j by omega] at this
      exact this
    have hop0 : ∀ c' sl h k r, (x.mem = true → x.foot = none → Ctx c' h) → WF h → x.op c' call sl h k = some r → ∃ v h', k v h' = some r ∧ D i c' sl h v h' := hop 0 x (by simp)
    -- how a trace of the rest is lengthened
    have glue : ∀ (v : AV) (h' : H) (c' : C) (bar : Bool) (foot : Option Nat) (sl1 : Tr AV) (rs' : List (Nat × Nat × Nat)) (bs' : List (Nat × Tr AB × Tr AB)) (fs' : List (Nat × Nat)), Step c' h h' →
        (∀ T : Nat → TE, (T 0).sl = sl1 → (T 0).h = h' → Link c nt base rs bs fs D i (consT ⟨sl, h, v, c', bar, foot⟩ T) 0 x) →
        evDreg c call nt base xs (i + 1) rs' bs' fs' sl1 h' = some r → (∀ q ∈ rs', q ∈ rs ∨ q = (i, h.n, h'.n)) → (∀ b ∈ bs, b ∈ bs') → (bar = true → (i, h.t, h'.t) ∈ bs') → (∀ f ∈ fs, f ∈ fs') → (∀ A, foot = some A → (i, A) ∈ fs') →
        ∃ T : Nat → TE, (T 0).sl = sl ∧ (T 0).h = h ∧ (T (x :: xs).length).sl = r.1 ∧ (T (x :: xs).length).h = r.2 ∧ ∀ j y, (x :: xs)[j]? = some y → Link c nt base rs bs fs D i T j y := fun v h' c' bar foot sl1 rs' bs' fs' hst hfirst e hrs hbs hb hfs hf => by
      obtain ⟨T, h1, h2, h3, h4, h5⟩ := evDreg_trace hD xs (i + 1) rs' bs' fs' sl1 h' r hst.wf (Nat.le_trans hl hst.le) hop' e
      refine ⟨consT ⟨sl, h, v, c', bar, foot⟩ T, rfl, rfl, h3, h4, fun j y hy => ?_⟩
      cases j with
      | zero => simp at hy; subst hy; exact hfirst T h1 h2
      | succ j => exact (h5 j y (by simpa using hy)).cons (by rw [h2]; exact hrs) hbs (by rw [h2]; exact hb) hfs hf
    unfold evDreg at e
    cases hwn : wants sl x.guard with
    | false =>
      rw [hwn] at e
      simp only [cond] at e
      obtain ⟨sl1, hp, e⟩ := putK_some e
      refine glue (.tup []) h ⟨h.n, []⟩ false none sl1 rs bs fs (Step.refl hw) (fun T t1 t2 => ?_) e (fun q hq => Or.inl hq) (fun _ hb => hb) (fun q => by cases q) (fun _ hf => hf) (fun A q => by cases q)
      refine ⟨by simp only [consT]; rw [t1]; exact hp, by simp only [consT]; rw [t2]; exact Step.refl hw, fun q => ?_, fun _ => ⟨t2, rfl⟩, hl, fun _ => rfl, fun q => (by cases q), fun id _ q => (by simp [consT, seen] at q), fun A q => (by cases q), fun q => (by cases q), fun id q => (by simp [consT, seen] at q), fun id q1 q2 => ?_⟩
      · have q' : wants sl x.guard = true := q
        rw [hwn] at q'; cases q'
      · have q1' : h.n ≤ id := q1
        have q2' : id < (T 0).h.n := q2
        rw [t2] at q2'; omega
    | true =>
      rw [hwn] at e
      simp only [cond] at e
      have hvis : ∀ id, seen ((h.n, big) :: visOf x.preds base rs) id = true → h.n ≤ id ∨ seen base id = true ∨ (∃ r ∈ rs, x.preds.testBit r.1 = true ∧ r.2.1 ≤ id ∧ id < r.2.2) := fun id q => by
        rcases seen_new q with y | y
        · exact Or.inl y
        · exact Or.inr (visOf_seen y)
      have pure_ : x.op ⟨h.n, [(h.n, big)]⟩ call sl h (fun v h' => putK nt sl x.dst v fun sl => evDreg c call nt base xs (i + 1) (addR i h.n h'.n rs) bs fs sl h') = some r → (x.mem = true → x.foot = none → False) →
          ∃ T : Nat → TE, (T 0).sl = sl ∧ (T 0).h = h ∧ (T (x :: xs).length).sl = r.1 ∧ (T (x :: xs).length).h = r.2 ∧ ∀ j y, (x :: xs)[j]? = some y → Link c nt base rs bs fs D i T j y := fun e hmf => by
        obtain ⟨v, h', e, hd⟩ := hop0 _ sl h _ r (fun q1 q2 => (hmf q1 q2).elim) hw e
        have hst := hD _ _ _ _ _ _ hd
        obtain ⟨sl1, hp, e⟩ := putK_some e
        refine glue v h' _ false none sl1 _ bs fs hst (fun T t1 t2 => ?_) e addR_mem (fun _ hb => hb) (fun q => by cases q) (fun _ hf => hf) (fun A q => by cases q)
        refine Link.first hd hst hwn t2 (by rw [t1]; exact hp) hl (fun _ => rfl) (fun q => by cases q) (fun id h1 h2 => ?_) (fun A q => by cases q) (fun q => by cases q) (fun id q => ?_) (fun id q1 q2 => seen_big q1 q2)
        · rcases seen_new h2 with y | y
          · omega
          · cases y
        · rcases seen_new q with y | y
          · exact Or.inl y
          · cases y
      cases hfo : x.foot with
      | some xf =>
        rw [hfo] at e
        simp only at e
        cases hfi : footId (evV sl xf) with
        | none =>
          rw [hfi] at e
          exact pure_ e (fun _ q => by rw [hfo] at q; cases q)
        | some A =>
          rw [hfi] at e
          simp only at e
          cases hch : (seen ((h.n, big) :: visOf x.preds base rs) A && unchB x.preds A bs) with
          | false => rw [hch] at e; cases e
          | true =>
            rw [hch] at e
            rw [Bool.and_eq_true] at hch
            simp only at e
            obtain ⟨v, h', e, hd⟩ := hop0 _ sl h _ r (fun _ q => by rw [hfo] at q; cases q) hw e
            have hst := hD _ _ _ _ _ _ hd
            obtain ⟨sl1, hp, e⟩ := putK_some e
            refine glue v h' _ false (some A) sl1 _ bs ((i, A) :: fs) hst (fun T t1 t2 => ?_) e addR_mem (fun _ hb => hb) (fun q => by cases q) (fun _ hf => List.mem_cons_of_mem _ hf) (fun A' q => by cases q; exact List.mem_cons_self ..)
            refine Link.first hd hst hwn t2 (by rw [t1]; exact hp) hl (fun _ => rfl) (fun q => by cases q) (fun id h1 h2 => ?_) (fun A' q => by cases q; exact unchB_some hch.2) (fun q => by cases q) (fun id q => ?_) (fun id q1 q2 => seen_big q1 q2)
            · rcases seen_new h2 with y | y
              · omega
              · exact Or.inl (by rw [seen_one y])
            · rcases seen_new q with y | y
              · exact Or.inl y
              · rw [seen_one y]; exact hvis A hch.1
      | none =>
        rw [hfo] at e
        simp only at e
        cases hm : x.mem with
        | false =>
          rw [hm] at e
          exact pure_ e (fun q _ => by rw [hm] at q; cases q)
        | true =>
          rw [hm] at e
          cases hb : x.bar with
          | true =>
            rw [hb] at e
            simp only at e
            obtain ⟨v, h', e, hd⟩ := hop0 ⟨c.floor, (h.n, big) :: visOf x.preds base rs⟩ sl h _ r (fun _ _ => ⟨hl, fun id q1 q2 => seen_big q1 q2⟩) hw e
            have hst := hD _ _ _ _ _ _ hd
            cases hun : unchF x.preds h.t h'.t fs with
            | false => rw [hun] at e; cases e
            | true =>
              rw [hun] at e
              simp only at e
              obtain ⟨sl1, hp, e⟩ := putK_some e
              refine glue v h' _ true none sl1 _ ((i, h.t, h'.t) :: bs) fs hst (fun T t1 t2 => ?_) e addR_mem (fun _ hb => List.mem_cons_of_mem _ hb) (fun _ => List.mem_cons_self ..) (fun _ hf => hf) (fun A q => by cases q)
              exact Link.first hd hst hwn t2 (by rw [t1]; exact hp) (Nat.le_refl _) (fun q => by cases q) (fun _ => ⟨hb, hm⟩) (fun id _ _ => Or.inr hm) (fun A q => by cases q) (fun _ => unchF_some hun) hvis (fun id q1 q2 => seen_big q1 q2)
          | false =>
            rw [hb] at e
            simp only at e
            obtain ⟨v, h', e, hd⟩ := hop0 ⟨h.n, (h.n, big) :: visOf x.preds base rs⟩ sl h _ r (fun _ _ => ⟨Nat.le_refl _, fun id q1 q2 => seen_big q1 q2⟩) hw e
            have hst := hD _ _ _ _ _ _ hd
            obtain ⟨sl1, hp, e⟩ := putK_some e
            refine glue v h' _ false none sl1 _ bs fs hst (fun T t1 t2 => ?_) e addR_mem (fun _ hb => hb) (fun q => by cases q) (fun _ hf => hf) (fun A q => by cases q)
            exact Link.first hd hst hwn t2 (by rw [t1]; exact hp) hl (fun _ => rfl) (fun q => by cases q) (fun id _ _ => Or.inr hm) (fun A q => by cases q) (fun q => by cases q) hvis (fun id q1 q2 => seen_big q1 q2)

/-! the predecessors of an operation -/
theorem fold_bits {acc : Array Nat} {p : Nat} : ∀ (l : List Edge) (s : Nat), (l.foldl (fun s e => if Region.binds .any e then s ||| 2 ^ e.on ||| acc.getD e.on 0 else s) s).testBit p = true →
    s.testBit p = true ∨ ∃ e ∈ l, Region.binds .any e = true ∧ (p = e.on ∨ (acc.getD e.on 0).testBit p = true)
  | [], s, h => Or.inl h
  | e :: l, s, h => by
    rw [List.foldl_cons] at h
    rcases fold_bits l _ h with x | ⟨e', h1, h2⟩
    · by_cases hb : Region.binds .any e = true
      · rw [if_pos hb] at x
        rw [Nat.testBit_or, Nat.testBit_or, Bool.or_eq_true, Bool.or_eq_true] at x
        rcases x with (x | x) | x
        · exact Or.inl x
        · rw [Nat.testBit_two_pow] at x
          exact Or.inr ⟨e, by simp, hb, Or.inl (by simpa using (of_decide_eq_true x).symm)⟩
        · exact Or.inr ⟨e, by simp, hb, Or.inr x⟩
      · rw [if_neg hb] at x; exact Or.inl x
    · exact Or.inr ⟨e', by simp [h1], h2⟩
def PreOk (ops : Array Oper) (A : Array Nat) (j : Nat) : Prop := ∀ p, (A.getD j 0).testBit p = true → ∃ o, ops[j]? = some o ∧ ∃ e ∈ o.after, Region.binds .any e = true ∧ (p = e.on ∨ (A.getD e.on 0).testBit p = true)
theorem getD_push_keep {A : Array Nat} {v i p : Nat} (h : (A.getD i 0).testBit p = true) : ((A.push v).getD i 0).testBit p = true := by
  have hlt : i < A.size := by
    rcases Nat.lt_or_ge i A.size with x | x
    · exact x
    · simp [Array.getElem?_eq_none x] at h
  have e : (A.push v).getD i 0 = A.getD i 0 := by simp [Array.getElem?_push, Nat.ne_of_lt hlt]
  rw [e]; exact h
theorem before_fold {ops : Array Oper} : ∀ (l : List Oper) (acc : Array Nat), (∀ k, l[k]? = ops[acc.size + k]?) → (∀ j, PreOk ops acc j) →
    ∀ j, PreOk ops (l.foldl (fun acc o => acc.push (o.after.foldl (fun s e => if Region.binds .any e then s ||| 2 ^ e.on ||| acc.getD e.on 0 else s) 0)) acc) j
  | [], acc, _, h => h
  | o :: l, acc, hl, h => by
    rw [List.foldl_cons]
    refine before_fold l _ (fun k => ?_) (fun j p hp => ?_)
    · have := hl (k + 1)
      simp only [List.getElem?_cons_succ] at this
      rw [this, Array.size_push]; congr 1; omega
    · by_cases hj : j = acc.size
      · subst hj
        have h0 := hl 0
        simp only [List.getElem?_cons_zero, Nat.add_zero] at h0
        have e : (acc.push (o.after.foldl (fun s e => if Region.binds .any e then s ||| 2 ^ e.on ||| acc.getD e.on 0 else s) 0)).getD acc.size 0 = o.after.foldl (fun s e => if Region.binds .any e then s ||| 2 ^ e.on ||| acc.getD e.on 0 else s) 0 := by simp
        rw [e, ← Array.foldl_toList] at hp
        rcases fold_bits _ _ hp with x | ⟨e', h1, h2, h3⟩
        · simp at x
        · refine ⟨o, h0.symm, e', by simpa using h1, h2, ?_⟩
          rcases h3 with y | y
          · exact Or.inl y
          · exact Or.inr (getD_push_keep y)
      · have e : (acc.push (o.after.foldl (fun s e => if Region.binds .any e then s ||| 2 ^ e.on ||| acc.getD e.on 0 else s) 0)).getD j 0 = acc.getD j 0 := by
          rcases Nat.lt_or_ge j acc.size with x | x
          · simp [Array.getElem?_push, hj]
          · simp [Array.getElem?_push, hj]
        rw [e] at hp
        obtain ⟨o', h1, e', h2, h3, h4⟩ := h j p hp
        refine ⟨o', h1, e', h2, h3, ?_⟩
        rcases h4 with y | y
        · exact Or.inl y
        · exact Or.inr (getD_push_keep y)
theorem before_ok (ops : Array Oper) (j : Nat) : PreOk ops (Region.before ops) j := by
  unfold Region.before
  rw [← Array.foldl_toList]
  exact before_fold ops.toList #[] (by simp) (fun j p hp => by simp at hp) j
end Go.Proofs.YtfoahdpnalbbgaaGreatDoor.Ev
