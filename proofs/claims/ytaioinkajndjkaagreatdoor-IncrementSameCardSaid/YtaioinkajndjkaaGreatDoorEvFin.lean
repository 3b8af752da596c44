/- The evaluator: ranges over maps; soundness. -/
import Derived.Test.YtaioinkajndjkaaGreatDoorEvQ
import Derived.Maps.RangeRun
set_option linter.unusedVariables false
set_option linter.unusedSimpArgs false
/- A range over a map whose rounds do not meddle with each other: whatever the order of the entries, the evaluator's answer holds. -/
namespace Go.Proofs.YtaioinkajndjkaaGreatDoor.Ev
open Go
open Go.ChangeMaps (setBlock)
/-! back to the elder names -/
mutual
theorem VR.back {β β' : Bet} (h : Sub β β') : ∀ (v : AV) (c0 c : Value), VR β v c0 → VR β' v c → VR β v c
  | .bool b, c0, c, _, e => by simpa [VR] using e
  | .int k n, c0, c, _, e => by simpa [VR] using e
  | .str s, c0, c, _, e => by simpa [VR] using e
  | .nilp, c0, c, _, e => by simpa [VR] using e
  | .ptr id off, c0, c, e0, e => by
    simp only [VR] at e0 e ⊢
    obtain ⟨L0, h1, _⟩ := e0
    obtain ⟨L, h2, h3⟩ := e
    rw [h _ _ h1] at h2; cases h2
    exact ⟨L0, h1, h3⟩
  | .nils, c0, c, _, e => by simpa [VR] using e
  | .sl id off len esz cap, c0, c, e0, e => by
    simp only [VR] at e0 e ⊢
    obtain ⟨L0, _, _, h1, _⟩ := e0
    obtain ⟨L, o, cp, h2, h3⟩ := e
    rw [h _ _ h1] at h2; cases h2
    exact ⟨L0, o, cp, h1, h3⟩
  | .nilm, c0, c, _, e => by simpa [VR] using e
  | .mp id, c0, c, e0, e => by
    simp only [VR] at e0 e ⊢
    obtain ⟨L0, h1, _⟩ := e0
    obtain ⟨L, h2, h3⟩ := e
    rw [h _ _ h1] at h2; cases h2
    exact ⟨L0, h1, h3⟩
  | .nilf, c0, c, _, e => by simpa [VR] using e
  | .fn f caps, c0, c, e0, e => by
    simp only [VR] at e0 e ⊢
    obtain ⟨cs0, _, h1⟩ := e0
    obtain ⟨cs, h2, h3⟩ := e
    exact ⟨cs, h2, VRs.back h _ _ _ h1 h3⟩
  | .fnb f first caps, c0, c, e0, e => by
    simp only [VR] at e0 e ⊢
    obtain ⟨fs0, cs0, _, h0, h1⟩ := e0
    obtain ⟨fs, cs, h2, h3, h4⟩ := e
    exact ⟨fs, cs, h2, VRs.back h _ _ _ h0 h3, VRs.back h _ _ _ h1 h4⟩
  | .nili, c0, c, _, e => by simpa [VR] using e
  | .iface t x, c0, c, e0, e => by
    simp only [VR] at e0 e ⊢
    obtain ⟨c1, _, h1⟩ := e0
    obtain ⟨c2, h2, h3⟩ := e
    exact ⟨c2, h2, VR.back h _ _ _ h1 h3⟩
  | .yld id, c0, c, e0, e => by
    simp only [VR] at e0 e ⊢
    obtain ⟨L0, h1, _⟩ := e0
    obtain ⟨L, h2, h3⟩ := e
    rw [h _ _ h1] at h2; cases h2
    exact ⟨L0, h1, h3⟩
  | .agg vs, c0, c, e0, e => by
    simp only [VR] at e0 e ⊢
    obtain ⟨cs0, _, h1⟩ := e0
    obtain ⟨cs, h2, h3⟩ := e
    exact ⟨cs, h2, VRs.back h _ _ _ h1 h3⟩
  | .tup vs, c0, c, e0, e => by
    simp only [VR] at e0 e ⊢
    obtain ⟨cs0, _, h1⟩ := e0
    obtain ⟨cs, h2, h3⟩ := e
    exact ⟨cs, h2, VRs.back h _ _ _ h1 h3⟩
  | .raw oa n cp, c0, c, _, e => by simpa [VR] using e
  | .var id, c0, c, e0, e => by
    simp only [VR] at e0 e ⊢
    obtain ⟨L0, h1, _⟩ := e0
    obtain ⟨L, h2, h3⟩ := e
    rw [h _ _ h1] at h2; cases h2
    exact ⟨L0, h1, h3⟩
  | .top, c0, c, _, e => by simp [VR]
theorem VRs.back {β β' : Bet} (h : Sub β β') : ∀ (vs : List AV) (c0 c : List Value), VRs β vs c0 → VRs β' vs c → VRs β vs c
  | [], c0, c, _, e => by simpa [VRs] using e
  | v :: vs, c0, c, e0, e => by
    simp only [VRs] at e0 e ⊢
    obtain ⟨u0, us0, _, a1, a2⟩ := e0
    obtain ⟨u, us, b0, b1, b2⟩ := e
    exact ⟨u, us, b0, VR.back h _ _ _ a1 b1, VRs.back h _ _ _ a2 b2⟩
end
theorem plain_vr {β β' : Bet} {v : AV} {c : Value} (h : plainV v = true) (e : VR β' v c) : VR β v c ∧ c.cells = #[c] := by
  cases v <;> first | (have h' : false = true := h; cases h'; done) | skip
  all_goals simp only [VR] at e ⊢
  · subst e; exact ⟨rfl, rfl⟩
  · subst e; exact ⟨rfl, rfl⟩
  · obtain ⟨b, rfl, h2⟩ := e; exact ⟨⟨b, rfl, h2⟩, rfl⟩
  · subst e; exact ⟨rfl, rfl⟩
  · subst e; exact ⟨rfl, rfl⟩
  · subst e; exact ⟨rfl, rfl⟩
  · subst e; exact ⟨rfl, rfl⟩
  · subst e; exact ⟨rfl, rfl⟩
/-! the parts of the check -/
theorem mapC_get (f : Nat → AV → AV) : ∀ (xs : List AV) (i j : Nat), (mapC f i xs)[j]? = (xs[j]?).map (f (i + j))
  | [], i, j => by simp [mapC]
  | x :: xs, i, j => by
    cases j with
    | zero => simp [mapC]
    | succ j =>
      simp only [mapC, List.getElem?_cons_succ]
      rw [mapC_get f xs (Nat.succ i) j]
      congr 2; omega
theorem mapC_length (f : Nat → AV → AV) : ∀ (xs : List AV) (i : Nat), (mapC f i xs).length = xs.length
  | [], i => rfl
  | x :: xs, i => by simp [mapC, mapC_length f xs]
theorem mapRg_get (f : Nat → AB → AB) : ∀ (k F : Nat) (t : Tr AB) (id : Nat), F + k ≤ 10000000 → Tr.get (mapRg f k F t) id = if F ≤ id ∧ id < F + k then (Tr.get t id).map (f id) else Tr.get t id
  | 0, F, t, id, _ => by
    rw [if_neg (by omega)]; rfl
  | k + 1, F, t, id, hk => by
    unfold mapRg
    cases hg : Tr.get t F with
    | none =>
      simp only
      rw [mapRg_get f k (Nat.succ F) t id (by omega)]
      by_cases q : id = F
      · subst q
        rw [if_neg (by omega), if_pos (by omega), hg]; rfl
      · by_cases q2 : F ≤ id ∧ id < F + (k + 1)
        · rw [if_pos (by omega), if_pos q2]
        · rw [if_neg (by omega), if_neg q2]
    | some b =>
      simp only
      rw [mapRg_get f k (Nat.succ F) _ id (by omega)]
      have e : Tr.get (Tr.setK depth t F (f F b) (fun t => t)) id = if F = id then some (f F b) else Tr.get t id := by
        rw [Tr.setK_eq]; exact get_set40 _ _ _ _ (by omega)
      have e' : Tr.get (Tr.setK depth t F (f F b) _root_.id) id = if F = id then some (f F b) else Tr.get t id := e
      by_cases q : F = id
      · rw [if_neg (by omega), e', if_pos q, if_pos (by omega), ← q, hg]; rfl
      · rw [e', if_neg q]
        by_cases q2 : F ≤ id ∧ id < F + (k + 1)
        · rw [if_pos (by omega), if_pos q2]
        · rw [if_neg (by omega), if_neg q2]
theorem sameRg_some {f : Nat → AB → AB} {t0 t : Tr AB} : ∀ {k F : Nat}, sameRg f t0 t k F = true → ∀ id, F ≤ id → id < F + k → Tr.get t id = (Tr.get t0 id).map (f id)
  | 0, F, _, id, h1, h2 => by omega
  | k + 1, F, h, id, h1, h2 => by
    unfold sameRg at h
    rw [Bool.and_eq_true] at h
    by_cases q : id = F
    · subst q
      rw [eqOB_sound h.1]
      cases Tr.get t0 id <;> rfl
    · exact sameRg_some h.2 id (by omega) (by omega)
theorem okRg_some {c : C} {t : Tr AB} : ∀ {k F : Nat}, okRg c t k F = true → ∀ id, F ≤ id → id < F + k → ∀ b, Tr.get t id = some b → ((∃ vs, b = .cells vs) ∨ b = .dead) ∧ seen c.vis id = true
  | 0, F, _, id, h1, h2 => by omega
  | k + 1, F, h, id, h1, h2 => by
    unfold okRg at h
    rw [Bool.and_eq_true] at h
    intro b hb
    by_cases q : id = F
    · subst q
      have h' := h.1
      rw [hb] at h'
      cases b <;> first | (have h' : false = true := h'; cases h'; done) | skip
      · exact ⟨Or.inl ⟨_, rfl⟩, h'⟩
      · exact ⟨Or.inr rfl, h'⟩
    · exact okRg_some h.2 id (by omega) (by omega) b hb
theorem allLt_some {n : Nat} : ∀ {D : List Nat}, allLt n D = true → ∀ d ∈ D, d < n
  | [], _, d, hd => by cases hd
  | x :: D, h, d, hd => by
    unfold allLt at h
    rw [Bool.and_eq_true] at h
    rcases List.mem_cons.1 hd with rfl | hd
    · simpa [Nat.blt_eq] using h.1
    · exact allLt_some h.2 d hd
theorem bornLt_some {n : Nat} : ∀ {es : List (AV × AV × Nat)}, bornLt n es = true → ∀ e ∈ es, e.2.2 < n
  | [], _, d, hd => by cases hd
  | x :: D, h, d, hd => by
    unfold bornLt at h
    rw [Bool.and_eq_true] at h
    rcases List.mem_cons.1 hd with rfl | hd
    · simpa [Nat.blt_eq] using h.1
    · exact bornLt_some h.2 d hd
theorem slot_tops {sl : Tr AV} : ∀ {D : List Nat} (_ : ∀ d ∈ D, d < 10000000) (t : Nat), slot (tops D sl) t = if t ∈ D then .top else slot sl t
  | [], _, t => by simp [tops]
  | d :: D, h, t => by
    have e : tops (d :: D) sl = Tr.set depth (tops D sl) d .top := by
      show Tr.setK depth (tops D sl) d .top _root_.id = _
      rw [Tr.setK_eq]; rfl
    rw [e, slot_set (h d (by simp)), slot_tops (fun x hx => h x (by simp [hx])) t]
    by_cases q : d = t
    · subst q; simp
    · rw [if_neg q]
      by_cases q2 : t ∈ D
      · rw [if_pos q2, if_pos (by simp [q2])]
      · rw [if_neg q2, if_neg (by simp [q2]; exact Ne.symm q)]
theorem okSl_some {slD sl : Tr AV} : ∀ {n : Nat}, okSl slD sl n = true → ∀ t, t < n → slot slD t = .top ∨ slot sl t = slot slD t
  | 0, _, t, h => by omega
  | n + 1, h, t, ht => by
    unfold okSl at h
    rw [Bool.and_eq_true, Bool.or_eq_true] at h
    by_cases q : t = n
    · subst q
      rcases h.1 with h1 | h1
      · left
        cases hs : slot slD t <;> rw [hs] at h1 <;> first | rfl | (have h1' : false = true := h1; cases h1')
      · exact Or.inr (eqAV_sound _ _ h1)
    · exact okSl_some h.2 t (by omega)
theorem findOwn_some {id i : Nat} {o : Own} : ∀ {own : List Own}, findOwn id i own = some o → o ∈ own ∧ o.id = id ∧ o.i = i
  | [], h => by cases h
  | x :: own, h => by
    unfold findOwn at h
    cases hb : (Nat.beq x.id id && Nat.beq x.i i) with
    | true =>
      rw [hb] at h
      cases h
      rw [Bool.and_eq_true] at hb
      exact ⟨by simp, Nat.eq_of_beq_eq_true hb.1, Nat.eq_of_beq_eq_true hb.2⟩
    | false =>
      rw [hb] at h
      obtain ⟨h1, h2⟩ := findOwn_some (own := own) h
      exact ⟨by simp [h1], h2⟩
structure OwnOk (n : Nat) (t : Tr AB) (bs : List Nat) (own : List Own) (o : Own) : Prop where
  lo : n ≤ o.v
  hi : o.v < n + own.length
  fin : plainV o.fin = true
  born : o.b ∈ bs
  old : ∀ vs x, Tr.get t o.id = some (.cells vs) → vs[o.i]? = some x → plainV x = true
theorem ownsOk_some {n : Nat} {t : Tr AB} {bs : List Nat} : ∀ {own : List Own}, ownsOk n t bs own = true → (∀ o ∈ own, OwnOk n t bs own o) ∧ ∀ o ∈ own, ∀ o' ∈ own, o.v = o'.v → o = o'
  | [], _ => ⟨fun o h => absurd h (by simp), fun o h => absurd h (by simp)⟩
  | x :: own, h => by
    unfold ownsOk at h
    simp only [Bool.and_eq_true] at h
    obtain ⟨⟨⟨⟨h1, h2⟩, h3⟩, h4⟩, h5⟩ := h
    obtain ⟨k1, k2⟩ := ownsOk_some h5
    have hx : x.v = n + own.length := by
      have := Nat.eq_of_beq_eq_true h1
      rw [lenN_eq] at this
      exact this
    refine ⟨fun o ho => ?_, fun o ho o' ho' he => ?_⟩
    · rcases List.mem_cons.1 ho with rfl | ho
      · refine ⟨by omega, by simp; omega, h2, by simpa using h3, fun vs y e1 e2 => ?_⟩
        rw [e1] at h4
        simp only [nth_eq, e2] at h4
        exact h4
      · have := k1 o ho
        exact ⟨this.lo, by have := this.hi; simp; omega, this.fin, this.born, this.old⟩
    · rcases List.mem_cons.1 ho with q | q <;> rcases List.mem_cons.1 ho' with q' | q'
      · rw [q, q']
      · have := (k1 o' q').hi; rw [q] at he; omega
      · have := (k1 o q).hi; rw [q'] at he; omega
      · exact k2 o q o' q' he
/-- what the check says -/
structure RngOk (ih : Runner) (c : C) (nt : Nat) (rd : Bool) (x t u : Nat) (b : XC) (sl : Tr AV) (h : H) (it m since clock : Nat) (es : List (AV × AV × Nat)) (F k N : Nat) (own : List Own) (D : List Nat) : Prop where
  slot : slot sl x = .ptr it 0
  iter : ∃ last, getB c h it = some (.iter (some m) since [] last) ∧ since ≤ last
  map : getB c h m = some (.map es clock)
  flo : c.floor ≤ it
  vis : seen c.vis it = true
  hk : F + k = h.n
  low : c.floor ≤ F
  big : N ≤ 10000000
  hN : h.n + own.length + 1 ≤ N
  ht : t < nt
  hu : u < nt
  hD : ∀ d ∈ D, d < nt
  tD : t ∈ D
  uD : u ∈ D
  xD : x ∉ D
  born : ∀ e ∈ es, e.2.2 < since
  sc : since ≤ clock
  rg : ∀ id, F ≤ id → id < h.n → ∀ b, Tr.get (Tr.set depth h.t it .dead) id = some b → ((∃ vs, b = .cells vs) ∨ b = .dead) ∧ seen c.vis id = true
  own1 : ∀ o ∈ own, OwnOk h.n (Tr.set depth h.t it .dead) (es.map fun e => e.2.2) own o
  own2 : ∀ o ∈ own, ∀ o' ∈ own, o.v = o'.v → o = o'
  mF : m < F
  itF : F ≤ it
  round : ∀ e ∈ es, ∃ sl' h', ih ⟨F, c.vis⟩ (.code nt rd b (Tr.set depth (Tr.set depth (tops D sl) t (.tup [.bool true, e.1, e.2.1])) u (.bool true)) []) ⟨mapRg (gI it m since e.2.2 clock (h.n + own.length) (cellV own e.2.2)) k F (Tr.set depth h.t it .dead), h.n + own.length + 1⟩ = .code .normal sl' [] h' ∧
    h'.n ≤ N ∧ (∀ id, F ≤ id → id < h.n → Tr.get h'.t id = (Tr.get (Tr.set depth h.t it .dead) id).map (gI it m since e.2.2 clock (h.n + own.length) (cellE own e.2.2) id)) ∧ ∀ t, t < nt → Ev.slot (tops D sl) t = .top ∨ Ev.slot sl' t = Ev.slot (tops D sl) t
theorem guessC_some {R : Type} {n id b : Nat} : ∀ (xs ys : List AV) (i : Nat) (acc : List Own) (K : List Own → R), ∃ acc', guessC n id b i xs ys acc K = K acc'
  | [], ys, i, acc, K => ⟨acc, by unfold guessC; rfl⟩
  | x :: xs, [], i, acc, K => ⟨acc, by unfold guessC; rfl⟩
  | x :: xs, y :: ys, i, acc, K => by
    unfold guessC
    cases eqAV x y with
    | true => exact guessC_some xs ys _ acc K
    | false =>
      simp only [cond]
      cases findOwn id i acc with
      | some o => exact guessC_some xs ys _ acc K
      | none => simp only [forceNat_eq]; exact guessC_some xs ys _ _ K
theorem guessB_some {R : Type} {n b : Nat} {t t' : Tr AB} : ∀ (k F : Nat) (acc : List Own) (K : List Own → R), ∃ acc', guessB n b t t' k F acc K = K acc'
  | 0, F, acc, K => ⟨acc, by unfold guessB; rfl⟩
  | k + 1, F, acc, K => by
    unfold guessB
    rw [forceNat_eq]
    split
    · rename_i xs ys _ _
      obtain ⟨acc1, e⟩ := guessC_some (n := n) (id := F) (b := b) xs ys 0 acc (fun acc => guessB n b t t' k (Nat.succ F) acc K)
      rw [e]
      exact guessB_some k _ acc1 K
    · exact guessB_some k _ acc K
theorem guessS_some {R : Type} {sl sl' : Tr AV} : ∀ (t : Nat) (D : List Nat) (K : List Nat → R), ∃ D', guessS sl sl' t D K = K D'
  | 0, D, K => ⟨D, by unfold guessS; rfl⟩
  | t + 1, D, K => by
    unfold guessS
    cases (D.elem t || eqAV (slot sl t) (slot sl' t)) with
    | true => exact guessS_some t D K
    | false => simp only [cond, forceNat_eq]; exact guessS_some t _ K
theorem guessR_some {R : Type} {ih : Runner} {c : C} {nt : Nat} {rd : Bool} {t u : Nat} {b : XC} {sl : Tr AV} {h : H} {k F it m since clock : Nat} {r : R} : ∀ (es : List (AV × AV × Nat)) (own : List Own) (D : List Nat) (K : List Own → List Nat → Option R),
    guessR ih c nt rd t u b sl h k F it m since clock es own D K = some r → ∃ own' D', K own' D' = some r
  | [], own, D, K, e => ⟨own, D, e⟩
  | e0 :: es, own, D, K, e => by
    unfold guessR at e
    split at e
    · rename_i sl' h' _
      obtain ⟨own1, q1⟩ := guessB_some (n := h.n) (b := e0.2.2) (t := h.t) (t' := h'.t) k F own (fun own => guessS sl sl' nt D fun D => guessR ih c nt rd t u b sl h k F it m since clock es own D K)
      rw [q1] at e
      obtain ⟨D1, q2⟩ := guessS_some (sl := sl) (sl' := sl') nt D (fun D => guessR ih c nt rd t u b sl h k F it m since clock es own1 D K)
      rw [q2] at e
      exact guessR_some es own1 D1 K e
    · cases e
theorem checkR_some {ih : Runner} {c : C} {nt : Nat} {rd : Bool} {t u : Nat} {b : XC} {slD : Tr AV} {hd : H} {k F N n1 it m since clock v : Nat} {own : List Own} : ∀ {es : List (AV × AV × Nat)}, checkR ih c nt rd t u b slD hd k F N n1 it m since clock v own es = true →
    ∀ e ∈ es, ∃ sl' h', ih c (.code nt rd b (Tr.set depth (Tr.set depth slD t (.tup [.bool true, e.1, e.2.1])) u (.bool true)) []) ⟨mapRg (gI it m since e.2.2 clock v (cellV own e.2.2)) k F hd.t, n1⟩ = .code .normal sl' [] h' ∧
      h'.n ≤ N ∧ (∀ id, F ≤ id → id < F + k → Tr.get h'.t id = (Tr.get hd.t id).map (gI it m since e.2.2 clock v (cellE own e.2.2) id)) ∧ ∀ t, t < nt → slot slD t = .top ∨ slot sl' t = slot slD t
  | [], _, e, he => by cases he
  | e0 :: es, h, e, he => by
    unfold checkR at h
    rw [Bool.and_eq_true] at h
    rcases List.mem_cons.1 he with rfl | he
    · have h1 := h.1
      split at h1
      · rename_i sl' h' hr
        simp only [Bool.and_eq_true] at h1
        have hr' : ih c (.code nt rd b (Tr.set depth (Tr.set depth slD t (.tup [.bool true, e.1, e.2.1])) u (.bool true)) []) ⟨mapRg (gI it m since e.2.2 clock v (cellV own e.2.2)) k F hd.t, n1⟩ = .code .normal sl' [] h' := by
          unfold roundS at hr
          simp only [Tr.setK_eq, _root_.id] at hr
          exact hr
        exact ⟨sl', h', hr', Nat.le_of_ble_eq_true h1.1.1, sameRg_some h1.1.2, okSl_some h1.2⟩
      · cases h1
    · exact checkR_some h.2 e he
theorem rngI_some {ih : Runner} {c : C} {nt : Nat} {rd : Bool} {x t u id : Nat} {b : XC} {sl : Tr AV} {h : H} {r : Res} (hnt : nt ≤ 1000000) (hw : WF h) (e : rngI ih c nt rd x t u id b sl h = some r) :
    ∃ a1 a2 b' it m since clock es F k N own D, b = .seq a1 (.seq a2 b') ∧ RngOk ih c nt rd x t u b' sl h it m since clock es F k N own D ∧
      r = .code (.exit id) (Tr.set depth (Tr.set depth (tops D sl) t (.tup [.bool false])) u (.bool false)) [] ⟨mapRg (gB (cellF own)) k F (Tr.set depth h.t it .dead), N⟩ := by
  unfold rngI at e
  split at e
  · rename_i a1 a2 b'
    split at e
    · rename_i it hs
      split at e
      · rename_i m since last hi
        split at e
        · rename_i es clock hm
          cases hq : Nat.ble 2 (lenN es) with
          | false => rw [hq] at e; cases e
          | true =>
          rw [hq, cond_true] at e
          obtain ⟨f1, f2, e⟩ := setB_some e
          simp only [forceNat_eq] at e
          generalize hF : (bif Nat.ble c.floor (Nat.sub it 6) then Nat.sub it 6 else c.floor) = F at e
          obtain ⟨own, D, e⟩ := guessR_some _ _ _ _ e
          simp only [Tr.setK_eq] at e
          rw [Bool.cond_eq_ite] at e
          split at e
          · rename_i hc
            simp only [Bool.and_eq_true] at hc
            obtain ⟨⟨⟨⟨⟨⟨⟨⟨⟨⟨⟨⟨⟨⟨⟨⟨c1, c2⟩, c3⟩, c4⟩, c5⟩, c6⟩, c7⟩, c8⟩, c9⟩, c10⟩, c11⟩, c12⟩, c13⟩, c14⟩, c15⟩, c16⟩, c17⟩ := hc
            have hFn := Nat.le_of_ble_eq_true c1
            have e1 : lenN own = own.length := lenN_eq own
            have e2 : Nat.add h.n (lenN own) = h.n + own.length := by rw [e1]; rfl
            have e3 : Nat.sub h.n F = h.n - F := rfl
            have e4 : F + (h.n - F) = h.n := by omega
            rw [e2] at c3 c17 e
            rw [e3] at c12 c17 e
            simp only [Option.some.injEq] at e
            refine ⟨a1, a2, b', it, m, since, clock, es, F, h.n - F, _, own, D, rfl, ?_, e.symm⟩
            obtain ⟨k1, k2⟩ := ownsOk_some c13
            have c12' := okRg_some c12
            rw [e4] at c12'
            have c17' := checkR_some c17
            rw [e4] at c17'
            exact { slot := hs, iter := ⟨last, hi, Nat.le_of_ble_eq_true c10⟩, map := hm, flo := f1, vis := f2, hk := e4, low := Nat.le_of_ble_eq_true c2, big := Nat.le_of_ble_eq_true c3,
                    hN := Nat.le_add_right _ _, ht := by simpa [Nat.blt_eq] using c4, hu := by simpa [Nat.blt_eq] using c5, hD := allLt_some c6, tD := by simpa using c7, uD := by simpa using c8, xD := by simpa using c16,
                    born := bornLt_some c9, sc := Nat.le_of_ble_eq_true c11, rg := c12', own1 := k1, own2 := k2, mF := by simpa [Nat.blt_eq] using c14, itF := Nat.le_of_ble_eq_true c15, round := c17' }
          · cases e
        · cases e
      · cases e
    · cases e
  · cases e
end Go.Proofs.YtaioinkajndjkaaGreatDoor.Ev
/- A range over a map whose rounds do not meddle with each other: a round, whatever was visited before. -/
namespace Go.Proofs.YtaioinkajndjkaaGreatDoor.Ev
open Go
open Go.ChangeMaps (setBlock)
/-- what a cell holds when the entries of s have been visited -/
def gS (own : List Own) (s : List Nat) (id i : Nat) (x : AV) : AV := match findOwn id i own with
  | some o => if o.b ∈ s then o.fin else x
  | none => x
def gAt (F : Nat) (own : List Own) (s : List Nat) (id : Nat) (b : AB) : AB := if F ≤ id then gB (gS own s) id b else b
theorem view_iff {c : C} {h : H} {id : Nat} {b : AB} : view c h id = some b ↔ Tr.get h.t id = some b ∧ seen c.vis id = true ∧ b ≠ .dead := by
  constructor
  · intro q
    obtain ⟨q1, q2⟩ := getB_view q
    refine ⟨q1, q2, fun e => ?_⟩
    subst e
    have hg : getB c h id = some .dead := by unfold getB; rw [q2]; exact q1
    unfold view at q
    rw [hg] at q
    cases q
  · rintro ⟨q1, q2, q3⟩
    exact view_live (by unfold getB; rw [q2]; exact q1) q3
section
variable {P : Program} {ng : Nat}
/-- the state at the loop's head -/
structure Head (c : C) (h : H) (it since F : Nat) (own : List Own) (β : Bet) (w : World) (Li Lm : Loc) (s : List Nat) (w' : World) : Prop where
  os : w'.os = w.os
  tape : w'.tape = w.tape
  output : w'.output = w.output
  size : w.heap.size ≤ w'.heap.size
  iter : ∃ seen last, w'.heap[Li.blk]? = some (.mapIter (some Lm.blk) since seen last) ∧ since ≤ last ∧ ∀ b, b ∈ seen.toList ↔ b ∈ s
  frame : ∀ B, B < w.heap.size → (∀ id b L, c.floor ≤ id → view c h id = some b → β id = some L → L.blk ≠ B) → w'.heap[B]? = w.heap[B]?
  at_ : ∀ id b, view c ⟨Tr.set depth h.t it .dead, h.n⟩ id = some b → ∃ L, β id = some L ∧ L.blk < w'.heap.size ∧ BR β L w' (gAt F own s id b)
/-- the cell that a number stands for -/
def valOf (own : List Own) (β : Bet) (w : World) (v : Nat) : Value := match own.find? (fun o => o.v == v) with
  | some o => match β o.id with
    | some L => match w.heap[L.blk]? with
      | some (.cells cur _ _) => cur.getD (L.base + o.i) dv
      | _ => dv
    | none => dv
  | none => dv
theorem find_own {own : List Own} (h2 : ∀ o ∈ own, ∀ o' ∈ own, o.v = o'.v → o = o') {o : Own} (ho : o ∈ own) : own.find? (fun p => p.v == o.v) = some o := by
  cases hf : own.find? (fun p => p.v == o.v) with
  | none =>
    have := List.find?_eq_none.1 hf o ho
    simp at this
  | some o' =>
    have h1 := List.mem_of_find?_eq_some hf
    have h3 := List.find?_some hf
    rw [h2 o' h1 o ho (by simpa using h3)]
variable {c : C} {nt : Nat} {rd : Bool} {ih : Runner} {x t u : Nat} {b' : XC} {sl : Tr AV} {h : H} {it m since clock : Nat} {es : List (AV × AV × Nat)} {F k N : Nat} {own : List Own} {D : List Nat}
theorem head_round (R : RngOk ih c nt rd x t u b' sl h it m since clock es F k N own D) (hw : WF h) (hc : Ctx c h) (hnt : nt ≤ 1000000) (ihc : CodeOk P ng ih) {z : Code} (hz : cC P z = b')
    {β : Bet} {w : World} {a : Act} (hgb : GB ng β) (hr0 : HR c.floor β (view c h) w) (hsl0 : SlR nt [] β sl a) (hfr : ∀ id, h.n ≤ id → id < N → β id = none) {Li Lm : Loc} (hLi : β it = some Li) (hLi0 : Li.base = 0) (hLis : Li.blk < w.heap.size) (hLm : β m = some Lm)
    {s : List Nat} {a' : Act} {w' w1 : World} (hH : Head c h it since F own β w Li Lm s w') (hs' : SlR nt [] β (tops D sl) a') {e : AV × AV × Nat} (he : e ∈ es) (hes : e.2.2 ∉ s) {seenA : Array Nat} (hsn : ∀ b, b ∈ seenA.toList ↔ b ∈ s) {kv vv : Value} (hkv : VR β e.1 kv) (hvv : VR β e.2.1 vv)
    (h1 : w1.heap = w'.heap.setIfInBounds Li.blk (.mapIter (some Lm.blk) since (seenA.push e.2.2) clock)) (h2 : w1.os = w'.os) (h3 : w1.tape = w'.tape) (h4 : w1.output = w'.output)
    (ro : Option Nat) (m0 : Nat) (hro : rd = false → ro = none) (Q : Exit → Act → World → Prop) (hQ : ∀ a2 w2, Head c h it since F own β w Li Lm (e.2.2 :: s) w2 → SlR nt [] β (tops D sl) a2 → Q .normal a2 w2) :
    WPx (W ro) m0 P z Q ((a'.put (some t) (.tuple #[.bool true, kv, vv])).put (some u) (.bool true)) w1 := by
  have hitn : it < h.n := by
    obtain ⟨last, q, _⟩ := R.iter
    exact lt_of_get hw (getB_get q).1
  have hit10 : it < 10000000 := Nat.lt_of_lt_of_le hitn hw.small
  obtain ⟨lastI, hgi, _⟩ := R.iter
  have hvi : view c h it = some (.iter (some m) since [] lastI) := view_live hgi (fun q => by cases q)
  have hFn : F ≤ h.n := by have := R.hk; omega
  have hF10 : F + k ≤ 10000000 := by rw [R.hk]; exact hw.small
  have hown : own.length + h.n + 1 ≤ 10000000 := by have := R.hN; have := R.big; omega
  -- the blocks of the loop's start
  have hdget : ∀ id, Tr.get (Tr.set depth h.t it .dead) id = if it = id then some .dead else Tr.get h.t id := fun id => get_set40 _ _ _ _ hit10
  have hdv : ∀ id b, view c ⟨Tr.set depth h.t it .dead, h.n⟩ id = some b ↔ id ≠ it ∧ view c h id = some b := fun id b => by
    rw [view_iff, view_iff]
    show Tr.get (Tr.set depth h.t it .dead) id = some b ∧ _ ↔ _
    rw [hdget]
    by_cases q : it = id
    · rw [if_pos q]
      constructor
      · rintro ⟨q1, _, q3⟩; cases q1; exact absurd rfl q3
      · rintro ⟨q1, _⟩; exact absurd q.symm q1
    · rw [if_neg q]
      exact ⟨fun p => ⟨Ne.symm q, p⟩, fun p => p.2⟩
  -- the heap of the round
  obtain ⟨sl2, hh2, hev, hn2, hsame, hslk⟩ := R.round e he
  let v := h.n + own.length
  let hv : H := ⟨mapRg (gI it m since e.2.2 clock v (cellV own e.2.2)) k F (Tr.set depth h.t it .dead), v + 1⟩
  have hvget : ∀ id, Tr.get hv.t id = if F ≤ id ∧ id < h.n then (Tr.get (Tr.set depth h.t it .dead) id).map (gI it m since e.2.2 clock v (cellV own e.2.2) id) else Tr.get (Tr.set depth h.t it .dead) id := fun id => by
    have := mapRg_get (gI it m since e.2.2 clock v (cellV own e.2.2)) k F (Tr.set depth h.t it .dead) id hF10
    rw [R.hk] at this
    exact this
  have hdtop : ∀ id, h.n ≤ id → Tr.get (Tr.set depth h.t it .dead) id = none := fun id q => by rw [hdget, if_neg (by omega)]; exact hw.top id q
  have hwv : WF hv := by
    refine ⟨fun id hid => ?_, by show h.n + own.length + 1 ≤ _; omega⟩
    have hid' : h.n + own.length + 1 ≤ id := hid
    rw [hvget, if_neg (by omega)]
    exact hdtop id (by omega)
  have hcv : Ctx ⟨F, c.vis⟩ hv := ⟨by show F ≤ h.n + own.length + 1; omega, fun id q1 q2 => hc.vis id (by have q1' : h.n + own.length + 1 ≤ id := q1; omega) q2⟩
  have did := ihc ⟨F, c.vis⟩ nt rd z _ [] hv .normal sl2 [] hh2 hnt hcv hwv (by rw [hz]; exact hev)
  -- what the numbers stand for
  let β1 : Bet := fun id => if h.n ≤ id ∧ id < v then some ⟨0, 0, 0, valOf own β w' id⟩ else if id = v then some ⟨0, 0, 0, encS (seenA.push e.2.2)⟩ else β id
  have hβlt : ∀ id, id < h.n → β1 id = β id := fun id q => by
    show (if _ then _ else if _ then _ else _) = _
    rw [if_neg (by omega), if_neg (by show ¬ id = h.n + own.length; omega)]
  have hsub1 : Sub β β1 := fun id L q => by
    rcases Nat.lt_or_ge id h.n with p | p
    · rw [hβlt id p]; exact q
    · by_cases p2 : id < N
      · rw [hfr id p p2] at q; cases q
      · show (if _ then _ else if _ then _ else _) = _
        have := R.hN
        rw [if_neg (by show ¬ (h.n ≤ id ∧ id < h.n + own.length); omega), if_neg (by show ¬ id = h.n + own.length; omega)]; exact q
  have hβv : β1 v = some ⟨0, 0, 0, encS (seenA.push e.2.2)⟩ := by
    show (if _ then _ else if _ then _ else _) = _
    rw [if_neg (by omega), if_pos rfl]
  have hβo : ∀ o ∈ own, β1 o.v = some ⟨0, 0, 0, valOf own β w' o.v⟩ := fun o ho => by
    have := (R.own1 o ho).lo
    have := (R.own1 o ho).hi
    show (if _ then _ else if _ then _ else _) = _
    rw [if_pos ⟨by omega, by show o.v < h.n + own.length; omega⟩]
  have hltn : ∀ {id b}, view c h id = some b → id < h.n := fun {id b} q => lt_of_get hw (getB_view q).1
  have noIt : ∀ id b L, view c h id = some b → id ≠ it → β id = some L → L.blk ≠ Li.blk := fun id b L q1 q2 q3 q4 => by
    rcases hr0.inj id it b _ L Li q1 hvi q3 hLi q4 with p | p
    · exact q2 p
    · have := R.flo; omega
  have heapI : w1.heap[Li.blk]? = some (.mapIter (some Lm.blk) since (seenA.push e.2.2) clock) := by
    rw [h1, Array.getElem?_setIfInBounds_self_of_lt (by have := hH.size; omega)]
  have heapO : ∀ B, B ≠ Li.blk → w1.heap[B]? = w'.heap[B]? := fun B q => by rw [h1]; simp [Array.getElem?_setIfInBounds_ne (Ne.symm q)]
  have hsz1 : w1.heap.size = w'.heap.size := by rw [h1]; simp
  -- a live block of the round's heap
  have live : ∀ id bb, view ⟨F, c.vis⟩ hv id = some bb → (id = it ∧ bb = .iterL m since e.2.2 clock v) ∨ (id ≠ it ∧ ∃ b0, view c h id = some b0 ∧ bb = (if F ≤ id then gB (cellV own e.2.2) id b0 else b0)) := fun id bb q => by
    obtain ⟨q1, q2, q3⟩ := view_iff.1 q
    rw [hvget] at q1
    by_cases p : F ≤ id ∧ id < h.n
    · rw [if_pos p, hdget] at q1
      by_cases p2 : it = id
      · rw [if_pos p2] at q1
        simp only [Option.map_some, Option.some.injEq] at q1
        left
        refine ⟨p2.symm, ?_⟩
        rw [← q1]
        unfold gI
        have : Nat.beq id it = true := by rw [p2]; simp
        rw [this]; rfl
      · rw [if_neg p2] at q1
        right
        cases hg : Tr.get h.t id with
        | none => rw [hg] at q1; cases q1
        | some b0 =>
          rw [hg] at q1
          simp only [Option.map_some, Option.some.injEq] at q1
          have hne : Nat.beq id it = false := by
            cases hb : Nat.beq id it with
            | false => rfl
            | true => exact absurd (Nat.eq_of_beq_eq_true hb).symm p2
          unfold gI at q1
          rw [hne] at q1
          refine ⟨Ne.symm p2, b0, view_iff.2 ⟨hg, q2, fun q4 => ?_⟩, ?_⟩
          · subst q4; exact q3 q1.symm
          · rw [if_pos p.1]; exact q1.symm
    · rw [if_neg p, hdget] at q1
      by_cases p2 : it = id
      · rw [if_pos p2] at q1; cases q1; exact absurd rfl q3
      · rw [if_neg p2] at q1
        have := lt_of_get hw q1
        right
        refine ⟨Ne.symm p2, bb, view_iff.2 ⟨q1, q2, q3⟩, ?_⟩
        rw [if_neg (by omega)]
  have liveh : ∀ id bb, view ⟨F, c.vis⟩ hv id = some bb → ∃ b0, view c h id = some b0 := fun id bb q => by
    rcases live id bb q with ⟨rfl, _⟩ | ⟨_, b0, q1, _⟩
    · exact ⟨_, hvi⟩
    · exact ⟨b0, q1⟩
  have isCells : ∀ id b0, F ≤ id → id ≠ it → view c h id = some b0 → ∃ vs, b0 = .cells vs := fun id b0 q1 q2 q3 => by
    obtain ⟨p1, p2, p3⟩ := view_iff.1 q3
    have := R.rg id q1 (lt_of_get hw p1) b0 (by rw [hdget, if_neg (Ne.symm q2)]; exact p1)
    rcases this.1 with q | q
    · exact q
    · exact absurd q p3
  -- the cells of the world at the head
  have cellsAt : ∀ id vs, F ≤ id → id ≠ it → view c h id = some (.cells vs) → ∃ (L : Loc) (cur : Array Value) (ty : TypeId × (Nat × Nat)), β id = some L ∧ L.blk < w'.heap.size ∧ w'.heap[L.blk]? = some (.cells cur ty.1 ty.2) ∧ Fz cur ty.2 L vs.length ∧ ∀ (i : Nat) (x0 : AV), vs[i]? = some x0 → ∃ c0, cur[L.base + i]? = some c0 ∧ VR β (gS own s id i x0) c0 := fun id vs q1 q2 q3 => by
    obtain ⟨L, k1, k2, k3⟩ := hH.at_ id _ ((hdv id _).2 ⟨q2, q3⟩)
    unfold gAt at k3
    rw [if_pos q1] at k3
    obtain ⟨cur, ty, k4, k5, k6⟩ := k3
    rw [mapC_length] at k5
    refine ⟨L, cur, ty, k1, k2, k4, k5, fun i x0 hx => ?_⟩
    obtain ⟨c0, k7, k8⟩ := k6 i (gS own s id i x0) (by rw [mapC_get, hx]; simp)
    exact ⟨c0, k7, k8⟩
  have ownVal : ∀ o ∈ own, ∀ vs x0, F ≤ o.id → o.id ≠ it → view c h o.id = some (.cells vs) → vs[o.i]? = some x0 → ∀ (L : Loc) cur (ty : TypeId × (Nat × Nat)) c0, β o.id = some L → w'.heap[L.blk]? = some (.cells cur ty.1 ty.2) → cur[L.base + o.i]? = some c0 → valOf own β w' o.v = c0 := fun o ho vs x0 q1 q2 q3 q4 L cur ty c0 q5 q6 q7 => by
    unfold valOf
    rw [find_own R.own2 ho]
    simp only [q5, q6, Array.getD_eq_getD_getElem?, q7, Option.getD_some]
  have hr1 : HR F β1 (view ⟨F, c.vis⟩ hv) w1 := by
    refine ⟨fun id bb q => ?_, fun i j bi bj L M q1 q2 q3 q4 q5 => ?_⟩
    · rcases live id bb q with ⟨rfl, rfl⟩ | ⟨hne, b0, q1, rfl⟩
      · exact ⟨Li, hsub1 _ _ hLi, by rw [hsz1]; have := hH.size; omega, Lm, _, seenA.push e.2.2, hsub1 _ _ hLm, hβv, rfl, by simp, heapI, hLi0⟩
      · by_cases p : F ≤ id
        · rw [if_pos p]
          obtain ⟨vs, rfl⟩ := isCells id b0 p hne q1
          obtain ⟨L, cur, ty, k1, k2, k3, k4, k5⟩ := cellsAt id vs p hne q1
          refine ⟨L, hsub1 _ _ k1, by rw [hsz1]; exact k2, cur, ty, by rw [heapO _ (noIt id _ L q1 hne k1)]; exact k3, by rw [mapC_length]; exact k4, fun i y hy => ?_⟩
          rw [mapC_get] at hy
          cases hx : vs[i]? with
          | none => rw [hx] at hy; cases hy
          | some x0 =>
            rw [hx] at hy
            simp only [Option.map_some, Option.some.injEq, Nat.zero_add] at hy
            obtain ⟨c0, k6, k7⟩ := k5 i x0 hx
            refine ⟨c0, k6, ?_⟩
            rw [← hy]
            unfold cellV
            unfold gS at k7
            cases ho : findOwn id i own with
            | none => rw [ho] at k7; exact VR.mono hsub1 _ _ k7
            | some o =>
              rw [ho] at k7
              simp only at k7 ⊢
              obtain ⟨o1, o2, o3⟩ := findOwn_some ho
              cases hb : Nat.beq o.b e.2.2 with
              | true =>
                have hbe := Nat.eq_of_beq_eq_true hb
                rw [hbe, if_neg hes] at k7
                exact VR.mono hsub1 _ _ k7
              | false =>
                simp only [cond, VR]
                have hval := ownVal o o1 vs x0 (by rw [o2]; exact p) (by rw [o2]; exact hne) (by rw [o2]; exact q1) (by rw [o3]; exact hx) L cur ty c0 (by rw [o2]; exact k1) k3 (by rw [o3]; exact k6)
                refine ⟨_, hβo o o1, hval.symm, ?_⟩
                have hpl : plainV x0 = true := (R.own1 o o1).old vs x0 (by rw [hdget, if_neg (by rw [o2]; exact Ne.symm hne), o2]; exact (getB_view q1).1) (by rw [o3]; exact hx)
                by_cases hs : o.b ∈ s
                · rw [if_pos hs] at k7; exact (plain_vr (β := β) (R.own1 o o1).fin k7).2
                · rw [if_neg hs] at k7; exact (plain_vr (β := β) hpl k7).2
        · rw [if_neg p]
          obtain ⟨L, k1, k2, k3⟩ := hH.at_ id _ ((hdv id _).2 ⟨hne, q1⟩)
          unfold gAt at k3
          rw [if_neg p] at k3
          exact ⟨L, hsub1 _ _ k1, by rw [hsz1]; exact k2, k3.mono hsub1 (heapO _ (noIt id _ L q1 hne k1))⟩
    · obtain ⟨d1, p1⟩ := liveh i bi q1
      obtain ⟨d2, p2⟩ := liveh j bj q2
      rw [hβlt i (hltn p1)] at q3
      rw [hβlt j (hltn p2)] at q4
      rcases hr0.inj i j d1 d2 L M p1 p2 q3 q4 q5 with p | p
      · exact Or.inl p
      · have := R.low; exact Or.inr ⟨by omega, by omega⟩
  have hsl1 : SlR nt [] β1 (Tr.set depth (Tr.set depth (tops D sl) t (.tup [.bool true, e.1, e.2.1])) u (.bool true)) ((a'.put (some t) (.tuple #[.bool true, kv, vv])).put (some u) (.bool true)) :=
    SlR.putR (d := some u) (SlR.putR (d := some t) (hs'.mono hsub1) ⟨R.ht, rfl⟩ hnt (by
      simp only [VR, VRs]
      exact ⟨_, rfl, _, _, rfl, rfl, _, _, rfl, VR.mono hsub1 _ _ hkv, _, _, rfl, VR.mono hsub1 _ _ hvv, rfl⟩)) ⟨R.hu, rfl⟩ hnt (by simp [VR])
  refine did.2 β1 _ w1 [] (hgb.mono hsub1) hr1 rfl hsl1 (fun id q1 q2 => ?_) ro m0 hro Q fun β' a2 w2 df' hP hdf hsl2 => ?_
  · have q1' : h.n + own.length + 1 ≤ id := q1
    show (if _ then _ else if _ then _ else _) = _
    rw [if_neg (by show ¬ (h.n ≤ id ∧ id < h.n + own.length); omega), if_neg (by show ¬ id = h.n + own.length; omega)]
    exact hfr id (by omega) (by omega)
  have hdf' : df' = [] := hdf
  subst hdf'
  have hsub2 : Sub β β' := hsub1.trans hP.sub
  have h2get : ∀ id, F ≤ id → id < h.n → id ≠ it → ∀ vs, Tr.get h.t id = some (.cells vs) → Tr.get hh2.t id = some (.cells (mapC (cellE own e.2.2 id) 0 vs)) := fun id q1 q2 q3 vs q4 => by
    rw [hsame id q1 q2, hdget, if_neg (Ne.symm q3), q4]
    have hne : Nat.beq id it = false := by
      cases hb : Nat.beq id it with
      | false => rfl
      | true => exact absurd (Nat.eq_of_beq_eq_true hb) q3
    simp only [Option.map_some, gI, hne, cond, gB]
  refine hQ a2 w2 ⟨hP.os.trans (h2.trans hH.os), hP.tape.trans (h3.trans hH.tape), hP.output.trans (h4.trans hH.output), ?_, ?_, ?_, ?_⟩ ⟨hsl2.size, hsl2.defers, fun t' => ?_⟩
  · have := hP.size; have := hH.size; omega
  · have hg : Tr.get hh2.t it = some (.iterL m since e.2.2 clock v) := by
      rw [hsame it R.itF hitn, hdget, if_pos rfl]
      have : Nat.beq it it = true := by simp
      simp only [Option.map_some, gI, this, cond]
      rfl
    obtain ⟨L, k1, _, M, S, seen2, k2, k3, k4, k5, k6, _⟩ := hP.hr.at_ it _ (view_iff.2 ⟨hg, R.vis, fun q => by cases q⟩)
    rw [hsub2 _ _ hLi] at k1; cases k1
    rw [hsub2 _ _ hLm] at k2; cases k2
    rw [hP.sub _ _ hβv] at k3; cases k3
    have hseen : seen2 = seenA.push e.2.2 := (encS_inj k4).symm
    subst hseen
    refine ⟨_, _, k6, R.sc, fun b => ?_⟩
    rw [Array.toList_push, List.mem_append, hsn b]
    simp [or_comm]
  · intro B hB hB2
    have hBi : B ≠ Li.blk := fun q => hB2 it _ Li R.flo hvi hLi q.symm
    rw [hP.frame B (by rw [hsz1]; have := hH.size; omega) fun id bb L q1 q2 q3 => ?_, heapO B hBi]
    · exact hH.frame B hB hB2
    · obtain ⟨d1, p1⟩ := liveh id bb q2
      rw [hβlt id (hltn p1)] at q3
      exact hB2 id d1 L (Nat.le_trans R.low q1) p1 q3
  · intro id b hb
    obtain ⟨hne, hbv⟩ := (hdv id b).1 hb
    by_cases p : F ≤ id
    · obtain ⟨vs, rfl⟩ := isCells id b p hne hbv
      obtain ⟨L, cur, ty, k1, k2, k3, k4, k5⟩ := cellsAt id vs p hne hbv
      obtain ⟨p1, p2, p3⟩ := view_iff.1 hbv
      have hg := h2get id p (lt_of_get hw p1) hne vs p1
      obtain ⟨L', l1, l2, cur2, ty2, l3, l4, l5⟩ := hP.hr.at_ id _ (view_iff.2 ⟨hg, p2, fun q => by cases q⟩)
      rw [hsub2 _ _ k1] at l1; cases l1
      rw [mapC_length] at l4
      refine ⟨L, k1, l2, ?_⟩
      unfold gAt
      rw [if_pos p]
      refine ⟨cur2, ty2, l3, by rw [mapC_length]; exact l4, fun i y hy => ?_⟩
      rw [mapC_get] at hy
      cases hx : vs[i]? with
      | none => rw [hx] at hy; cases hy
      | some x0 =>
        rw [hx] at hy
        simp only [Option.map_some, Option.some.injEq, Nat.zero_add] at hy
        obtain ⟨c0, k6, k7⟩ := k5 i x0 hx
        obtain ⟨c2, l6, l7⟩ := l5 i (cellE own e.2.2 id i x0) (by rw [mapC_get, hx]; simp)
        refine ⟨c2, l6, ?_⟩
        rw [← hy]
        unfold cellE at l7
        unfold gS at k7 ⊢
        cases ho : findOwn id i own with
        | none => rw [ho] at k7 l7; exact VR.back hsub2 _ _ _ k7 l7
        | some o =>
          rw [ho] at k7 l7
          simp only at k7 l7 ⊢
          obtain ⟨o1, o2, o3⟩ := findOwn_some ho
          cases hbq : Nat.beq o.b e.2.2 with
          | true =>
            rw [hbq] at l7
            have hbe := Nat.eq_of_beq_eq_true hbq
            rw [if_pos (by simp [hbe])]
            exact (plain_vr (R.own1 o o1).fin l7).1
          | false =>
            rw [hbq] at l7
            simp only [cond, VR] at l7
            obtain ⟨S, m1, m2, m3⟩ := l7
            rw [hP.sub _ _ (hβo o o1)] at m1; cases m1
            have hval := ownVal o o1 vs x0 (by rw [o2]; exact p) (by rw [o2]; exact hne) (by rw [o2]; exact hbv) (by rw [o3]; exact hx) L cur ty c0 (by rw [o2]; exact k1) k3 (by rw [o3]; exact k6)
            have hcc : c2 = c0 := m2.trans hval
            subst hcc
            have hne2 : o.b ≠ e.2.2 := fun q => by rw [q] at hbq; simp at hbq
            by_cases hs : o.b ∈ s
            · rw [if_pos hs] at k7
              rw [if_pos (by simp [hs])]; exact k7
            · rw [if_neg hs] at k7
              rw [if_neg (by simp [hs, hne2])]; exact k7
    · obtain ⟨L, k1, k2, k3⟩ := hH.at_ id b hb
      have hLI := noIt id b L hbv hne k1
      have hfrm : w2.heap[L.blk]? = w'.heap[L.blk]? := by
        rw [hP.frame L.blk (by rw [hsz1]; exact k2) fun j bb M q1 q2 q3 q4 => ?_, heapO _ hLI]
        obtain ⟨d1, p1⟩ := liveh j bb q2
        rw [hβlt j (hltn p1)] at q3
        rcases hr0.inj j id d1 b M L p1 hbv q3 k1 q4 with q | q
        · have q1' : F ≤ j := q1
          omega
        · have q1' : F ≤ j := q1
          have := R.low; omega
      refine ⟨L, k1, by have := hP.size; omega, ?_⟩
      unfold gAt at k3 ⊢
      rw [if_neg p] at k3 ⊢
      exact k3.mono (Sub.refl _) hfrm
  · have hD10 : ∀ d ∈ D, d < 10000000 := fun d hd => by have := R.hD d hd; omega
    have hst := slot_tops (sl := sl) hD10 t'
    by_cases q : t' ∈ D
    · rw [hst, if_pos q]; simp [VR]
    · rw [hst, if_neg q]
      rcases Nat.lt_or_ge t' nt with p | p
      · rcases hslk t' p with r | r
        · rw [hst, if_neg q] at r
          rw [r]; simp [VR]
        · rw [hst, if_neg q] at r
          have := hsl2.at_ t'
          rw [r] at this
          exact VR.back hsub2 _ _ _ (hsl0.at_ t') this
      · have e0 := hsl0.at_ t'
        have e1 : a.tmps.getD t' undef = undef := by simp [Array.getD_eq_getD_getElem?, Array.getElem?_eq_none (by rw [hsl0.size]; exact p)]
        have e2 : a2.tmps.getD t' undef = undef := by simp [Array.getD_eq_getD_getElem?, Array.getElem?_eq_none (by rw [hsl2.size]; exact p)]
        rw [e1] at e0
        rw [e2]
        exact e0
end
end Go.Proofs.YtaioinkajndjkaaGreatDoor.Ev
/- A range over a map whose rounds do not meddle with each other: the loop. -/
namespace Go.Proofs.YtaioinkajndjkaaGreatDoor.Ev
open Go
open Go.ChangeMaps (setBlock)
theorem rngOf_spec {y : Code} {x t u id : Nat} (h : rngOf y = some (x, t, u, id)) : ∃ i o o' z, y = .seq (.region i #[o, o'] false) (.seq (.cond (.tmp u) .skip (.exit id)) z) ∧ o.op = .next (.tmp x) false ∧ o.dst = some t ∧ o.guard = none ∧ o'.op = .extract (.tmp t) 0 ∧ o'.dst = some u ∧ o'.guard = none := by
  unfold rngOf at h
  split at h
  · rename_i i ops u' id' z
    split at h
    · rename_i o o' hops
      split at h
      · rename_i x1 t1 t2 u2 e1 e2 e3 e4 e5 e6
        cases hb : (Nat.beq t1 t2 && Nat.beq u' u2) with
        | false => rw [hb] at h; cases h
        | true =>
          rw [hb] at h
          rw [Bool.and_eq_true] at hb
          have k1 := Nat.eq_of_beq_eq_true hb.1
          have k2 := Nat.eq_of_beq_eq_true hb.2
          cases h
          subst k1 k2
          have : ops = #[o, o'] := by apply Array.ext'; exact hops
          subst this
          exact ⟨i, o, o', z, rfl, e1, e2, e3, e4, e5, e6⟩
      · cases h
    · cases h
  · cases h
theorem er_mem {β : Bet} : ∀ {es : List (AV × AV × Nat)} {ces : List MapEntry}, ER β es ces → ∀ ce ∈ ces, ∃ e ∈ es, VR β e.1 ce.key ∧ VR β e.2.1 ce.val ∧ ce.born = e.2.2
  | [], ces, h, ce, hc => by
    have : ces = [] := h
    subst this; cases hc
  | x :: xs, ces, h, ce, hc => by
    obtain ⟨c0, ces', rfl, h1, h2, h3, h4⟩ := h
    rcases List.mem_cons.1 hc with rfl | hc
    · exact ⟨x, by simp, h1, h2, h3⟩
    · obtain ⟨e, k1, k2⟩ := er_mem h4 ce hc
      exact ⟨e, by simp [k1], k2⟩
theorem er_mem' {β : Bet} : ∀ {es : List (AV × AV × Nat)} {ces : List MapEntry}, ER β es ces → ∀ e ∈ es, ∃ ce ∈ ces, ce.born = e.2.2
  | [], ces, h, ce, hc => by cases hc
  | x :: xs, ces, h, e, hc => by
    obtain ⟨c0, ces', rfl, h1, h2, h3, h4⟩ := h
    rcases List.mem_cons.1 hc with rfl | hc
    · exact ⟨c0, by simp, h3⟩
    · obtain ⟨ce, k1, k2⟩ := er_mem' h4 e hc
      exact ⟨ce, by simp [k1], k2⟩
theorem filter_lt {α : Type} {p q : α → Bool} : ∀ {l : List α} {x : α}, x ∈ l → p x = true → q x = false → (∀ y, q y = true → p y = true) → (l.filter q).length < (l.filter p).length
  | [], x, h, _, _, _ => by cases h
  | y :: l, x, h, h1, h2, h3 => by
    have le : (l.filter q).length ≤ (l.filter p).length := by
      clear h
      induction l with
      | nil => simp
      | cons z l ih =>
        by_cases hz : q z = true
        · rw [List.filter_cons_of_pos hz, List.filter_cons_of_pos (h3 z hz)]; simp; exact ih
        · rw [List.filter_cons_of_neg hz]
          refine Nat.le_trans ih ?_
          by_cases hz' : p z = true
          · rw [List.filter_cons_of_pos hz']; simp
          · rw [List.filter_cons_of_neg hz']; exact Nat.le_refl _
    rcases List.mem_cons.1 h with rfl | h
    · rw [List.filter_cons_of_pos h1, List.filter_cons_of_neg (by rw [h2]; simp)]
      simp; omega
    · have ih := filter_lt h h1 h2 h3
      by_cases hz : q y = true
      · rw [List.filter_cons_of_pos hz, List.filter_cons_of_pos (h3 y hz)]; simp; exact ih
      · rw [List.filter_cons_of_neg hz]
        by_cases hz' : p y = true
        · rw [List.filter_cons_of_pos hz']; simp; omega
        · rw [List.filter_cons_of_neg hz']; exact ih
section
variable {P : Program} {ng : Nat}
variable {c : C} {nt : Nat} {rd : Bool} {ih : Runner} {x t u id : Nat} {b' : XC} {sl : Tr AV} {h : H} {it m since clock : Nat} {es : List (AV × AV × Nat)} {F k N : Nat} {own : List Own} {D : List Nat}
theorem rng_sound (R : RngOk ih c nt rd x t u b' sl h it m since clock es F k N own D) (hw : WF h) (hc : Ctx c h) (hnt : nt ≤ 1000000) (ihc : CodeOk P ng ih) {y : Code} (hy : rngOf y = some (x, t, u, id)) {a1 a2 : XC} (hcy : cC P y = .seq a1 (.seq a2 b')) :
    CodeDid P ng nt rd (.loop y) c sl [] h (.exit id) (Tr.set depth (Tr.set depth (tops D sl) t (.tup [.bool false])) u (.bool false)) [] ⟨mapRg (gB (cellF own)) k F (Tr.set depth h.t it .dead), N⟩ := by
  obtain ⟨i, o, o', z, rfl, p1, p2, p3, p4, p5, p6⟩ := rngOf_spec hy
  have hz : cC P z = b' := by
    have hcy' : XC.seq (cC P (.region i #[o, o'] false)) (.seq (cC P (.cond (.tmp u) .skip (.exit id))) (cC P z)) = .seq a1 (.seq a2 b') := hcy
    injection hcy' with _ q
    injection q with _ q
  obtain ⟨lastI, hgi, hsl_⟩ := R.iter
  have hitn : it < h.n := lt_of_get hw (getB_get hgi).1
  have hit10 : it < 10000000 := Nat.lt_of_lt_of_le hitn hw.small
  have hvi : view c h it = some (.iter (some m) since [] lastI) := view_live hgi (fun q => by cases q)
  have hF10 : F + k ≤ 10000000 := by rw [R.hk]; exact hw.small
  have hnN : h.n ≤ N := by have := R.hN; omega
  have hdget : ∀ id, Tr.get (Tr.set depth h.t it .dead) id = if it = id then some .dead else Tr.get h.t id := fun id => get_set40 _ _ _ _ hit10
  have hfget : ∀ id, Tr.get (mapRg (gB (cellF own)) k F (Tr.set depth h.t it .dead)) id = if F ≤ id ∧ id < h.n then (Tr.get (Tr.set depth h.t it .dead) id).map (gB (cellF own) id) else Tr.get (Tr.set depth h.t it .dead) id := fun id => by
    have := mapRg_get (gB (cellF own)) k F (Tr.set depth h.t it .dead) id hF10
    rw [R.hk] at this
    exact this
  have hst : Step c h ⟨mapRg (gB (cellF own)) k F (Tr.set depth h.t it .dead), N⟩ := by
    refine ⟨hnN, ⟨fun id hid => ?_, R.big⟩, fun id hid => ?_⟩
    · have hid' : N ≤ id := hid
      show Tr.get (mapRg _ _ _ _) id = none
      rw [hfget, if_neg (by omega), hdget, if_neg (by omega)]
      exact hw.top id (by omega)
    · show Tr.get (mapRg _ _ _ _) id = _ ∨ _
      rw [hfget]
      by_cases q : F ≤ id ∧ id < h.n
      · rw [if_pos q]
        cases hg : Tr.get (Tr.set depth h.t it .dead) id with
        | none =>
          left
          rw [hdget] at hg
          by_cases q2 : it = id
          · rw [if_pos q2] at hg; cases hg
          · rw [if_neg q2] at hg; rw [hg]; rfl
        | some b => exact Or.inr ⟨Nat.le_trans R.low q.1, (R.rg id q.1 hid b hg).2⟩
      · rw [if_neg q, hdget]
        by_cases q2 : it = id
        · exact Or.inr (by rw [← q2]; exact ⟨R.flo, R.vis⟩)
        · rw [if_neg q2]; exact Or.inl rfl
  refine ⟨hst, fun β a w df hgb hr hdf hsl hfr ro m0 hro Q hQ => ?_⟩
  have hdf' : df = [] := hdf
  subst hdf'
  obtain ⟨Li, hLi, hLis, om, q1, hLi0, _, q3⟩ := hr.at_ it _ hvi
  obtain ⟨Lm, hLm, rfl⟩ := q3 m rfl
  have hdv : ∀ id b, view c ⟨Tr.set depth h.t it .dead, h.n⟩ id = some b ↔ id ≠ it ∧ view c h id = some b := fun id b => by
    rw [view_iff, view_iff]
    show Tr.get (Tr.set depth h.t it .dead) id = some b ∧ _ ↔ _
    rw [hdget]
    by_cases q : it = id
    · rw [if_pos q]
      constructor
      · rintro ⟨q1, _, q3⟩; cases q1; exact absurd rfl q3
      · rintro ⟨q1, _⟩; exact absurd q.symm q1
    · rw [if_neg q]
      exact ⟨fun p => ⟨Ne.symm q, p⟩, fun p => p.2⟩
  have hD10 : ∀ d ∈ D, d < 10000000 := fun d hd => by have := R.hD d hd; omega
  have hslD : SlR nt [] β (tops D sl) a := ⟨hsl.size, hsl.defers, fun t' => by
    rw [slot_tops hD10]
    by_cases q : t' ∈ D
    · rw [if_pos q]; simp [VR]
    · rw [if_neg q]; exact hsl.at_ t'⟩
  have hmit : m ≠ it := by have := R.mF; have := R.itF; omega
  have hvm : view c ⟨Tr.set depth h.t it .dead, h.n⟩ m = some (.map es clock) := (hdv m _).2 ⟨hmit, view_map R.map⟩
  have gnil : ∀ id b, gAt F own [] id b = b := fun id b => by
    unfold gAt
    by_cases q : F ≤ id
    · rw [if_pos q]
      cases b <;> first | rfl | skip
      rename_i vs
      show AB.cells (mapC (gS own [] id) 0 vs) = _
      congr 1
      apply List.ext_getElem?
      intro j
      rw [mapC_get]
      cases vs[j]? with
      | none => rfl
      | some x0 =>
        simp only [Option.map_some, Option.some.injEq]
        unfold gS
        cases findOwn id (0 + j) own <;> simp
    · rw [if_neg q]
  have start : Head c h it since F own β w Li Lm [] w := ⟨rfl, rfl, rfl, Nat.le_refl _, ⟨#[], lastI, q1, hsl_, fun b => by simp⟩, fun _ _ _ => rfl, fun id b hb => by
    obtain ⟨L, k1, k2, k3⟩ := hr.at_ id b ((hdv id b).1 hb).2
    exact ⟨L, k1, k2, by rw [gnil]; exact k3⟩⟩
  show LoopWp (W ro) m0 P _ Q a w
  -- the loop, by what is left
  suffices main : ∀ (kk : Nat) (s : List Nat) (a' : Act) (w' : World), (es.filter fun e => !s.contains e.2.2).length = kk → Head c h it since F own β w Li Lm s w' → SlR nt [] β (tops D sl) a' → LoopWp (W ro) m0 P (.seq (.region i #[o, o'] false) (.seq (.cond (.tmp u) .skip (.exit id)) z)) Q a' w' from main _ [] a w rfl start hslD
  intro kk
  induction kk using Nat.strongRecOn with
  | ind kk ihk =>
    intro s a' w' hkk hH hs'
    obtain ⟨seenA, lastA, i1, i2, i3⟩ := hH.iter
    obtain ⟨L0, j1, j2, j3⟩ := hH.at_ m _ hvm
    rw [hLm] at j1; cases j1
    have j3' : BR β Lm w' (.map es clock) := by
      unfold gAt at j3
      rw [if_neg (by have := R.mF; omega)] at j3
      exact j3
    obtain ⟨ces, k10, k11⟩ := j3'
    have hold : ∀ q ∈ ces.toList, q.born < since := fun q hq => by
      obtain ⟨e, e1, _, _, e2⟩ := er_mem k11 q hq
      rw [e2]; exact R.born e e1
    have hvx : a'.eval (.tmp x) = .pointer (some ⟨Li.blk, 0, none⟩) := by
      have := hs'.at_ x
      rw [slot_tops hD10, if_neg R.xD, R.slot] at this
      simp only [VR] at this
      obtain ⟨L, l1, l2⟩ := this
      rw [hLi] at l1; cases l1
      rw [hLi0] at l2
      exact l2
    have ht' : t < a'.tmps.size := by rw [hs'.size]; exact R.ht
    have hd : ∀ q, o.op ≠ .defer q := fun q e => by rw [p1] at e; cases e
    have hd' : ∀ q, o'.op ≠ .defer q := fun q e => by rw [p4] at e; cases e
    -- the word of the step
    have two : ∀ (w2 : World) (T : Array Value) (ok : Bool) (QQ : Exit → Act → World → Prop), T[0]? = some (.bool ok) → QQ .normal ((a'.put (some t) (.tuple T)).put (some u) (.bool ok)) w2 → wpOpsIn (W ro) m0 P #[o, o'] QQ [1] (a'.put (some t) (.tuple T)) w2 := fun w2 T ok QQ hT hK => by
      rw [wpOpsIn_cons]
      unfold wpOpIn
      have hw2 : Region.wanted o' (yielded #[o, o'] (a'.put (some t) (.tuple T)).tmps) = true := by unfold Region.wanted; rw [p6]
      simp only [List.getElem?_toArray, List.getElem?_cons_succ, List.getElem?_cons_zero, hw2, if_true]
      refine ⟨fun _ _ => trivial, ?_⟩
      rw [Oper.semAt_eq _ _ _ hd']
      have hev : (a'.put (some t) (.tuple T)).eval (.tmp t) = .tuple T := by
        show (a'.put (some t) (.tuple T)).tmps.getD t undef = _
        rw [getD_put ht', if_pos rfl]
      have hrun : (execOp (a'.put (some t) (.tuple T)).eval o').run P w2 = .ok (.value (.bool ok)) w2 := by
        simp [execOp, p4, hev, Instr.extract, hT]
      rw [hrun, Oper.uponIn_value, p5]
      exact hK
    refine loop_unroll ?_
    refine wpIn_seq (wpIn_region ?_)
    have hr2 : List.range (#[o, o'] : Array Oper).size = [0, 1] := rfl
    rw [hr2, wpOpsIn_cons]
    unfold wpOpIn
    have hw1 : Region.wanted o (yielded #[o, o'] a'.tmps) = true := by unfold Region.wanted; rw [p3]
    simp only [List.getElem?_toArray, List.getElem?_cons_zero, hw1, if_true]
    have hex : execOp a'.eval o = execOp a'.eval o := rfl
    rcases run_next_at (P := P) w' o.type Li.blk Lm.blk since lastA seenA ces clock i1 k10 hold i2 with ⟨n1, n2⟩ | ⟨ce, n1, w1, n2, n3⟩
    · -- nothing is left
      refine ⟨fun _ _ => trivial, ?_⟩
      rw [Oper.semAt_eq _ _ _ hd]
      have hrun : (execOp a'.eval o).run P w' = .ok (.value (.tuple #[.bool false])) w' := by
        simp [execOp, p1, hvx, n2]
      rw [hrun, Oper.uponIn_value, p2]
      refine two w' #[.bool false] false _ (by simp) ?_
      have hall : ∀ e ∈ es, e.2.2 ∈ s := fun e he => by
        obtain ⟨ce, c1, c2⟩ := er_mem' k11 e he
        have hemp : leftOf ces seenA = #[] := Array.eq_empty_of_size_eq_zero n1
        unfold leftOf at hemp
        rw [Array.filter_eq_empty_iff] at hemp
        have := hemp ce (by simpa using c1)
        simp at this
        rw [← c2]
        exact (i3 ce.born).1 (by simpa using this)
      have hsz2 : ((a'.put (some t) (.tuple #[.bool false])).put (some u) (.bool false)).eval (.tmp u) = .bool false := by
        show Array.getD _ u undef = _
        rw [getD_put (by show u < (a'.tmps.setIfInBounds t _).size; simp; rw [hs'.size]; exact R.hu), if_pos rfl]
      show (Code.seq (.cond (.tmp u) .skip (.exit id)) z).wpIn (W ro) m0 P _ _ _
      refine wpIn_seq (wpIn_cond_false hsz2 (wpIn_exit ?_))
      show Q (.exit id) _ _
      refine hQ β _ w' [] ⟨hnN, Sub.refl _, fun j M r1 r2 => by (rw [r2] at r1; cases r1), ⟨fun j d e => ?_, fun i' j d1 d2 L M e1 e2 e3 e4 e5 => ?_⟩, hH.os, hH.tape, hH.output, hH.size, hH.frame, fun j M r1 r2 => by (rw [r2] at r1; cases r1), fun j d e => ?_⟩ rfl ?_
      · obtain ⟨v1, v2, v3⟩ := view_iff.1 e
        have v1' : Tr.get (mapRg (gB (cellF own)) k F (Tr.set depth h.t it .dead)) j = some d := v1
        rw [hfget] at v1'
        have gall : ∀ b0, gAt F own s j b0 = if F ≤ j then gB (cellF own) j b0 else b0 := fun b0 => by
          unfold gAt
          by_cases q : F ≤ j
          · rw [if_pos q, if_pos q]
            cases b0 <;> first | rfl | skip
            rename_i vs
            show AB.cells _ = AB.cells _
            congr 1
            apply List.ext_getElem?
            intro jj
            rw [mapC_get, mapC_get]
            cases vs[jj]? with
            | none => rfl
            | some x0 =>
              simp only [Option.map_some, Option.some.injEq]
              unfold gS cellF
              cases ho : findOwn j (0 + jj) own with
              | none => rfl
              | some oo =>
                obtain ⟨o1, _, _⟩ := findOwn_some ho
                have hb := (R.own1 oo o1).born
                simp only [List.mem_map] at hb
                obtain ⟨e', he', hbe⟩ := hb
                simp only
                rw [if_pos (by rw [← hbe]; exact hall e' he')]
          · rw [if_neg q, if_neg q]
        have fin : ∀ b0, Tr.get (Tr.set depth h.t it .dead) j = some b0 → d = (if F ≤ j then gB (cellF own) j b0 else b0) → ∃ L, β j = some L ∧ L.blk < w'.heap.size ∧ BR β L w' d := fun b0 g1 g2 => by
          have hne : b0 ≠ .dead := fun q => by
            subst q
            apply v3
            rw [g2]
            by_cases q2 : F ≤ j
            · rw [if_pos q2]; rfl
            · rw [if_neg q2]
          obtain ⟨L, l1, l2, l3⟩ := hH.at_ j b0 (view_iff.2 ⟨g1, v2, hne⟩)
          rw [gall, ← g2] at l3
          exact ⟨L, l1, l2, l3⟩
        by_cases q : F ≤ j ∧ j < h.n
        · rw [if_pos q] at v1'
          cases hg : Tr.get (Tr.set depth h.t it .dead) j with
          | none => rw [hg] at v1'; cases v1'
          | some b0 =>
            rw [hg] at v1'
            simp only [Option.map_some, Option.some.injEq] at v1'
            exact fin b0 hg (by rw [if_pos q.1]; exact v1'.symm)
        · rw [if_neg q] at v1'
          have hlt : j < h.n := by
            rcases Nat.lt_or_ge j h.n with r | r
            · exact r
            · rw [hdget, if_neg (by omega), hw.top j r] at v1'; cases v1'
          exact fin d v1' (by rw [if_neg (by omega)])
      · have back : ∀ j d, view c ⟨mapRg (gB (cellF own)) k F (Tr.set depth h.t it .dead), N⟩ j = some d → ∃ b0, view c h j = some b0 := fun j d e => by
          obtain ⟨v1, v2, v3⟩ := view_iff.1 e
          have v1' : Tr.get (mapRg (gB (cellF own)) k F (Tr.set depth h.t it .dead)) j = some d := v1
          rw [hfget] at v1'
          have g0 : ∃ b0, Tr.get (Tr.set depth h.t it .dead) j = some b0 ∧ b0 ≠ .dead := by
            by_cases q : F ≤ j ∧ j < h.n
            · rw [if_pos q] at v1'
              cases hg : Tr.get (Tr.set depth h.t it .dead) j with
              | none => rw [hg] at v1'; cases v1'
              | some b0 =>
                rw [hg] at v1'
                simp only [Option.map_some, Option.some.injEq] at v1'
                refine ⟨b0, rfl, fun q2 => v3 ?_⟩
                subst q2
                exact v1'.symm
            · rw [if_neg q] at v1'
              exact ⟨d, v1', v3⟩
          obtain ⟨b0, g1, g2⟩ := g0
          exact ⟨b0, ((hdv j b0).1 (view_iff.2 ⟨g1, v2, g2⟩)).2⟩
        obtain ⟨b1, r1⟩ := back i' d1 e1
        obtain ⟨b2, r2⟩ := back j d2 e2
        exact hr.inj i' j b1 b2 L M r1 r2 e3 e4 e5
      · obtain ⟨v1, v2, v3⟩ := view_iff.1 e
        have v1' : Tr.get (mapRg (gB (cellF own)) k F (Tr.set depth h.t it .dead)) j = some d := v1
        rw [hfget] at v1'
        left
        have g0 : ∃ b0, Tr.get (Tr.set depth h.t it .dead) j = some b0 ∧ b0 ≠ .dead := by
          by_cases q : F ≤ j ∧ j < h.n
          · rw [if_pos q] at v1'
            cases hg : Tr.get (Tr.set depth h.t it .dead) j with
            | none => rw [hg] at v1'; cases v1'
            | some b0 =>
              rw [hg] at v1'
              simp only [Option.map_some, Option.some.injEq] at v1'
              refine ⟨b0, rfl, fun q2 => v3 ?_⟩
              subst q2
              exact v1'.symm
          · rw [if_neg q] at v1'
            exact ⟨d, v1', v3⟩
        obtain ⟨b0, g1, g2⟩ := g0
        exact ⟨b0, ((hdv j b0).1 (view_iff.2 ⟨g1, v2, g2⟩)).2⟩
      · exact SlR.putR (d := some u) (SlR.putR (d := some t) hs' ⟨R.ht, rfl⟩ hnt (by
          simp only [VR, VRs]
          exact ⟨_, rfl, _, _, rfl, rfl, rfl⟩)) ⟨R.hu, rfl⟩ hnt (by simp [VR])
    · -- an entry is left
      refine ⟨fun _ _ => trivial, ?_⟩
      rw [Oper.semAt_eq _ _ _ hd]
      have hrun : (execOp a'.eval o).run P w' = .ok (.value (.tuple #[.bool true, ce.key, ce.val])) (setBlock w1 Li.blk (.mapIter (some Lm.blk) since (seenA.push ce.born) clock)) := by
        simp [execOp, p1, hvx, n3]
      rw [hrun, Oper.uponIn_value, p2]
      refine two _ #[.bool true, ce.key, ce.val] true _ (by simp) ?_
      have hmem : ce ∈ ces.toList ∧ ce.born ∉ s := by
        unfold leftOf at n1
        simp at n1
        refine ⟨by simpa using n1.1, fun q => n1.2 (by simpa using (i3 ce.born).2 q)⟩
      obtain ⟨e, he, hkv, hvv, hbe⟩ := er_mem k11 ce hmem.1
      have hes : e.2.2 ∉ s := by rw [← hbe]; exact hmem.2
      have hsz2 : ((a'.put (some t) (.tuple #[.bool true, ce.key, ce.val])).put (some u) (.bool true)).eval (.tmp u) = .bool true := by
        show Array.getD _ u undef = _
        rw [getD_put (by show u < (a'.tmps.setIfInBounds t _).size; simp; rw [hs'.size]; exact R.hu), if_pos rfl]
      show (Code.seq (.cond (.tmp u) .skip (.exit id)) z).wpIn (W ro) m0 P _ _ _
      refine wpIn_seq (wpIn_cond_true hsz2 (wpIn_skip ?_))
      refine WPx.wp (head_round (P := P) (ng := ng) R hw hc hnt ihc hz hgb hr hsl (fun id q1 q2 => hfr id q1 q2) hLi hLi0 hLis hLm hH hs' he hes i3 hkv hvv (w1 := setBlock w1 Li.blk (.mapIter (some Lm.blk) since (seenA.push ce.born) clock)) ?_ ?_ ?_ ?_ ro m0 hro _ fun a2 w2 hH2 hs2 => ?_)
      · rw [← hbe]; rcases n2 with rfl | rfl <;> rfl
      · rcases n2 with rfl | rfl <;> rfl
      · rcases n2 with rfl | rfl <;> rfl
      · rcases n2 with rfl | rfl <;> rfl
      · show LoopWp (W ro) m0 P _ Q a2 w2
        refine ihk _ ?_ (e.2.2 :: s) a2 w2 rfl hH2 hs2
        rw [← hkk]
        refine filter_lt he (by simpa using hes) (by simp) fun y hy => ?_
        simp at hy ⊢
        exact fun q => hy.2 q
end
end Go.Proofs.YtaioinkajndjkaaGreatDoor.Ev
/- The evaluator's answer holds. -/
namespace Go.Proofs.YtaioinkajndjkaaGreatDoor.Ev
open Go
section
variable {P : Program} {ng : Nat} {X : Exts} {M : Mf}
def MemoOk (P : Program) (ng : Nat) (M : Mf) : Prop := ∀ f args c h v h', M f args c h = some (v, h') → Ctx c h → WF h → UpDid P ng (.fn f) args c h v h'
theorem code_next {n : Nat} (hmx : P.follows .mixedOrders = true) (hO : OpOk P ng) (hng : P.globals.size ≤ ng) (ihc : CodeOk P ng (ev (cC P) (tblX P X) M n)) (ihf : CallOk P ng (callOf (ev (cC P) (tblX P X) M n))) : CodeOk P ng (ev (cC P) (tblX P X) M (n + 1)) := by
  intro c nt rd code sl ds h e sl' ds' h' hnt hc hw hev
  have hev' : stepC (ev (cC P) (tblX P X) M n) c nt rd (cC P code) sl ds h = .code e sl' ds' h' := hev
  cases code with
  | skip =>
    simp only [cC, stepC] at hev'
    cases hev'
    exact CodeDid.nothing hw fun r m Q a w hQ => wpIn_skip hQ
  | region id ops draws =>
    cases draws with
    | false =>
      simp only [cC, stepC] at hev'
      obtain ⟨rfl, rfl, e1⟩ := outRes_some hev'
      exact reg_sound hO ihf hng hnt hw hc e1
    | true =>
      simp only [cC] at hev'
      cases hok : okD ops (Region.before ops) with
      | false => rw [hok] at hev'; simp only [cond, stepC] at hev'; cases hev'
      | true =>
        rw [hok] at hev'
        simp only [cond, stepC] at hev'
        obtain ⟨rfl, rfl, e1⟩ := outRes_some hev'
        exact dreg_sound hmx hO ihf hng hnt hok hw hc e1
  | seq x y =>
    simp only [cC, stepC] at hev'
    cases hx : ev (cC P) (tblX P X) M n c (.code nt rd (cC P x) sl ds) h with
    | bad => rw [hx] at hev'; cases hev'
    | call _ _ => rw [hx] at hev'; cases hev'
    | code e1 sl1 ds1 h1 =>
      rw [hx] at hev'
      have d1 := ihc c nt rd x sl ds h e1 sl1 ds1 h1 hnt hc hw hx
      cases e1 with
      | normal =>
        simp only [seqRes] at hev'
        exact d1.seq (ihc c nt rd y sl1 ds1 h1 e sl' ds' h' hnt (hc.mono d1.1.le) d1.1.wf hev')
      | exit id => simp only [seqRes] at hev'; cases hev'; exact d1.seqOut (fun q => by cases q)
      | ret => simp only [seqRes] at hev'; cases hev'; exact d1.seqOut (fun q => by cases q)
  | cond v x y =>
    simp only [cC] at hev'
    cases hv : cV v with
    | none => rw [hv] at hev'; simp only [stepC] at hev'; cases hev'
    | some xv =>
      rw [hv] at hev'
      cases hg : gOk P v with
      | false => rw [hg] at hev'; simp only [stepC] at hev'; cases hev'
      | true =>
        rw [hg] at hev'
        simp only [stepC] at hev'
        have key : ∀ (β : Bet) (a : Act) df, GB ng β → SlR nt df β sl a → VR β (evV sl xv) (a.eval v) := fun β a df hgb hsl =>
          opsR_of (P := P) (ys := [v]) hng hgb (by simp [hg]) (fun t _ => hsl.at_ t) v (by simp) xv hv
        cases hs : evV sl xv <;> rw [hs] at hev' <;> first | (simp only [condRes] at hev'; cases hev'; done) | skip
        rename_i b
        cases b with
        | true =>
          simp only [condRes] at hev'
          have d := ihc c nt rd x sl ds h e sl' ds' h' hnt hc hw hev'
          refine ⟨d.1, fun β a w df hgb hr hdf hsl hfr ro m hro Q hQ => ?_⟩
          have k := key β a df hgb hsl
          rw [hs] at k; simp only [VR] at k
          exact wpIn_cond_true k (WPx.wp (d.2 β a w df hgb hr hdf hsl hfr ro m hro Q hQ))
        | false =>
          simp only [condRes] at hev'
          have d := ihc c nt rd y sl ds h e sl' ds' h' hnt hc hw hev'
          refine ⟨d.1, fun β a w df hgb hr hdf hsl hfr ro m hro Q hQ => ?_⟩
          have k := key β a df hgb hsl
          rw [hs] at k; simp only [VR] at k
          exact wpIn_cond_false k (WPx.wp (d.2 β a w df hgb hr hdf hsl hfr ro m hro Q hQ))
  | block id x =>
    simp only [cC, stepC] at hev'
    cases hx : ev (cC P) (tblX P X) M n c (.code nt rd (cC P x) sl ds) h with
    | bad => rw [hx] at hev'; cases hev'
    | call _ _ => rw [hx] at hev'; cases hev'
    | code e1 sl1 ds1 h1 =>
      rw [hx] at hev'
      have d1 := ihc c nt rd x sl ds h e1 sl1 ds1 h1 hnt hc hw hx
      have fin : e1 ≠ .exit id → e1 = e → sl1 = sl' → ds1 = ds' → h1 = h' → CodeDid P ng nt rd (.block id x) c sl ds h e sl' ds' h' := fun hne q1 q2 q3 q4 => by
        subst q1 q2 q3 q4
        refine ⟨d1.1, fun β a w df hgb hr hdf hsl hfr ro m hro Q hQ => ?_⟩
        show (Code.block id x).wpIn (W ro) m P Q a w
        refine wpIn_block (WPx.wp (d1.2 β a w df hgb hr hdf hsl hfr ro m hro _ fun β1 a1 w1 df1 hP1 hd1 hs1 => ?_))
        cases e1 with
        | normal => exact hQ β1 a1 w1 df1 hP1 hd1 hs1
        | ret => exact hQ β1 a1 w1 df1 hP1 hd1 hs1
        | exit id' =>
          have : id' ≠ id := fun q => hne (by rw [q])
          simp only [Ex.toExit, Exit.inBlock, if_neg this]
          exact hQ β1 a1 w1 df1 hP1 hd1 hs1
      cases e1 with
      | normal => simp only [blockRes] at hev'; cases hev'; exact fin (fun q => by cases q) rfl rfl rfl rfl
      | ret => simp only [blockRes] at hev'; cases hev'; exact fin (fun q => by cases q) rfl rfl rfl rfl
      | exit id' =>
        simp only [blockRes] at hev'
        cases hb : Nat.beq id' id with
        | false =>
          rw [hb] at hev'
          simp only [cond] at hev'
          cases hev'
          exact fin (fun q => by cases q; simp at hb) rfl rfl rfl rfl
        | true =>
          rw [hb] at hev'
          simp only [cond] at hev'
          cases hev'
          have hid : id' = id := Nat.eq_of_beq_eq_true hb
          refine ⟨d1.1, fun β a w df hgb hr hdf hsl hfr ro m hro Q hQ => ?_⟩
          show (Code.block id x).wpIn (W ro) m P Q a w
          refine wpIn_block (WPx.wp (d1.2 β a w df hgb hr hdf hsl hfr ro m hro _ fun β1 a1 w1 df1 hP1 hd1 hs1 => ?_))
          simp only [Ex.toExit, Exit.inBlock, if_pos hid]
          exact hQ β1 a1 w1 df1 hP1 hd1 hs1
  | loop x =>
    have old : seqRes (ev (cC P) (tblX P X) M n) c nt rd (cC P (.loop x)) (ev (cC P) (tblX P X) M n c (.code nt rd (cC P x) sl ds) h) = .code e sl' ds' h' → CodeDid P ng nt rd (.loop x) c sl ds h e sl' ds' h' := fun hev' => by
      cases hx : ev (cC P) (tblX P X) M n c (.code nt rd (cC P x) sl ds) h with
      | bad => rw [hx] at hev'; cases hev'
      | call _ _ => rw [hx] at hev'; cases hev'
      | code e1 sl1 ds1 h1 =>
        rw [hx] at hev'
        have d1 := ihc c nt rd x sl ds h e1 sl1 ds1 h1 hnt hc hw hx
        cases e1 with
        | normal =>
          simp only [seqRes] at hev'
          exact d1.loop (ihc c nt rd (.loop x) sl1 ds1 h1 e sl' ds' h' hnt (hc.mono d1.1.le) d1.1.wf hev')
        | exit id => simp only [seqRes] at hev'; cases hev'; exact d1.loopOut (fun q => by cases q)
        | ret => simp only [seqRes] at hev'; cases hev'; exact d1.loopOut (fun q => by cases q)
    cases hq : rngOf x with
    | none =>
      refine old (Eq.trans ?_ hev')
      simp only [cC, hq]; rfl
    | some q =>
      obtain ⟨q1, q2, q3, q4⟩ := q
      have hcl : cC P (.loop x) = .rng q1 q2 q3 q4 (cC P x) := by simp only [cC, hq]
      have hev2 : rngRes (ev (cC P) (tblX P X) M n) c nt rd q1 q2 q3 q4 (cC P x) sl ds h = .code e sl' ds' h' := by
        rw [hcl] at hev'
        exact hev'
      unfold rngRes at hev2
      split at hev2
      · split at hev2
        · rename_i r hr
          obtain ⟨a1, a2, b', it, m, since, clock, es, F, k, N, own, D, hb, R, rfl⟩ := rngI_some hnt hw hr
          cases hev2
          exact rng_sound R hw hc hnt ihc hq hb
        · exact old (by rw [hcl]; exact hev2)
      · exact old (by rw [hcl]; exact hev2)
  | rangeFunc f ps assign body =>
    simp only [cC] at hev'
    cases hv : cV f with
    | none => rw [hv] at hev'; simp only [stepC] at hev'; cases hev'
    | some xf =>
      rw [hv] at hev'
      cases hg : gOk P f with
      | false => rw [hg] at hev'; simp only [stepC] at hev'; cases hev'
      | true =>
        rw [hg] at hev'
        simp only [stepC] at hev'
        cases rd with
        | true => cases hev'
        | false => exact rf_next hng ihf hc hw hv hg hev'
  | exit id =>
    simp only [cC, stepC] at hev'
    cases hev'
    exact CodeDid.nothing hw fun r m Q a w hQ => wpIn_exit hQ
  | ret =>
    simp only [cC, stepC] at hev'
    cases hev'
    exact CodeDid.nothing hw fun r m Q a w hQ => wpIn_ret hQ
  | label l =>
    simp only [cC, stepC] at hev'
    cases hev'
    exact CodeDid.nothing hw fun r m Q a w hQ => wpIn_label hQ
  | _ => simp only [cC, stepC] at hev'; cases hev'
theorem tblOf_some {f : Nat} {x : XF} (h : tblOf P f = some x) : ∃ fn b rs, P.funcs[f]? = some fn ∧ fn.body = some b ∧ fn.results.toList.mapM (cRes P) = some rs ∧ fn.ntmps ≤ 1000000 ∧ x = { nt := fn.ntmps, res := rs, body := cC P b } := by
  unfold tblOf at h
  rw [Option.bind_eq_some_iff] at h
  obtain ⟨fn, h1, h2⟩ := h
  unfold cF at h2
  simp only [Option.bind_eq_bind, Option.bind_eq_some_iff] at h2
  obtain ⟨b, h3, rs, h4, h5⟩ := h2
  split at h5
  · rename_i hle
    simp at h5
    exact ⟨fn, b, rs, h1, h3, h4, hle, h5.symm⟩
  · cases h5
/-- a function's code -/
theorem fn_next {ih : Runner} {c : C} {f : Nat} {x : XF} {args : List AV} {h : H} {v : AV} {h' : H} (hNG : ∀ (f : Nat) (fn : Func), P.funcs[f]? = some fn → (fn.name == "runtime.NumGoroutine") = false) (ihc : CodeOk P ng ih) (hc : Ctx c h) (hw : WF h) (ht : tblOf P f = some x)
    (hev' : stepF ih c args h (some (.fn x)) = .call v h') : FnDid P ng f args c h v h' := by
  obtain ⟨fn, b, rs, h1, h2, h3, h4, rfl⟩ := tblOf_some ht
  simp only [stepF] at hev'
  cases hle : Nat.ble (lenN args) fn.ntmps with
  | false => rw [hle] at hev'; cases hev'
  | true =>
    rw [hle] at hev'
    simp only [cond, slotsOf_eq] at hev'
    have hle' : args.length ≤ fn.ntmps := by have := Nat.le_of_ble_eq_true hle; rwa [lenN_eq] at this
    cases hx : ih c (.code fn.ntmps false (cC P b) (setAll args 0 .nil) []) h with
    | bad => rw [hx] at hev'; cases hev'
    | call _ _ => rw [hx] at hev'; cases hev'
    | code e1 sl1 ds1 h1' =>
      rw [hx] at hev'
      have d := ihc c fn.ntmps false b _ [] h e1 sl1 ds1 h1' h4 hc hw hx
      have main : shutD c ds1 h1' (fun h => resOf c h sl1 rs fun vs => retRes h vs) = .call v h' → (e1 = .normal ∨ e1 = .ret) → FnDid P ng f args c h v h' := fun hres he => by
        obtain ⟨h2', hres, st2, hn2, hshut⟩ := shutD_some (P := P) (fun q => by cases q) ds1 h1' _ d.1.wf hres
        obtain ⟨vs, k1, _⟩ := resOf_some (P := P) (df := []) (nt := fn.ntmps) (fun q => by cases q) fn.results.toList rs _ h3 hres
        have hh : h2' = h' := by
          unfold retRes at k1
          split at k1 <;> (cases k1; rfl)
        subst hh
        refine ⟨d.1.trans st2, ⟨fn, h1, by rw [h2]; rfl, hNG f fn h1⟩, fun β w cargs hgb hr hv hfr R hR => ?_⟩
        refine (callsIn_w (r := none) (n := 0)).1 (callsIn_of_wp_marks h1 h2 trivial (WPx.wp (F := W none) (d.2 β _ w [] hgb hr rfl (start_slots hv hle' h4) (fun id q1 q2 => hfr id q1 (by rw [hn2]; exact q2)) none 0 (fun _ => rfl) _ fun β1 a1 w1 df1 hP1 hd1 hs1 => ?_)))
        have leave : LeavesInM (W none) 0 P fn a1.tmps R a1.defers .returning w1 := by
          rw [hs1.defers]
          refine hshut β1 w1 df1 hP1.hr hd1 0 fn a1.tmps R fun w2 hP2 => ?_
          obtain ⟨vs', k1', k2⟩ := resOf_some (P := P) (df := df1) (nt := fn.ntmps) (fun q => by cases q) fn.results.toList rs _ h3 hres
          obtain ⟨us, u1, u2, u3⟩ := k2 β1 a1 w2 hP2.hr hs1
          have hrun := run_results (P := P) u2 u3
          have hvr : VR β1 v (resV us) := by
            cases vs' with
            | nil =>
              simp only [retRes] at k1'
              cases k1'
              simp only [VRs] at u1; subst u1
              simp [VR, VRs, resV]
            | cons v1 vs' =>
              cases vs' with
              | nil =>
                simp only [retRes] at k1'
                cases k1'
                simp only [VRs] at u1
                obtain ⟨u, us', rfl, q1, rfl⟩ := u1
                exact q1
              | cons v2 vs' =>
                simp only [retRes] at k1'
                cases k1'
                have u1' := u1
                simp only [VRs] at u1
                obtain ⟨u, us', rfl, q1, u2', us'', rfl, q2, q3⟩ := u1
                simp only [VR, resV]
                exact ⟨_, rfl, by simpa using u1'⟩
          exact ⟨_, hrun, hR β1 _ w2 (hP1.trans hP2) hvr⟩
        rcases he with rfl | rfl
        · exact leave
        · exact leave
      cases e1 with
      | normal => exact main hev' (Or.inl rfl)
      | ret => exact main hev' (Or.inr rfl)
      | exit id => cases hev'
theorem call_next {n : Nat} (hNG : ∀ (f : Nat) (fn : Func), P.funcs[f]? = some fn → (fn.name == "runtime.NumGoroutine") = false) (hX : ExtOk P X) (hM : MemoOk P ng M) (ihc : CodeOk P ng (ev (cC P) (tblX P X) M n)) : CallOk P ng (callOf (ev (cC P) (tblX P X) M (n + 1))) := by
  intro f args c h v h' hc hw hcall
  unfold callOf at hcall
  have hev : ev (cC P) (tblX P X) M (n + 1) c (.call f args) h = .call v h' := by
    cases hx : ev (cC P) (tblX P X) M (n + 1) c (.call f args) h with
    | bad => rw [hx] at hcall; cases hcall
    | code _ _ _ _ => rw [hx] at hcall; cases hcall
    | call v1 h1 => rw [hx] at hcall; cases hcall; rfl
  cases f with
  | yld id => exact round_next ihc hc hw hev
  | fnB f =>
    have hev' : (match tblX P X f with | some (.fn x) => stepF (ev (cC P) (tblX P X) M n) c args h (some (.fn x)) | _ => .bad) = .call v h' := hev
    split at hev'
    · rename_i x ht
      unfold tblX at ht
      split at ht
      · cases ht
      · simp only [Option.map_eq_some_iff] at ht
        obtain ⟨x', h1, h2⟩ := ht
        cases h2
        exact fn_next hNG ihc hc hw h1 hev'
    · cases hev'
  | fn f =>
    show UpDid P ng (.fn f) args c h v h'
    have hev0 : (match M f args c h with | some r => Res.call r.1 r.2 | none => stepF (ev (cC P) (tblX P X) M n) c args h (tblX P X f)) = .call v h' := hev
    cases hmm : M f args c h with
    | some r =>
      rw [hmm] at hev0
      cases hev0
      exact hM f args c h r.1 r.2 hmm hc hw
    | none =>
    rw [hmm] at hev0
    have hev' : stepF (ev (cC P) (tblX P X) M n) c args h (tblX P X f) = .call v h' := hev0
    cases hx : extOf X f with
    | some g =>
      have ht : tblX P X f = some (.ext g) := by unfold tblX; rw [hx]
      rw [ht] at hev'
      simp only [stepF] at hev'
      split at hev'
      · rename_i v1 hg
        cases hev'
        refine ⟨Step.refl hw, fun β w cargs hgb hr hv hfr S hS r n o a K Q hK => ?_⟩
        have hS' : S = callFunc f cargs.toArray := hS
        subst hS'
        obtain ⟨u, q1, q2⟩ := hX f g hx args v hg β cargs w hv
        rw [q1, Oper.uponIn_value]
        exact hK β u w (Post.refl hr) q2
      · cases hev'
    | none =>
      have ht : tblX P X f = (tblOf P f).map .fn := by unfold tblX; rw [hx]
      rw [ht] at hev'
      cases hf : tblOf P f with
      | none => rw [hf] at hev'; cases hev'
      | some x =>
        rw [hf] at hev'
        exact (fn_next hNG ihc hc hw hf hev').up
theorem ev_sound (hmx : P.follows .mixedOrders = true) (hO : OpOk P ng) (hng : P.globals.size ≤ ng) (hNG : ∀ (f : Nat) (fn : Func), P.funcs[f]? = some fn → (fn.name == "runtime.NumGoroutine") = false) (hX : ExtOk P X) (hM : MemoOk P ng M) : ∀ n, CodeOk P ng (ev (cC P) (tblX P X) M n) ∧ CallOk P ng (callOf (ev (cC P) (tblX P X) M n))
  | 0 => ⟨fun c nt rd code sl ds h e sl' ds' h' _ _ _ q => (by cases q), fun f args c h v h' _ _ q => (by cases q)⟩
  | n + 1 =>
    have ih := ev_sound hmx hO hng hNG hX hM n
    ⟨code_next hmx hO hng ih.1 ih.2, call_next hNG hX hM ih.1⟩
theorem MemoOk.nil : MemoOk P ng (memoF []) := fun f args c h v h' q => by cases q
theorem MemoOk.no : MemoOk P ng noM := fun f args c h v h' q => by cases q
theorem MemoOk.cons {m : Memo} {ms : List Memo} (h1 : MemoOk P ng (memoF [m])) (h2 : MemoOk P ng (memoF ms)) : MemoOk P ng (memoF (m :: ms)) := fun f args c h v h' q hc hw => by
  unfold memoF memoOf at q
  cases hh : hitM m f args c h with
  | true =>
    rw [hh] at q
    exact h1 f args c h v h' (by unfold memoF memoOf; rw [hh]; exact q) hc hw
  | false =>
    rw [hh] at q
    exact h2 f args c h v h' q hc hw
end
end Go.Proofs.YtaioinkajndjkaaGreatDoor.Ev