/- Regions in any order: what holds when a set of the operations has run. -/
import Derived.Test.YtfoahdpnalbbgaaGreatDoorEvL
set_option linter.unusedVariables false
set_option linter.unusedSimpArgs false
namespace Go.Proofs.YtfoahdpnalbbgaaGreatDoor.Ev
open Go
/-- the evaluator's run through the operations in the text's order -/
structure TF (c : C) (m : Nat) (hs : Nat → H) (sls : Nat → Tr AV) (vs : Nat → AV) (cs : Nat → C) (pre : Nat → Nat → Prop) (looks writes : Nat → Nat → Prop) : Prop where
  le : ∀ j, j < m → (hs j).n ≤ (hs (j + 1)).n
  wf : ∀ j, j ≤ m → WF (hs j)
  touch : ∀ j, j < m → ∀ id, id < (hs j).n → Tr.get (hs (j + 1)).t id = Tr.get (hs j).t id ∨ seen (cs j).vis id = true
  back : ∀ j i, pre j i → i < j
  apart : ∀ i j, i < m → j < m → i ≠ j → ¬ pre j i → ¬ pre i j → ∀ id, id < (hs j).n → id < (hs i).n → Tr.get (hs (j + 1)).t id ≠ Tr.get (hs j).t id → seen (cs i).vis id = true → False
  slots : ∀ j i t, j < m → i < m → looks j t → writes i t → i ≠ j → (i < j → pre j i) ∧ (j < i → pre i j)
  own : ∀ j t, writes j t → looks j t
  wrote : ∀ j t, j < m → writes j t → slot (sls (j + 1)) t = vs j
  kept : ∀ j t, j < m → ¬ writes j t → slot (sls (j + 1)) t = slot (sls j) t
  low : ∀ j, j < m → c.floor ≤ (cs j).floor
  sees : ∀ j, j < m → ∀ id, seen (cs j).vis id = true → (hs j).n ≤ id ∨ (seen c.vis id = true ∧ id < (hs 0).n) ∨ ∃ i, i < j ∧ pre j i ∧ (hs i).n ≤ id ∧ id < (hs (i + 1)).n
  newer : ∀ j, j < m → ∀ id, (hs j).n ≤ id → id < (hs (j + 1)).n → seen (cs j).vis id = true
section
variable {c : C} {m : Nat} {hs : Nat → H} {sls : Nat → Tr AV} {vs : Nat → AV} {cs : Nat → C} {pre : Nat → Nat → Prop} {looks writes : Nat → Nat → Prop}
theorem TF.mono (F : TF c m hs sls vs cs pre looks writes) : ∀ (d i : Nat), i + d ≤ m → (hs i).n ≤ (hs (i + d)).n
  | 0, i, _ => Nat.le_refl _
  | d + 1, i, h => Nat.le_trans (F.mono d i (by omega)) (F.le (i + d) (by omega))
theorem TF.mono' (F : TF c m hs sls vs cs pre looks writes) {i j : Nat} (h : i ≤ j) (hj : j ≤ m) : (hs i).n ≤ (hs j).n := by
  have := F.mono (j - i) i (by omega)
  rwa [show i + (j - i) = j by omega] at this
/-- what nobody touches stays -/
theorem TF.same (F : TF c m hs sls vs cs pre looks writes) {i id : Nat} (hid : id < (hs i).n) : ∀ (d : Nat), i + d ≤ m → (∀ k, i ≤ k → k < i + d → Tr.get (hs (k + 1)).t id ≠ Tr.get (hs k).t id → False) → Tr.get (hs (i + d)).t id = Tr.get (hs i).t id
  | 0, _, _ => rfl
  | d + 1, h, hb => by
    have e := F.same hid d (by omega) (fun k h1 h2 => hb k h1 (by omega))
    by_cases q : Tr.get (hs (i + d + 1)).t id = Tr.get (hs (i + d)).t id
    · exact q.trans e
    · exact (hb (i + d) (by omega) (by omega) q).elim
theorem TF.same' (F : TF c m hs sls vs cs pre looks writes) {i j id : Nat} (h : i ≤ j) (hj : j ≤ m) (hid : id < (hs i).n) (hb : ∀ k, i ≤ k → k < j → Tr.get (hs (k + 1)).t id ≠ Tr.get (hs k).t id → False) : Tr.get (hs j).t id = Tr.get (hs i).t id := by
  have := F.same (i := i) hid (j - i) (by omega) (fun k h1 h2 => hb k h1 (by omega))
  rwa [show i + (j - i) = j by omega] at this
/-- an id has its operation -/
theorem TF.owner (F : TF c m hs sls vs cs pre looks writes) {i id : Nat} : ∀ (d : Nat), i + d ≤ m → (hs i).n ≤ id → id < (hs (i + d)).n → ∃ k, i ≤ k ∧ k < i + d ∧ (hs k).n ≤ id ∧ id < (hs (k + 1)).n
  | 0, _, h1, h2 => absurd h2 (by simp; exact h1)
  | d + 1, h, h1, h2 => by
    rcases Nat.lt_or_ge id (hs (i + d)).n with x | x
    · obtain ⟨k, a, b, e⟩ := F.owner d (by omega) h1 x
      exact ⟨k, a, by omega, e⟩
    · exact ⟨i + d, by omega, by omega, x, h2⟩
theorem TF.disj (F : TF c m hs sls vs cs pre looks writes) {i j id : Nat} (hi : i < m) (hj : j < m) (h1 : (hs i).n ≤ id) (h2 : id < (hs (i + 1)).n) (h3 : (hs j).n ≤ id) (h4 : id < (hs (j + 1)).n) : i = j := by
  rcases Nat.lt_trichotomy i j with x | x | x
  · have := F.mono' (i := i + 1) (j := j) (by omega) (by omega); omega
  · exact x
  · have := F.mono' (i := j + 1) (j := i) (by omega) (by omega); omega
theorem TF.keptTo (F : TF c m hs sls vs cs pre looks writes) {i t : Nat} : ∀ (d : Nat), i + d ≤ m → (∀ k, i ≤ k → k < i + d → ¬ writes k t) → slot (sls (i + d)) t = slot (sls i) t
  | 0, _, _ => rfl
  | d + 1, h, hk => (F.kept (i + d) t (by omega) (hk _ (by omega) (by omega))).trans (F.keptTo d (by omega) fun k h1 h2 => hk k h1 (by omega))

/-- when the set X has run -/
structure Inv (F : TF c m hs sls vs cs pre looks writes) (nt : Nat) (df : List Deferred) (N : Nat) (β0 : Bet) (w0 : World) (X : Nat → Prop) (β : Bet) (a : Act) (w : World) : Prop where
  inn : ∀ i, X i → i < m
  dc : ∀ i p, X i → pre i p → X p
  heap : ∃ V, Post c.floor (hs 0).n N β0 (view c (hs 0)) w0 β V w ∧ ∀ j, j ≤ m → ¬ X j → ∀ id b, (j < m → seen (cs j).vis id = true) → view c (hs j) id = some b →
    (∃ i, i < m ∧ ¬ X i ∧ (hs i).n ≤ id ∧ id < (hs (i + 1)).n) ∨ (∃ i, i < j ∧ i < m ∧ ¬ X i ∧ id < (hs i).n ∧ Tr.get (hs (i + 1)).t id ≠ Tr.get (hs i).t id) ∨ V id = some b
  dom : ∀ id L, β id = some L → β0 id = none → ∃ i, X i ∧ (hs i).n ≤ id ∧ id < (hs (i + 1)).n
  sl : ∀ j, j ≤ m → ¬ X j → ∀ t, (j < m → looks j t) → (∃ i, i < j ∧ i < m ∧ ¬ X i ∧ writes i t) ∨ VR β (slot (sls j) t) (a.tmps.getD t undef)
  size : a.tmps.size = nt
  defers : a.defers = df
variable {F : TF c m hs sls vs cs pre looks writes} {nt : Nat} {df : List Deferred} {N : Nat} {β0 : Bet} {w0 : World} {X : Nat → Prop} {β : Bet} {a : Act} {w : World}
theorem getB_view {c : C} {h : H} {id : Nat} {b : AB} (e : view c h id = some b) : Tr.get h.t id = some b ∧ seen c.vis id = true := getB_get (view_get e)
theorem view_same {c d : C} {h k : H} {id : Nat} (e : Tr.get h.t id = Tr.get k.t id) (h1 : seen c.vis id = true) (h2 : seen d.vis id = true) : view c h id = view d k id := by
  unfold view getB; rw [h1, h2, e]
theorem view_none {c : C} {h : H} {id : Nat} (h1 : seen c.vis id = false) : view c h id = none := by
  unfold view getB; rw [h1]; rfl
/-- what an operation that is ready sees -/
theorem Inv.runs (I : Inv F nt df N β0 w0 X β a w) (hc : Ctx c (hs 0)) {j : Nat} (hj : j < m) (hX : ¬ X j) (hp : ∀ p, pre j p → X p) (hfr : ∀ id, (hs 0).n ≤ id → id < (hs m).n → β0 id = none) :
    HR β (view (cs j) (hs j)) w ∧ (∀ t, looks j t → VR β (slot (sls j) t) (a.tmps.getD t undef)) ∧ (∀ id, (hs j).n ≤ id → id < (hs (j + 1)).n → β id = none) ∧
    ∃ V, Post c.floor (hs 0).n N β0 (view c (hs 0)) w0 β V w ∧ (∀ id b, view (cs j) (hs j) id = some b → V id = some b) ∧ ∀ j, j ≤ m → ¬ X j → ∀ id b, (j < m → seen (cs j).vis id = true) → view c (hs j) id = some b →
    (∃ i, i < m ∧ ¬ X i ∧ (hs i).n ≤ id ∧ id < (hs (i + 1)).n) ∨ (∃ i, i < j ∧ i < m ∧ ¬ X i ∧ id < (hs i).n ∧ Tr.get (hs (i + 1)).t id ≠ Tr.get (hs i).t id) ∨ V id = some b := by
  obtain ⟨V, hP, hV⟩ := I.heap
  have hsub : ∀ id b, view (cs j) (hs j) id = some b → V id = some b := fun id b e => by
    obtain ⟨e1, e2⟩ := getB_view e
    have hlt := lt_of_get (F.wf j (by omega)) e1
    have hsm := (F.wf j (by omega)).small
    have h0 : (hs 0).n ≤ (hs j).n := F.mono' (by omega) (by omega)
    have hseen : seen c.vis id = true ∧ (∀ i, i < m → ¬ X i → (hs i).n ≤ id → id < (hs (i + 1)).n → False) := by
      rcases F.sees j hj id e2 with q | ⟨q1, q2⟩ | ⟨i, q1, q2, q3, q4⟩
      · omega
      · refine ⟨q1, fun i hi _ h1 _ => ?_⟩
        have := F.mono' (i := 0) (j := i) (by omega) (by omega); omega
      · refine ⟨hc.vis id ?_ (by unfold big; omega), fun k hk hkX h1 h2 => ?_⟩
        · have := F.mono' (i := 0) (j := i) (by omega) (by omega); omega
        · have := F.disj (by omega) hk q3 q4 h1 h2
          subst this; exact hkX (hp _ q2)
    have e3 : view c (hs j) id = some b := (view_same rfl hseen.1 e2).trans e
    rcases hV j (by omega) hX id b (fun _ => e2) e3 with ⟨i, h1, h2, h3, h4⟩ | ⟨i, h1, h2, h3, h4, h5⟩ | h
    · exact (hseen.2 i h1 h2 h3 h4).elim
    · exact (F.apart j i hj h2 (by omega) (fun q => by have := F.back _ _ q; omega) (fun q => h3 (hp i q)) id h4 hlt h5 e2).elim
    · exact h
  refine ⟨hP.hr.sub hsub, fun t ht => ?_, fun id h1 h2 => ?_, V, hP, hsub, hV⟩
  · rcases I.sl j (by omega) hX t (fun _ => ht) with ⟨i, h1, h2, h3, h4⟩ | h
    · exact absurd (hp i ((F.slots j i t hj h2 ht h4 (by omega)).1 h1)) h3
    · exact h
  · cases hb : β id with
    | none => rfl
    | some L =>
      have q1 := F.mono' (i := 0) (j := j) (by omega) (by omega)
      have q2 := F.mono' (i := j + 1) (j := m) (by omega) (by omega)
      obtain ⟨i, h3, h4, h5⟩ := I.dom id L hb (hfr id (by omega) (by omega))
      have := F.disj (I.inn i h3) hj h4 h5 h1 h2
      subst this; exact absurd h3 hX
/-- and what holds behind it -/
theorem Inv.step (I : Inv F nt df N β0 w0 X β a w) (hc : Ctx c (hs 0)) {j : Nat} (hj : j < m) (hX : ¬ X j) (hp : ∀ p, pre j p → X p) (hfr : ∀ id, (hs 0).n ≤ id → id < (hs m).n → β0 id = none) (hN : (hs m).n ≤ N)
    {β' : Bet} {w' : World} {a' : Act} (hPo : Post (cs j).floor (hs j).n (hs (j + 1)).n β (view (cs j) (hs j)) w β' (view (cs j) (hs (j + 1))) w')
    (ha1 : a'.tmps.size = nt) (ha2 : a'.defers = df) (ha3 : ∀ t, writes j t → VR β' (vs j) (a'.tmps.getD t undef)) (ha4 : ∀ t, ¬ writes j t → a'.tmps.getD t undef = a.tmps.getD t undef) :
    Inv F nt df N β0 w0 (fun i => X i ∨ i = j) β' a' w' := by
  obtain ⟨_, _, _, V, hP, hsub, hV⟩ := I.runs hc hj hX hp hfr
  have q0 := F.mono' (i := 0) (j := j) (by omega) (by omega)
  have q1 := F.mono' (i := j + 1) (j := m) (by omega) (by omega)
  have q2 := F.le j hj
  have wfj := F.wf j (by omega)
  have wfj1 := F.wf (j + 1) (by omega)
  let V' : View := fun id => if seen (cs j).vis id = true ∧ id < (hs (j + 1)).n then view (cs j) (hs (j + 1)) id else V id
  have hV' : ∀ id b, V' id = some b → view (cs j) (hs (j + 1)) id = some b ∨ (V id = some b ∧ view (cs j) (hs j) id = none) := fun id b e => by
    simp only [V'] at e
    split at e
    · exact Or.inl e
    · rename_i hn
      refine Or.inr ⟨e, ?_⟩
      cases hs1 : seen (cs j).vis id with
      | false => exact view_none hs1
      | true =>
        have : ¬ id < (hs (j + 1)).n := fun x => hn ⟨hs1, x⟩
        cases hg : view (cs j) (hs j) id with
        | none => rfl
        | some b' =>
          have := lt_of_get wfj (getB_view hg).1
          omega
  have hw := hPo.wide (f0 := c.floor) (m := (hs 0).n) (m' := N) (V := V) (V' := V') hP.hr hsub (F.low j hj) q0 (by omega) hV'
  refine ⟨fun i h => by rcases h with h | h; exact I.inn i h; omega, fun i p h hpr => ?_, ⟨V', hP.trans2 hw (Nat.le_refl _) (Nat.le_refl _), fun j' hj' hX' id b hsee e => ?_⟩, fun id L h1 h2 => ?_, fun j' hj' hX' t ht => ?_, ha1, ha2⟩
  · rcases h with h | h
    · exact Or.inl (I.dc i p h hpr)
    · subst h; exact Or.inl (hp p hpr)
  · have hX1 : ¬ X j' := fun x => hX' (Or.inl x)
    have hne : j' ≠ j := fun x => hX' (Or.inr x)
    by_cases c1 : ∃ i, i < m ∧ ¬ (X i ∨ i = j) ∧ (hs i).n ≤ id ∧ id < (hs (i + 1)).n
    · exact Or.inl c1
    by_cases c2 : ∃ i, i < j' ∧ i < m ∧ ¬ (X i ∨ i = j) ∧ id < (hs i).n ∧ Tr.get (hs (i + 1)).t id ≠ Tr.get (hs i).t id
    · exact Or.inr (Or.inl c2)
    refine Or.inr (Or.inr ?_)
    have hbars : ∀ i, i < j' → i < m → id < (hs i).n → Tr.get (hs (i + 1)).t id ≠ Tr.get (hs i).t id → X i ∨ i = j := fun i h1 h2 h3 h5 => Classical.byContradiction fun h4 => c2 ⟨i, h1, h2, h4, h3, h5⟩
    have hrng : ∀ i, i < m → (hs i).n ≤ id → id < (hs (i + 1)).n → X i ∨ i = j := fun i h1 h2 h3 => Classical.byContradiction fun h4 => c1 ⟨i, h1, h4, h2, h3⟩
    obtain ⟨e1, e2⟩ := getB_view e
    have wfj' := F.wf j' hj'
    have hlt := lt_of_get wfj' e1
    have three := hV j' hj' hX1 id b hsee e
    by_cases hcase : seen (cs j).vis id = true ∧ id < (hs (j + 1)).n
    · have hVV : V' id = view (cs j) (hs (j + 1)) id := by simp only [V']; rw [if_pos hcase]
      rw [hVV]
      have key : Tr.get (hs (j + 1)).t id = Tr.get (hs j').t id := by
        rcases Nat.lt_or_ge j' j with x | x
        · have hsj' := hsee (by omega)
          have hl' := F.mono' (i := j') (j := j) (by omega) (by omega)
          refine F.same' (by omega) (by omega) hlt fun k h1 h2 hd => ?_
          have hidk : id < (hs k).n := Nat.lt_of_lt_of_le hlt (F.mono' (by omega) (by omega))
          by_cases hk2 : k = j'
          · subst hk2
            exact F.apart j k hj (by omega) (by omega) (fun q => by have := F.back _ _ q; omega) (fun q => hX1 (hp k q)) id hidk (by omega) hd hcase.1
          · by_cases hk : k = j
            · subst hk
              exact F.apart j' k (by omega) hj (by omega) (fun q => hX1 (hp j' q)) (fun q => by have := F.back _ _ q; omega) id hidk hlt hd hsj'
            · by_cases hXk : X k
              · exact F.apart j' k (by omega) (by omega) (by omega) (fun q => hX1 (I.dc k j' hXk q)) (fun q => by have := F.back _ _ q; omega) id hidk hlt hd hsj'
              · exact F.apart j k hj (by omega) (by omega) (fun q => by have := F.back _ _ q; omega) (fun q => hXk (hp k q)) id hidk (by omega) hd hcase.1
        · refine (F.same' (i := j + 1) (j := j') (by omega) hj' hcase.2 fun k h1 h2 hd => ?_).symm
          have hidk : id < (hs k).n := Nat.lt_of_lt_of_le hcase.2 (F.mono' (by omega) (by omega))
          have hXk : X k := by
            rcases hbars k h2 (by omega) hidk hd with q | q
            · exact q
            · omega
          have hnp : ¬ pre k j := fun q => hX (I.dc k j hXk q)
          rcases Nat.lt_or_ge id (hs j).n with q | q
          · exact F.apart j k hj (by omega) (by omega) hnp (fun q' => by have := F.back _ _ q'; omega) id hidk q hd hcase.1
          · rcases F.touch k (by omega) id hidk with p | p
            · exact hd p
            · rcases F.sees k (by omega) id p with p | p | ⟨i, p1, p2, p3, p4⟩
              · omega
              · have := F.mono' (i := 0) (j := j) (by omega) (by omega); omega
              · have := F.disj (by omega) hj p3 p4 q hcase.2
                subst this
                exact hnp p2
      exact (view_same key hcase.1 e2).trans e
    · have hVV : V' id = V id := by simp only [V']; rw [if_neg hcase]
      rw [hVV]
      rcases three with ⟨i, h1, h2, h3, h4⟩ | ⟨i, h1, h2, h3, h4, h5⟩ | h
      · rcases hrng i h1 h3 h4 with y | y
        · exact absurd y h2
        · subst y; exact absurd ⟨F.newer i hj id h3 h4, h4⟩ hcase
      · rcases hbars i h1 h2 h4 h5 with y | y
        · exact absurd y h3
        · subst y
          rcases F.touch i hj id h4 with p | p
          · exact absurd p h5
          · exact absurd ⟨p, by omega⟩ hcase
      · exact h
  · cases hb : β id with
    | some M =>
      obtain ⟨i, h3, h4⟩ := I.dom id M hb h2
      exact ⟨i, Or.inl h3, h4⟩
    | none => exact ⟨j, Or.inr rfl, hPo.fresh id L h1 hb⟩
  · have hX1 : ¬ X j' := fun x => hX' (Or.inl x)
    have hne : j' ≠ j := fun x => hX' (Or.inr x)
    by_cases c1 : ∃ i, i < j' ∧ i < m ∧ ¬ (X i ∨ i = j) ∧ writes i t
    · exact Or.inl c1
    refine Or.inr ?_
    have hall : ∀ i, i < j' → i < m → writes i t → X i ∨ i = j := fun i h1 h2 h3 => Classical.byContradiction fun h4 => c1 ⟨i, h1, h2, h4, h3⟩
    have bj : ∀ hwt : writes j t, j < j' := fun hwt => by
      rcases Nat.lt_or_ge j j' with y | y
      · exact y
      · exact absurd (hp j' ((F.slots j j' t hj (by omega) (F.own j t hwt) (by
          have := ht (by omega)
          exact Classical.byContradiction fun hnw => absurd (hp j' ((F.slots j' j t (by omega) hj this hwt (by omega)).2 (by omega))) hX1) hne).1 (by omega))) hX1
    by_cases hwt : writes j t
    · have hlt := bj hwt
      have e : slot (sls j') t = vs j := by
        have := F.keptTo (i := j + 1) (t := t) (j' - (j + 1)) (by omega) (fun k h1 h2 hwk => by
          rcases hall k (by omega) (by omega) hwk with y | y
          · exact absurd (I.dc k j y ((F.slots k j t (by omega) hj (F.own k t hwk) hwt (by omega)).1 (by omega))) hX
          · omega)
        rw [show j + 1 + (j' - (j + 1)) = j' by omega] at this
        exact this.trans (F.wrote j t hj hwt)
      rw [e]; exact ha3 t hwt
    · rw [ha4 t hwt]
      rcases I.sl j' hj' hX1 t ht with ⟨i, h1, h2, h3, h4⟩ | h
      · rcases hall i h1 h2 h4 with y | y
        · exact absurd y h3
        · subst y; exact absurd h4 hwt
      · exact VR.mono hPo.sub _ _ h
end
end Go.Proofs.YtfoahdpnalbbgaaGreatDoor.Ev
