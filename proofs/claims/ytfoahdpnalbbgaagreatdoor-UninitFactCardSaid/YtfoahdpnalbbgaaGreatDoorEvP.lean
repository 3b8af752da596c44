/- Plain facts on the evaluator's own functions. -/
import Derived.Test.YtfoahdpnalbbgaaGreatDoorEvA
set_option linter.unusedVariables false
namespace Go.Proofs.YtfoahdpnalbbgaaGreatDoor.Ev
open Go

theorem forceNat_eq {β : Type} (n : Nat) (k : Nat → β) : forceNat n k = k n := by cases n <;> rfl
theorem forceInt_eq {β : Type} (n : Int) (k : Int → β) : forceInt n k = k n := by cases n <;> simp [forceInt, forceNat_eq]
theorem forceBool_eq {β : Type} (b : Bool) (k : Bool → β) : forceBool b k = k b := by cases b <;> rfl

theorem takeK_some {α R : Type} {r : R} : ∀ {n : Nat} {l : List α} {k : List α → Option R}, takeK n l k = some r → n ≤ l.length ∧ k (l.take n) = some r
  | 0, l, k, h => ⟨Nat.zero_le _, by simpa [takeK] using h⟩
  | n + 1, [], k, h => by cases h
  | n + 1, x :: xs, k, h => by
    have := takeK_some (n := n) (l := xs) (k := fun ys => k (x :: ys)) h
    exact ⟨by simpa using this.1, by simpa using this.2⟩
theorem dropK_some {α R : Type} {r : R} : ∀ {n : Nat} {l : List α} {k : List α → Option R}, dropK n l k = some r → n ≤ l.length ∧ k (l.drop n) = some r
  | 0, l, k, h => ⟨Nat.zero_le _, by simpa [dropK] using h⟩
  | n + 1, [], k, h => by cases h
  | n + 1, x :: xs, k, h => by
    have := dropK_some (n := n) (l := xs) (k := k) h
    exact ⟨by simpa using this.1, by simpa using this.2⟩
theorem overK_some {R : Type} {r : R} : ∀ {news l : List AV} {k : List AV → Option R}, overK news l k = some r → news.length ≤ l.length ∧ k (news ++ l.drop news.length) = some r
  | [], l, k, h => ⟨Nat.zero_le _, by simpa [overK] using h⟩
  | y :: news, [], k, h => by cases h
  | y :: news, x :: xs, k, h => by
    have := overK_some (news := news) (l := xs) (k := fun zs => k (y :: zs)) h
    exact ⟨by simpa using this.1, by simpa using this.2⟩
theorem spliceK_some {R : Type} {r : R} : ∀ {off : Nat} {news l : List AV} {k : List AV → Option R}, spliceK off news l k = some r →
    off + news.length ≤ l.length ∧ k (l.take off ++ (news ++ l.drop (off + news.length))) = some r
  | 0, news, l, k, h => by
    have := overK_some (news := news) (l := l) (k := k) h
    exact ⟨by simpa using this.1, by simpa using this.2⟩
  | n + 1, news, [], k, h => by cases h
  | n + 1, news, x :: xs, k, h => by
    have := spliceK_some (off := n) (news := news) (l := xs) (k := fun ys => k (x :: ys)) h
    refine ⟨by have := this.1; simp; omega, ?_⟩
    rw [show n + 1 + news.length = n + news.length + 1 by omega]
    simpa using this.2
theorem appK_eq {α R : Type} : ∀ (xs ys : List α) (k : List α → Option R), appK xs ys k = k (xs ++ ys)
  | [], ys, k => rfl
  | x :: xs, ys, k => appK_eq xs ys fun zs => k (x :: zs)
theorem nth_eq {α : Type} : ∀ (n : Nat) (l : List α), nth n l = l[n]?
  | 0, [] => rfl
  | 0, x :: l => rfl
  | n + 1, [] => rfl
  | n + 1, x :: l => by have := nth_eq n l; simpa [nth] using this
theorem lenN_eq {α : Type} : ∀ (l : List α), lenN l = l.length
  | [] => rfl
  | x :: l => congrArg Nat.succ (lenN_eq l)
theorem eqL_eq : ∀ (x y : List Nat), eqL x y = decide (x = y)
  | [], [] => rfl
  | [], b :: y => rfl
  | a :: x, [] => rfl
  | a :: x, b :: y => by
    have ih := eqL_eq x y
    show (bif Nat.beq a b then eqL x y else false) = _
    rw [ih]
    by_cases h : a = b
    · subst h; simp
    · have : Nat.beq a b = false := by rw [Bool.eq_false_iff]; intro e; exact h (Nat.eq_of_beq_eq_true e)
      simp [this, h]
theorem repK_eq {R : Type} : ∀ (n : Nat) (z : List AV) (k : List AV → Option R), repK n z k = k (List.replicate n z).flatten
  | 0, z, k => rfl
  | n + 1, z, k => by
    show repK n z (fun l => appK z l k) = _
    rw [repK_eq n z, appK_eq]
    simp [List.replicate_succ]
theorem beq_dec (a b : Nat) : Nat.beq a b = decide (a = b) := by
  by_cases h : a = b
  · subst h; simp
  · rw [decide_eq_false h, Bool.eq_false_iff]; intro e; exact h (Nat.eq_of_beq_eq_true e)
theorem eqI_eq (a b : Int) : eqI a b = decide (a = b) := by
  cases a <;> cases b <;> simp only [eqI, beq_dec] <;> rw [Bool.eq_iff_iff] <;> simp <;> omega
theorem ltI_eq (a b : Int) : ltI a b = decide (a < b) := by
  cases a <;> cases b <;> simp only [ltI] <;> rw [Bool.eq_iff_iff] <;> simp [Nat.blt_eq] <;> omega
theorem inR_wrap {k : IntKind} {n : Int} (h : inR k n = true) : k.wrap n = n := by
  have e63 : (2 : Int) ^ 63 = 9223372036854775808 := by decide
  have e64 : (2 : Int) ^ 64 = 18446744073709551616 := by decide
  have e31 : (2 : Int) ^ 31 = 2147483648 := by decide
  have e32 : (2 : Int) ^ 32 = 4294967296 := by decide
  have e8 : (2 : Int) ^ 8 = 256 := by decide
  have e16 : (2 : Int) ^ 16 = 65536 := by decide
  cases k <;> cases n <;> simp only [inR, Bool.false_eq_true] at h <;> (have h := Nat.le_of_ble_eq_true h; simp only [IntKind.wrap, IntKind.bits, IntKind.signed, Nat.reduceSub, e63, e64, e31, e32, e8, e16, Bool.true_and, Bool.false_and, Bool.false_eq_true, if_false, decide_eq_true_eq, ge_iff_le, Int.ofNat_eq_natCast]; (try split) <;> omega)

/-! tries -/
/-- a level of the trie's functions -/
structure TrOk {α : Type} (n : Nat) (gt : Tr α → Nat → Option α) (st : ∀ {β : Type}, Tr α → Nat → α → (Tr α → β) → β) : Prop where
  eq : ∀ {β : Type} (t : Tr α) (i : Nat) (a : α) (k : Tr α → β), st t i a k = k (st t i a id)
  get : ∀ (t : Tr α) (i j : Nat) (a : α), i + 1 < 2 ^ n → gt (st t i a id) j = if i = j then some a else gt t j
  nil : ∀ j, gt .nil j = none
theorem TrOk.zero {α : Type} : TrOk (α := α) 0 Tr.get0 Tr.set0 := ⟨fun _ _ _ _ => rfl, fun _ _ _ _ h => by simp at h, fun _ => rfl⟩
theorem TrOk.succ {α : Type} {n : Nat} {gt : Tr α → Nat → Option α} {st : ∀ {β : Type}, Tr α → Nat → α → (Tr α → β) → β} (h : TrOk n gt (fun {β} => @st β)) :
    TrOk (n + 1) (Tr.getS gt) (fun {β} => Tr.setS (β := β) st) := by
  have hb : ∀ j, Nat.beq (Nat.mod j 2) 0 = decide (j % 2 = 0) := fun j => beq_dec _ _
  have gs : ∀ (v : Option α) (l r : Tr α) (j : Nat), Tr.getS gt (.node v l r) (j + 1) = if j % 2 = 0 then gt l (j / 2) else gt r (j / 2) := fun v l r j => by
    show Bool.casesOn (motive := fun _ => Option α) (Nat.beq (Nat.mod j 2) 0) _ _ = _
    rw [hb]
    by_cases x : j % 2 = 0
    · rw [if_pos x, decide_eq_true x]; rfl
    · rw [if_neg x, decide_eq_false x]; rfl
  have ss : ∀ (v : Option α) (l r : Tr α) (i : Nat) (a : α), Tr.setS st (.node v l r) (i + 1) a id = if i % 2 = 0 then .node v (st l (i / 2) a id) r else .node v l (st r (i / 2) a id) := fun v l r i a => by
    show Bool.casesOn (motive := fun _ => Tr α) (Nat.beq (Nat.mod i 2) 0) _ _ = _
    rw [hb]
    by_cases x : i % 2 = 0
    · rw [if_pos x, decide_eq_true x]; exact h.eq _ _ _ _
    · rw [if_neg x, decide_eq_false x]; exact h.eq _ _ _ _
  have sn : ∀ (i : Nat) (a : α), Tr.setS st .nil (i + 1) a id = if i % 2 = 0 then .node none (st .nil (i / 2) a id) .nil else .node none .nil (st .nil (i / 2) a id) := fun i a => by
    show Bool.casesOn (motive := fun _ => Tr α) (Nat.beq (Nat.mod i 2) 0) _ _ = _
    rw [hb]
    by_cases x : i % 2 = 0
    · rw [if_pos x, decide_eq_true x]; exact h.eq _ _ _ _
    · rw [if_neg x, decide_eq_false x]; exact h.eq _ _ _ _
  refine ⟨fun t i a k => ?_, fun t i j a hi => ?_, fun j => rfl⟩
  · cases t <;> cases i with
    | zero => rfl
    | succ i =>
      simp only [Tr.setS]
      cases Nat.beq (Nat.mod i 2) 0 <;> dsimp only <;> exact (h.eq _ _ _ _).trans (congrArg k (Eq.symm (by rw [h.eq]; rfl)))
  · have h2 : ∀ i', i = i' + 1 → i' / 2 + 1 < 2 ^ n := fun i' e => by rw [Nat.pow_succ] at hi; omega
    cases t with
    | nil =>
      cases i with
      | zero => cases j with
        | zero => rfl
        | succ j =>
          show Tr.getS gt (.node (some a) .nil .nil) (j + 1) = _
          rw [gs, h.nil, if_neg (show ¬ 0 = j + 1 by omega)]; simp; rfl
      | succ i =>
        have g := fun j' => h.get .nil (i / 2) j' a (h2 i rfl)
        rw [sn]
        cases j with
        | zero => rw [if_neg (show ¬ i + 1 = 0 by omega)]; split <;> rfl
        | succ j =>
          by_cases x : i % 2 = 0
          · rw [if_pos x, gs]
            by_cases y : j % 2 = 0
            · rw [if_pos y, g]
              by_cases e : i = j
              · rw [if_pos (show i / 2 = j / 2 by omega), if_pos (show i + 1 = j + 1 by omega)]
              · rw [if_neg (show ¬ i / 2 = j / 2 by omega), if_neg (show ¬ i + 1 = j + 1 by omega), h.nil]; rfl
            · rw [if_neg y, if_neg (show ¬ i + 1 = j + 1 by omega), h.nil]; rfl
          · rw [if_neg x, gs]
            by_cases y : j % 2 = 0
            · rw [if_pos y, if_neg (show ¬ i + 1 = j + 1 by omega), h.nil]; rfl
            · rw [if_neg y, g]
              by_cases e : i = j
              · rw [if_pos (show i / 2 = j / 2 by omega), if_pos (show i + 1 = j + 1 by omega)]
              · rw [if_neg (show ¬ i / 2 = j / 2 by omega), if_neg (show ¬ i + 1 = j + 1 by omega), h.nil]; rfl
    | node v l r =>
      cases i with
      | zero => cases j with
        | zero => rfl
        | succ j =>
          show Tr.getS gt (.node (some a) l r) (j + 1) = _
          rw [gs, if_neg (show ¬ 0 = j + 1 by omega), gs]
      | succ i =>
        have gl := fun j' => h.get l (i / 2) j' a (h2 i rfl)
        have gr := fun j' => h.get r (i / 2) j' a (h2 i rfl)
        rw [ss]
        cases j with
        | zero => rw [if_neg (show ¬ i + 1 = 0 by omega)]; split <;> rfl
        | succ j =>
          by_cases x : i % 2 = 0
          · rw [if_pos x, gs, gs]
            by_cases y : j % 2 = 0
            · rw [if_pos y, if_pos y, gl]
              by_cases e : i = j
              · rw [if_pos (show i / 2 = j / 2 by omega), if_pos (show i + 1 = j + 1 by omega)]
              · rw [if_neg (show ¬ i / 2 = j / 2 by omega), if_neg (show ¬ i + 1 = j + 1 by omega)]
            · rw [if_neg y, if_neg y, if_neg (show ¬ i + 1 = j + 1 by omega)]
          · rw [if_neg x, gs, gs]
            by_cases y : j % 2 = 0
            · rw [if_pos y, if_pos y, if_neg (show ¬ i + 1 = j + 1 by omega)]
            · rw [if_neg y, if_neg y, gr]
              by_cases e : i = j
              · rw [if_pos (show i / 2 = j / 2 by omega), if_pos (show i + 1 = j + 1 by omega)]
              · rw [if_neg (show ¬ i / 2 = j / 2 by omega), if_neg (show ¬ i + 1 = j + 1 by omega)]
theorem trOk (α : Type) : TrOk (α := α) 24 Tr.get Tr.set24 :=
  TrOk.zero.succ.succ.succ.succ.succ.succ.succ.succ.succ.succ.succ.succ.succ.succ.succ.succ.succ.succ.succ.succ.succ.succ.succ.succ
def Tr.set {α : Type} (fuel : Nat) (t : Tr α) (i : Nat) (a : α) : Tr α := Tr.setK fuel t i a id
theorem Tr.setK_eq {α β : Type} (fuel : Nat) (t : Tr α) (i : Nat) (a : α) (k : Tr α → β) : Tr.setK fuel t i a k = k (Tr.set fuel t i a) := (trOk α).eq t i a k
theorem Tr.get_nil {α : Type} (i : Nat) : Tr.get (Tr.nil : Tr α) i = none := (trOk α).nil i
theorem Tr.get_set {α : Type} (n : Nat) (t : Tr α) (i j : Nat) (a : α) (h : i + 1 < 16777216) : Tr.get (Tr.set n t i a) j = if i = j then some a else Tr.get t j := (trOk α).get t i j a h
theorem evVs_eq (sl : Tr AV) {R : Type} : ∀ (xs : List XV) (k : List AV → Option R), evVs sl xs k = k (xs.map (evV sl))
  | [], k => rfl
  | x :: xs, k => evVs_eq sl xs fun vs => k (evV sl x :: vs)
theorem eqON_sound {a b : Option Nat} (h : eqON a b = true) : a = b := by
  cases a <;> cases b <;> simp [eqON] at h
  · rfl
  · rw [h]
theorem eqL_sound {a b : List Nat} (h : eqL a b = true) : a = b := by rw [eqL_eq] at h; simpa using h
theorem eqI_sound {a b : Int} (h : eqI a b = true) : a = b := by rw [eqI_eq] at h; simpa using h
theorem kindEq_sound {a b : IntKind} (h : kindEq a b = true) : a = b := by simpa [kindEq] using h
mutual
theorem eqAV_sound : ∀ (x y : AV), eqAV x y = true → x = y
  | .bool a, y, h => by cases y <;> simp [eqAV] at h; rw [h]
  | .int k a, y, h => by
    cases y <;> simp [eqAV] at h
    rw [kindEq_sound h.1, eqI_sound h.2]
  | .str a, y, h => by cases y <;> simp [eqAV] at h; rw [eqL_sound h]
  | .nilp, y, h => by cases y <;> simp [eqAV] at h; rfl
  | .ptr a b, y, h => by cases y <;> simp [eqAV] at h; rw [h.1, h.2]
  | .nils, y, h => by cases y <;> simp [eqAV] at h; rfl
  | .sl a b c d e, y, h => by
    cases y <;> simp [eqAV] at h
    obtain ⟨⟨⟨⟨h1, h2⟩, h3⟩, h4⟩, h5⟩ := h
    rw [h1, h2, h3, h4, eqON_sound h5]
  | .nilm, y, h => by cases y <;> simp [eqAV] at h; rfl
  | .mp a, y, h => by cases y <;> simp [eqAV] at h; rw [h]
  | .nilf, y, h => by cases y <;> simp [eqAV] at h; rfl
  | .fn f cs, y, h => by
    cases y <;> simp [eqAV] at h
    rw [h.1, eqAVs_sound _ _ h.2]
  | .nili, y, h => by cases y <;> simp [eqAV] at h; rfl
  | .yld a, y, h => by cases y <;> simp [eqAV] at h; rw [h]
  | .iface t v, y, h => by
    cases y <;> simp [eqAV] at h
    rw [h.1, eqAV_sound _ _ h.2]
  | .agg cs, y, h => by cases y <;> simp [eqAV] at h; rw [eqAVs_sound _ _ h]
  | .tup cs, y, h => by cases y <;> simp [eqAV] at h; rw [eqAVs_sound _ _ h]
theorem eqAVs_sound : ∀ (xs ys : List AV), eqAVs xs ys = true → xs = ys
  | [], ys, h => by cases ys <;> simp [eqAVs] at h; rfl
  | x :: xs, ys, h => by
    cases ys with
    | nil => simp [eqAVs] at h
    | cons y ys =>
      simp [eqAVs] at h
      rw [eqAV_sound _ _ h.1, eqAVs_sound _ _ h.2]
end
theorem eqEs_sound : ∀ (xs ys : List (AV × AV × Nat)), eqEs xs ys = true → xs = ys
  | [], [], _ => rfl
  | [], _ :: _, h => by simp [eqEs] at h
  | _ :: _, [], h => by simp [eqEs] at h
  | (a, b, c) :: xs, (a', b', c') :: ys, h => by
    simp [eqEs] at h
    obtain ⟨⟨⟨h1, h2⟩, h3⟩, h4⟩ := h
    rw [eqAV_sound _ _ h1, eqAV_sound _ _ h2, h3, eqEs_sound _ _ h4]
theorem eqOB_sound {a b : Option AB} (h : eqOB a b = true) : a = b := by
  cases a <;> cases b <;> simp [eqOB] at h
  · rfl
  · rename_i a b
    cases a <;> cases b <;> simp [eqAB] at h
    · rw [eqAVs_sound _ _ h]
    · rw [eqEs_sound _ _ h.1, h.2]
    · obtain ⟨⟨⟨h1, h2⟩, h3⟩, h4⟩ := h
      rw [eqON_sound h1, h2, eqL_sound h3, h4]
    · rfl
theorem unchB_some {preds A : Nat} : ∀ {bs : List (Nat × Tr AB × Tr AB)}, unchB preds A bs = true → ∀ b ∈ bs, preds.testBit b.1 = false → Tr.get b.2.2 A = Tr.get b.2.1 A
  | [], _, b, hb, _ => by cases hb
  | b0 :: bs, h, b, hb, hp => by
    unfold unchB at h
    rw [Bool.and_eq_true, Bool.or_eq_true] at h
    rcases List.mem_cons.1 hb with rfl | hb
    · rcases h.1 with q | q
      · rw [hp] at q; cases q
      · exact (eqOB_sound q).symm
    · exact unchB_some h.2 b hb hp
theorem unchF_some {preds : Nat} {t t' : Tr AB} : ∀ {fs : List (Nat × Nat)}, unchF preds t t' fs = true → ∀ f ∈ fs, preds.testBit f.1 = false → Tr.get t' f.2 = Tr.get t f.2
  | [], _, b, hb, _ => by cases hb
  | b0 :: bs, h, b, hb, hp => by
    unfold unchF at h
    rw [Bool.and_eq_true, Bool.or_eq_true] at h
    rcases List.mem_cons.1 hb with rfl | hb
    · rcases h.1 with q | q
      · rw [hp] at q; cases q
      · exact (eqOB_sound q).symm
    · exact unchF_some h.2 b hb hp
theorem eqRs_sound : ∀ (a b : List (Nat × Nat)), eqRs a b = true → a = b
  | [], [], _ => rfl
  | [], _ :: _, h => by simp [eqRs] at h
  | _ :: _, [], h => by simp [eqRs] at h
  | (a, b) :: as, (a', b') :: bs, h => by
    simp [eqRs] at h
    rw [h.1.1, h.1.2, eqRs_sound _ _ h.2]
theorem eqTr_sound : ∀ (a b : Tr AB), eqTr a b = true → a = b
  | .nil, b, h => by cases b <;> simp [eqTr] at h; rfl
  | .node v l r, b, h => by
    cases b with
    | nil => simp [eqTr] at h
    | node v' l' r' =>
      simp [eqTr] at h
      rw [eqOB_sound h.1.1, eqTr_sound _ _ h.1.2, eqTr_sound _ _ h.2]
theorem hitM_sound {m : Memo} {f : Nat} {args : List AV} {c : C} {h : H} (e : hitM m f args c h = true) : m.f = f ∧ m.args = args ∧ m.c = c ∧ m.h = h := by
  unfold hitM at e
  simp only [Bool.and_eq_true] at e
  obtain ⟨⟨⟨⟨⟨h1, h2⟩, h3⟩, h4⟩, h5⟩, h6⟩ := e
  refine ⟨Nat.eq_of_beq_eq_true h1, eqAVs_sound _ _ h5, ?_, ?_⟩
  · have a := Nat.eq_of_beq_eq_true h2
    have b := eqRs_sound _ _ h3
    cases c; cases hm : m.c; rw [hm] at a b; simp only at a b; rw [a, b]
  · have a := Nat.eq_of_beq_eq_true h4
    have b := eqTr_sound _ _ h6
    cases h; cases hm : m.h; rw [hm] at a b; simp only at a b; rw [a, b]
theorem memoOf_some {f : Nat} {args : List AV} {c : C} {h : H} {m : Memo} : ∀ {ms : List Memo}, memoOf f args c h ms = some m → m ∈ ms ∧ m.f = f ∧ m.args = args ∧ m.c = c ∧ m.h = h
  | [], e => by cases e
  | m0 :: ms, e => by
    unfold memoOf at e
    cases hb : hitM m0 f args c h with
    | true => rw [hb] at e; simp only [cond, Option.some.injEq] at e; subst e; exact ⟨by simp, hitM_sound hb⟩
    | false =>
      rw [hb] at e
      obtain ⟨h1, h2⟩ := memoOf_some (ms := ms) e
      exact ⟨by simp [h1], h2⟩
theorem mkT_get : ∀ (l : List (Nat × AB)) (t : Tr AB), subT t l = true → ∀ id b, Tr.get (mkT l) id = some b → Tr.get t id = some b
  | [], t, _, id, b, h => by unfold mkT at h; rw [Tr.get_nil] at h; cases h
  | p :: ps, t, hs, id, b, h => by
    unfold subT at hs
    simp only [Bool.and_eq_true] at hs
    obtain ⟨⟨h1, h2⟩, h3⟩ := hs
    have hlt : p.1 < 10000000 := by simpa [Nat.blt_eq] using h2
    have h' : Tr.get (Tr.set depth (mkT ps) p.1 p.2) id = some b := h
    rw [Tr.get_set depth _ _ _ _ (by omega)] at h'
    by_cases q : p.1 = id
    · rw [if_pos q] at h'; cases h'
      rw [← q]; exact eqOB_sound h1
    · rw [if_neg q] at h'
      exact mkT_get ps t h3 id b h'
theorem sameLow_sound {t t' : Tr AB} : ∀ {n : Nat}, sameLow t t' n = true → ∀ id, id < n → Tr.get t id = Tr.get t' id
  | 0, _, id, h => by omega
  | n + 1, e, id, h => by
    unfold sameLow at e
    rw [Bool.and_eq_true] at e
    by_cases q : id = n
    · rw [q]; exact eqOB_sound e.1
    · exact sameLow_sound e.2 id (by omega)
end Go.Proofs.YtfoahdpnalbbgaaGreatDoor.Ev
