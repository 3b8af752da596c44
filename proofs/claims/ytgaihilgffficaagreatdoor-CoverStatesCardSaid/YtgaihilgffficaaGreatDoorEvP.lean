/- CoverStates, part 3 -/
import Derived.Test.YtgaihilgffficaaGreatDoorEvB
import Derived.Laws.IdiomCopy
import Derived.ChangeKeysEq
set_option linter.all false
namespace Go.Proofs.YtgaihilgffficaaGreatDoor.Ev
open Go
theorem bn {β : Type} (n : Nat) (k : Nat → β) : cu n k = k n := by cases n <;> rfl
theorem eh {β : Type} (n : Int) (k : Int → β) : lY n k = k n := by cases n <;> simp [lY, bn]
theorem bU {β : Type} (b : Bool) (k : Bool → β) : w7 b k = k b := by cases b <;> rfl
theorem gN {α R : Type} {r : R} : ∀ {n : Nat} {l : List α} {k : List α → Option R}, gh n l k = some r → n ≤ l.length ∧ k (l.take n) = some r
 | 0, l, k, h => ⟨Nat.zero_le _, by simpa [gh] using h⟩
 | n + 1, [], k, h => by cases h
 | n + 1, x :: xs, k, h => by
  have := gN (n := n) (l := xs) (k := fun ys => k (x :: ys)) h
  exact ⟨by simpa using this.1, by simpa using this.2⟩
theorem gM {α R : Type} {r : R} : ∀ {n : Nat} {l : List α} {k : List α → Option R}, jg n l k = some r → n ≤ l.length ∧ k (l.drop n) = some r
 | 0, l, k, h => ⟨Nat.zero_le _, by simpa [jg] using h⟩
 | n + 1, [], k, h => by cases h
 | n + 1, x :: xs, k, h => by
  have := gM (n := n) (l := xs) (k := k) h
  exact ⟨by simpa using this.1, by simpa using this.2⟩
theorem ve {R : Type} {r : R} : ∀ {news l : List AV} {k : List AV → Option R}, uN news l k = some r → news.length ≤ l.length ∧ k (news ++ l.drop news.length) = some r
 | [], l, k, h => ⟨Nat.zero_le _, by simpa [uN] using h⟩
 | y :: news, [], k, h => by cases h
 | y :: news, x :: xs, k, h => by
  have := ve (news := news) (l := xs) (k := fun zs => k (y :: zs)) h
  exact ⟨by simpa using this.1, by simpa using this.2⟩
theorem gu {R : Type} {r : R} : ∀ {off : Nat} {news l : List AV} {k : List AV → Option R}, fq off news l k = some r →
    off + news.length ≤ l.length ∧ k (l.take off ++ (news ++ l.drop (off + news.length))) = some r
 | 0, news, l, k, h => by
  have := ve (news := news) (l := l) (k := k) h
  exact ⟨by simpa using this.1, by simpa using this.2⟩
 | n + 1, news, [], k, h => by cases h
 | n + 1, news, x :: xs, k, h => by
  have := gu (off := n) (news := news) (l := xs) (k := fun ys => k (x :: ys)) h
  refine ⟨by have := this.1; simp; omega, ?_⟩
  rw [show n + 1 + news.length = n + news.length + 1 by omega]
  simpa using this.2
theorem fv {α R : Type} : ∀ (xs ys : List α) (k : List α → Option R), wB xs ys k = k (xs ++ ys)
 | [], ys, k => rfl
 | x :: xs, ys, k => fv xs ys fun zs => k (x :: zs)
theorem gP {α : Type} : ∀ (n : Nat) (l : List α), nth n l = l[n]?
 | 0, [] => rfl
 | 0, x :: l => rfl
 | n + 1, [] => rfl
 | n + 1, x :: l => by have := gP n l; simpa [nth] using this
theorem dw {α : Type} : ∀ (l : List α), iG l = l.length
 | [] => rfl
 | x :: l => congrArg Nat.succ (dw l)
theorem mz : ∀ (x y : List Nat), GK x y = decide (x = y)
 | [], [] => rfl
 | [], b :: y => rfl
 | a :: x, [] => rfl
 | a :: x, b :: y => by
  have ih := mz x y
  show (bif Nat.beq a b then GK x y else false) = _
  rw [ih]
  by_cases h : a = b
  ·subst h; simp
  ·have : Nat.beq a b = false := by rw [Bool.eq_false_iff]; intro e; exact h (Nat.eq_of_beq_eq_true e)
   simp [this, h]
theorem qn {R : Type} : ∀ (n : Nat) (z : List AV) (k : List AV → Option R), HU n z k = k (List.replicate n z).flatten
 | 0, z, k => rfl
 | n + 1, z, k => by
  show HU n z (fun l => wB z l k) = _
  rw [qn n z, fv]
  simp [List.replicate_succ]
theorem mS (a b : Nat) : Nat.beq a b = decide (a = b) := by
 by_cases h : a = b
 ·subst h; simp
 ·rw [decide_eq_false h, Bool.eq_false_iff]; intro e; exact h (Nat.eq_of_beq_eq_true e)
theorem rv (a b : Int) : JR a b = decide (a = b) := by
 cases a <;> cases b <;> simp only [JR, mS] <;> rw [Bool.eq_iff_iff] <;> simp <;> omega
theorem iA (a b : Int) : GM a b = decide (a < b) := by
 cases a <;> cases b <;> simp only [GM] <;> rw [Bool.eq_iff_iff] <;> simp [Nat.blt_eq] <;> omega
theorem Bn {k : IntKind} {n : Int} (h : w8 k n = true) : k.wrap n = n := by
 have e63 : (2 : Int) ^ 63 = 9223372036854775808 := by decide
 have e64 : (2 : Int) ^ 64 = 18446744073709551616 := by decide
 have e31 : (2 : Int) ^ 31 = 2147483648 := by decide
 have e32 : (2 : Int) ^ 32 = 4294967296 := by decide
 have e8 : (2 : Int) ^ 8 = 256 := by decide
 have e16 : (2 : Int) ^ 16 = 65536 := by decide
 cases k <;> cases n <;> simp only [w8, Bool.false_eq_true] at h <;> (have h := Nat.le_of_ble_eq_true h; simp only [IntKind.wrap, IntKind.bits, IntKind.signed, Nat.reduceSub, e63, e64, e31, e32, e8, e16, Bool.true_and, Bool.false_and, Bool.false_eq_true, if_false, decide_eq_true_eq, ge_iff_le, Int.ofNat_eq_natCast]; (try split) <;> omega)
/-! tries -/
theorem Eo (i : Nat) : d4 i = match i % 4 with | 0 => .x0 | 1 => .x1 | 2 => .x2 | _ => .x3 := by
 unfold d4
 have h : Nat.mod i 4 = i % 4 := rfl
 have : i % 4 < 4 := Nat.mod_lt _ om
 rw [h]
 generalize i % 4 = m at this ⊢
 match m, this with
 | 0, _ => rfl
 | 1, _ => rfl
 | 2, _ => rfl
 | 3, _ => rfl
theorem ry {i j : Nat} : d4 i = d4 j ↔ i % 4 = j % 4 := by
 have h1 : i % 4 < 4 := Nat.mod_lt _ om
 have h2 : j % 4 < 4 := Nat.mod_lt _ om
 rw [Eo, Eo]
 generalize i % 4 = m at h1 ⊢
 generalize j % 4 = n at h2 ⊢
 match m, h1 with
 | 0, _ | 1, _ | 2, _ | 3, _ => (match n, h2 with | 0, _ | 1, _ | 2, _ | 3, _ => simp)
theorem vf {β : Type} (z a b c d v : β) (x y : D4) : nD z (kp a b c d x v id) y = if x = y then v else mh a b c d y := by
 cases x <;> cases y <;> rfl
theorem Ep {β γ : Type} (a b c d : β) (x : D4) (v : β) (K : O4 β → γ) : kp a b c d x v K = K (kp a b c d x v id) := by cases x <;> rfl
theorem xj {β : Type} (z : β) (x : D4) : mh z z z z x = z := by cases x <;> rfl
structure mA {α T : Type} (z : T) (q : Nat) (gt : T → Nat → Option α) (st : ∀ {γ : Type}, T → Nat → α → (T → γ) → γ) : Prop where
 eq : ∀ {γ : Type} (t : T) (i : Nat) (a : α) (K : T → γ), st t i a K = K (st t i a id)
 get : ∀ (t : T) (i j : Nat) (a : α), gt (st t i a id) j = if i % q = j % q then some a else gt t j
 nil : ∀ j, gt z j = none
theorem mA.one {α : Type} : mA (α := α) (.nil : T1 α) 4 SF P4 := by
 refine ⟨fun t i a K => ?_, fun t i j a => ?_, fun j => rfl⟩
 ·cases t <;> exact Ep _ _ _ _ _ _ _
 ·cases t with
  | nil =>
   show nD none (kp none none none none (d4 i) (some a) id) (d4 j) = _
   rw [vf, xj]
   by_cases h : i % 4 = j % 4
   ·rw [if_pos (ry.2 h), if_pos h]
   ·rw [if_neg (fun q => h (ry.1 q)), if_neg h]; rfl
  | node b c d e =>
   show nD none (kp b c d e (d4 i) (some a) id) (d4 j) = _
   rw [vf]
   by_cases h : i % 4 = j % 4
   ·rw [if_pos (ry.2 h), if_pos h]
   ·rw [if_neg (fun q => h (ry.1 q)), if_neg h]; rfl
theorem mA.succ {α T : Type} {z : T} {q : Nat} {gt : T → Nat → Option α} {st : ∀ {γ : Type}, T → Nat → α → (T → γ) → γ} (h : mA z q gt (fun {γ} => @st γ))
    {gt' : O4 T → Nat → Option α} {sn : ∀ {γ : Type}, T → T → T → T → D4 → Nat → α → (O4 T → γ) → γ} {st' : ∀ {γ : Type}, O4 T → Nat → α → (O4 T → γ) → γ}
    (hg : ∀ t i, gt' t i = gt (nD z t (d4 (Nat.div i q))) i) (hn : ∀ {γ : Type} (a b c d : T) (x : D4) (i : Nat) (v : α) (K : O4 T → γ), sn a b c d x i v K = st (mh a b c d x) i v fun y => kp a b c d x y K)
    (hs : ∀ {γ : Type} (i : Nat) (v : α) (K : O4 T → γ), st' .nil i v K = sn z z z z (d4 (Nat.div i q)) i v K) (hs' : ∀ {γ : Type} (a b c d : T) (i : Nat) (v : α) (K : O4 T → γ), st' (.node a b c d) i v K = sn a b c d (d4 (Nat.div i q)) i v K) :
    mA (α := α) (.nil : O4 T) (q * 4) gt' (fun {γ} => @st' γ) := by
 have heq : ∀ {γ : Type} (a b c d : T) (x : D4) (i : Nat) (v : α) (K : O4 T → γ), sn a b c d x i v K = K (kp a b c d x (st (mh a b c d x) i v id) id) := fun a b c d x i v K => by rw [hn, h.eq, Ep]
 have nil' : ∀ j, gt' .nil j = none := fun j => by rw [hg]; exact h.nil j
 have main : ∀ (a b c d : T) (i j : Nat) (v : α), gt' (sn a b c d (d4 (Nat.div i q)) i v id) j = if i % (q * 4) = j % (q * 4) then some v else gt (mh a b c d (d4 (Nat.div j q))) j := fun a b c d i j v => by
  rw [heq, hg, id, vf]
  have e1 : Nat.div i q = i / q := rfl
  have e2 : Nat.div j q = j / q := rfl
  rw [e1, e2]
  by_cases x : d4 (i / q) = d4 (j / q)
  ·rw [if_pos x, h.get, x]
   have y := ry.1 x
   by_cases w : i % q = j % q
   ·rw [if_pos w, if_pos (by rw [Nat.mod_mul, Nat.mod_mul, w, y])]
   ·rw [if_neg w, if_neg]
    intro e
    apply w
    have := congrArg (· % q) e
    simpa [Nat.mod_mul_right_mod] using this
  ·rw [if_neg x, if_neg]
   intro e
   apply x
   rw [ry]
   have := congrArg (· / q) e
   simpa [Nat.mod_mul_right_div_self] using this
 refine ⟨fun t i a K => ?_, fun t i j a => ?_, nil'⟩
 ·cases t with
  | nil => rw [hs, hs, heq, heq]; rfl
  | node b c d e => rw [hs', hs', heq, heq]; rfl
 ·cases t with
  | nil => rw [hs, main, nil', xj, h.nil]
  | node b c d e => rw [hs', main, hg]; rfl
theorem SY (α : Type) : mA (α := α) (.nil : T2 α) 16 Rw P5 := (mA.one (α := α)).succ (gt' := Rw) (sn := RC) (st' := P5) (fun _ _ => rfl) (fun _ _ _ _ _ _ _ _ => rfl) (fun _ _ _ => rfl) (fun _ _ _ _ _ _ _ => rfl)
theorem Q7 (α : Type) : mA (α := α) (.nil : T3 α) 64 Pj P6 := (SY α).succ (gt' := Pj) (sn := RD) (st' := P6) (fun _ _ => rfl) (fun _ _ _ _ _ _ _ _ => rfl) (fun _ _ _ => rfl) (fun _ _ _ _ _ _ _ => rfl)
theorem SZ (α : Type) : mA (α := α) (.nil : T4 α) 256 Rx RG := (Q7 α).succ (gt' := Rx) (sn := RF) (st' := RG) (fun _ _ => rfl) (fun _ _ _ _ _ _ _ _ => rfl) (fun _ _ _ => rfl) (fun _ _ _ _ _ _ _ => rfl)
theorem Q8 (α : Type) : mA (α := α) (.nil : T5 α) 1024 Pk P7 := (SZ α).succ (gt' := Pk) (sn := RH) (st' := P7) (fun _ _ => rfl) (fun _ _ _ _ _ _ _ _ => rfl) (fun _ _ _ => rfl) (fun _ _ _ _ _ _ _ => rfl)
theorem S3 (α : Type) : mA (α := α) (.nil : T6 α) 4096 Ry RJ := (Q8 α).succ (gt' := Ry) (sn := RI) (st' := RJ) (fun _ _ => rfl) (fun _ _ _ _ _ _ _ _ => rfl) (fun _ _ _ => rfl) (fun _ _ _ _ _ _ _ => rfl)
theorem Q9 (α : Type) : mA (α := α) (.nil : T7 α) 16384 Pl P8 := (S3 α).succ (gt' := Pl) (sn := RK) (st' := P8) (fun _ _ => rfl) (fun _ _ _ _ _ _ _ _ => rfl) (fun _ _ _ => rfl) (fun _ _ _ _ _ _ _ => rfl)
theorem S4 (α : Type) : mA (α := α) (.nil : T8 α) 65536 Rz RM := (Q9 α).succ (gt' := Rz) (sn := RL) (st' := RM) (fun _ _ => rfl) (fun _ _ _ _ _ _ _ _ => rfl) (fun _ _ _ => rfl) (fun _ _ _ _ _ _ _ => rfl)
theorem S5 (α : Type) : mA (α := α) (.nil : T9 α) 262144 RA RO := (S4 α).succ (gt' := RA) (sn := RN) (st' := RO) (fun _ _ => rfl) (fun _ _ _ _ _ _ _ _ => rfl) (fun _ _ _ => rfl) (fun _ _ _ _ _ _ _ => rfl)
theorem R5 (α : Type) : mA (α := α) (.nil : KD α) 1048576 NF NI := (S5 α).succ (gt' := NF) (sn := NH) (st' := NI) (fun _ _ => rfl) (fun _ _ _ _ _ _ _ _ => rfl) (fun _ _ _ => rfl) (fun _ _ _ _ _ _ _ => rfl)
theorem R6 (α : Type) : mA (α := α) (.nil : KE α) 4194304 NG NK := (R5 α).succ (gt' := NG) (sn := NJ) (st' := NK) (fun _ _ => rfl) (fun _ _ _ _ _ _ _ _ => rfl) (fun _ _ _ => rfl) (fun _ _ _ _ _ _ _ => rfl)
theorem NY (α : Type) : mA (α := α) (.nil : HS α) 16777216 HT KG := (R6 α).succ (gt' := HT) (sn := NL) (st' := KG) (fun _ _ => rfl) (fun _ _ _ _ _ _ _ _ => rfl) (fun _ _ _ => rfl) (fun _ _ _ _ _ _ _ => rfl)
theorem im {R : Type} (i n : Nat) (x y : R) : Bool.casesOn (motive := fun _ => R) (Nat.blt i n) y x = if i < n then x else y := by
 by_cases h : i < n
 ·have : Nat.blt i n = true := by simpa [Nat.blt_eq] using h
  rw [if_pos h, this]
 ·have : Nat.blt i n = false := by
    cases e : Nat.blt i n with
    | false => rfl
    | true => exact absurd (by simpa [Nat.blt_eq] using e) h
  rw [if_neg h, this]
theorem Tr.get_eq {α : Type} (t : Tr α) (i : Nat) : Tr.get t i = if i < 64 then Pj t.a i else if i < 1024 then Pk t.b i else if i < 16384 then Pl t.c i else if i < 16777216 then HT t.d i else P3 t.e i := by
 unfold Tr.get Tr.Qa Tr.P9
 rw [im, im, im, im]
theorem Tr.vg {α γ : Type} (n : Nat) (t : Tr α) (i : Nat) (v : α) (K : Tr α → γ) : Tr.wz n t i v K = if i < 64 then K ⟨P6 t.a i v id, t.b, t.c, t.d, t.e⟩ else if i < 1024 then K ⟨t.a, P7 t.b i v id, t.c, t.d, t.e⟩ else if i < 16384 then K ⟨t.a, t.b, P8 t.c i v id, t.d, t.e⟩ else if i < 16777216 then K ⟨t.a, t.b, t.c, KG t.d i v id, t.e⟩ else K ⟨t.a, t.b, t.c, t.d, (i, v) :: t.e⟩ := by
 obtain ⟨a, b, c, d, e⟩ := t
 show Tr.NM a b c d e i v K = _
 unfold Tr.NM Tr.Qd Tr.Qb
 rw [im, im, im, im, (Q7 α).eq, (Q8 α).eq, (Q9 α).eq, (NY α).eq]
structure Qt (α : Type) : Prop where
 eq : ∀ {γ : Type} (t : Tr α) (i : Nat) (a : α) (K : Tr α → γ), Tr.wz 0 t i a K = K (Tr.wz 0 t i a id)
 get : ∀ (t : Tr α) (i j : Nat) (a : α), Tr.get (Tr.wz 0 t i a id) j = if i = j then some a else Tr.get t j
 nil : ∀ j, Tr.get (α := α) .nil j = none
theorem NZ (α : Type) : Qt α := by
 refine ⟨fun t i a K => ?_, fun t i j a => ?_, fun j => ?_⟩
 ·rw [Tr.vg, Tr.vg]
  by_cases h1 : i < 64
  ·rw [if_pos h1, if_pos h1]; rfl
  rw [if_neg h1, if_neg h1]
  by_cases h2 : i < 1024
  ·rw [if_pos h2, if_pos h2]; rfl
  rw [if_neg h2, if_neg h2]
  by_cases h3 : i < 16384
  ·rw [if_pos h3, if_pos h3]; rfl
  rw [if_neg h3, if_neg h3]
  by_cases h4 : i < 16777216
  ·rw [if_pos h4, if_pos h4]; rfl
  rw [if_neg h4, if_neg h4]; rfl
 ·have fin : ∀ (q : Nat) (x y : Option α), i < q → j < q → x = (if i % q = j % q then some a else y) → x = if i = j then some a else y := fun q x y h1 h2 e => by
    rw [Nat.mod_eq_of_lt h1, Nat.mod_eq_of_lt h2] at e; exact e
  have oth : ∀ (x : Option α), ¬ i = j → x = if i = j then some a else x := fun x h => (if_neg h).symm
  rw [Tr.vg, Tr.get_eq, Tr.get_eq]
  by_cases h1 : i < 64
  ·rw [if_pos h1]
   by_cases j1 : j < 64
   ·rw [if_pos j1, if_pos j1]; exact fin 64 _ _ h1 j1 ((Q7 α).get _ _ _ _)
   ·rw [if_neg j1, if_neg j1]; exact oth _ om
  rw [if_neg h1]
  by_cases h2 : i < 1024
  ·rw [if_pos h2]
   by_cases j1 : j < 64
   ·rw [if_pos j1, if_pos j1]; exact oth _ om
   rw [if_neg j1, if_neg j1]
   by_cases j2 : j < 1024
   ·rw [if_pos j2, if_pos j2]; exact fin 1024 _ _ h2 j2 ((Q8 α).get _ _ _ _)
   ·rw [if_neg j2, if_neg j2]; exact oth _ om
  rw [if_neg h2]
  by_cases h3 : i < 16384
  ·rw [if_pos h3]
   by_cases j1 : j < 64
   ·rw [if_pos j1, if_pos j1]; exact oth _ om
   rw [if_neg j1, if_neg j1]
   by_cases j2 : j < 1024
   ·rw [if_pos j2, if_pos j2]; exact oth _ om
   rw [if_neg j2, if_neg j2]
   by_cases j3 : j < 16384
   ·rw [if_pos j3, if_pos j3]; exact fin 16384 _ _ h3 j3 ((Q9 α).get _ _ _ _)
   ·rw [if_neg j3, if_neg j3]; exact oth _ om
  rw [if_neg h3]
  by_cases h4 : i < 16777216
  case neg =>
   rw [if_neg h4]
   by_cases j1 : j < 64
   ·rw [if_pos j1, if_pos j1]; exact oth _ om
   rw [if_neg j1, if_neg j1]
   by_cases j2 : j < 1024
   ·rw [if_pos j2, if_pos j2]; exact oth _ om
   rw [if_neg j2, if_neg j2]
   by_cases j3 : j < 16384
   ·rw [if_pos j3, if_pos j3]; exact oth _ om
   rw [if_neg j3, if_neg j3]
   by_cases j4 : j < 16777216
   ·rw [if_pos j4, if_pos j4]; exact oth _ om
   rw [if_neg j4, if_neg j4]
   show P3 ((i, a) :: t.e) j = _
   simp only [P3]
   by_cases q : i = j
   ·subst q; simp
   ·have : Nat.beq i j = false := by
      cases hb : Nat.beq i j with
      | false => rfl
      | true => exact absurd (Nat.eq_of_beq_eq_true hb) q
    rw [this, if_neg q]; rfl
  rw [if_pos h4]
  by_cases j1 : j < 64
  ·rw [if_pos j1, if_pos j1]; exact oth _ om
  rw [if_neg j1, if_neg j1]
  by_cases j2 : j < 1024
  ·rw [if_pos j2, if_pos j2]; exact oth _ om
  rw [if_neg j2, if_neg j2]
  by_cases j3 : j < 16384
  ·rw [if_pos j3, if_pos j3]; exact oth _ om
  rw [if_neg j3, if_neg j3]
  by_cases j4 : j < 16777216
  ·rw [if_pos j4, if_pos j4]; exact fin 16777216 _ _ h4 j4 ((NY α).get _ _ _ _)
  ·rw [if_neg j4, if_neg j4]; exact oth _ om
 ·rw [Tr.get_eq]
  show (if j < 64 then Pj .nil j else if j < 1024 then Pk .nil j else if j < 16384 then Pl .nil j else if j < 16777216 then HT .nil j else none) = none
  rw [(Q7 α).nil, (Q8 α).nil, (Q9 α).nil, (NY α).nil]
  repeat' split
  all_goals rfl
def Tr.set {α : Type} (fuel : Nat) (t : Tr α) (i : Nat) (a : α) : Tr α := Tr.wz fuel t i a id
theorem Tr.kY {α β : Type} (fuel : Nat) (t : Tr α) (i : Nat) (a : α) (k : Tr α → β) : Tr.wz fuel t i a k = k (Tr.set fuel t i a) := (NZ α).eq t i a k
theorem Tr.get_nil {α : Type} (i : Nat) : Tr.get (Tr.nil : Tr α) i = none := (NZ α).nil i
theorem Tr.KS {α : Type} (n : Nat) (t : Tr α) (i j : Nat) (a : α) : Tr.get (Tr.set n t i a) j = if i = j then some a else Tr.get t j := (NZ α).get t i j a
theorem k5 (sl : Tr AV) {R : Type} : ∀ (xs : List XV) (k : List AV → Option R), FA sl xs k = k (xs.map (bR sl))
 | [], k => rfl
 | x :: xs, k => k5 sl xs fun vs => k (bR sl x :: vs)
theorem vh {a b : Option Nat} (h : Fx a b = true) : a = b := by
 cases a <;> cases b <;> simp [Fx] at h
 ·rfl
 ·rw [h]
theorem xk {a b : List Nat} (h : GK a b = true) : a = b := by rw [mz] at h; simpa using h
theorem FZ {a b : Int} (h : JR a b = true) : a = b := by rw [rv] at h; simpa using h
theorem k6 {a b : IntKind} (h : fD a b = true) : a = b := by simpa [fD] using h
mutual
theorem k7 : ∀ (x y : AV), de x y = true → x = y
 | .bool a, y, h => by cases y <;> simp [de] at h; rw [h]
 | .int k a, y, h => by
  cases y <;> simp [de] at h
  rw [k6 h.1, FZ h.2]
 | .str a, y, h => by cases y <;> simp [de] at h; rw [xk h]
 | .gA, y, h => by cases y <;> simp [de] at h; rfl
 | .ptr a b, y, h => by cases y <;> simp [de] at h; rw [h.1, h.2]
 | .aO, y, h => by cases y <;> simp [de] at h; rfl
 | .sl a b c d e, y, h => by
  cases y <;> simp [de] at h
  obtain ⟨⟨⟨⟨h1, h2⟩, h3⟩, h4⟩, h5⟩ := h
  rw [h1, h2, h3, h4, vh h5]
 | .eU, y, h => by cases y <;> simp [de] at h; rfl
 | .mp a, y, h => by cases y <;> simp [de] at h; rw [h]
 | .jN, y, h => by cases y <;> simp [de] at h; rfl
 | .fn f cs, y, h => by
  cases y <;> simp [de] at h
  rw [h.1, eB _ _ h.2]
 | .KC f fs cs, y, h => by
  cases y <;> simp [de] at h
  rw [h.1.1, eB _ _ h.1.2, eB _ _ h.2]
 | .wy, y, h => by cases y <;> simp [de] at h; rfl
 | .B0 a, y, h => by cases y <;> simp [de] at h; rw [h]
 | .iface t v, y, h => by
  cases y <;> simp [de] at h
  rw [h.1, k7 _ _ h.2]
 | .agg cs, y, h => by cases y <;> simp [de] at h; rw [eB _ _ h]
 | .bO cs, y, h => by cases y <;> simp [de] at h; rw [eB _ _ h]
 | .raw oa n cp, y, h => by
  cases y <;> simp [de] at h
  obtain ⟨⟨h1, h2⟩, h3⟩ := h
  rw [h1, h2, h3]
 | .var a, y, h => by cases y <;> simp [de] at h; rw [h]
 | .top, y, h => by cases y <;> simp [de] at h; rfl
theorem eB : ∀ (xs ys : List AV), jh xs ys = true → xs = ys
 | [], ys, h => by cases ys <;> simp [jh] at h; rfl
 | x :: xs, ys, h => by
  cases ys with
  | nil => simp [jh] at h
  | cons y ys =>
   simp [jh] at h
   rw [k7 _ _ h.1, eB _ _ h.2]
end
theorem vi : ∀ (xs ys : List (AV × AV × Nat)), Fy xs ys = true → xs = ys
 | [], [], _ => rfl
 | [], _ :: _, h => by simp [Fy] at h
 | _ :: _, [], h => by simp [Fy] at h
 | (a, b, c) :: xs, (a', b', c') :: ys, h => by
  simp [Fy] at h
  obtain ⟨⟨⟨h1, h2⟩, h3⟩, h4⟩ := h
  rw [k7 _ _ h1, k7 _ _ h2, h3, vi _ _ h4]
theorem oP {a b : Option AB} (h : rf a b = true) : a = b := by
 cases a <;> cases b <;> simp [rf] at h
 ·rfl
 ·rename_i a b
  cases a <;> cases b <;> simp [HY] at h
  ·rw [eB _ _ h]
  ·rw [vi _ _ h.1, h.2]
  ·obtain ⟨⟨⟨h1, h2⟩, h3⟩, h4⟩ := h
   rw [vh h1, h2, xk h3, h4]
  ·obtain ⟨⟨⟨⟨h1, h2⟩, h3⟩, h4⟩, h5⟩ := h
   rw [h1, h2, h3, h4, h5]
  ·rfl
theorem va {bt A : Nat} : ∀ {bs : List (Nat × Tr AB × Tr AB)}, ml bt A bs = true → ∀ b ∈ bs, bt.testBit b.1 = false → Tr.get b.2.2 A = Tr.get b.2.1 A
 | [], _, b, hb, _ => by cases hb
 | b0 :: bs, h, b, hb, hp => by
  unfold ml at h
  rw [Bool.and_eq_true, Bool.or_eq_true] at h
  rcases List.mem_cons.1 hb with rfl | hb
  ·rcases h.1 with q | q
   ·rw [hp] at q; cases q
   ·exact (oP q).symm
  ·exact va h.2 b hb hp
theorem vb {bt : Nat} {t t' : Tr AB} : ∀ {fs : List (Nat × Nat)}, ji bt t t' fs = true → ∀ f ∈ fs, bt.testBit f.1 = false → Tr.get t' f.2 = Tr.get t f.2
 | [], _, b, hb, _ => by cases hb
 | b0 :: bs, h, b, hb, hp => by
  unfold ji at h
  rw [Bool.and_eq_true, Bool.or_eq_true] at h
  rcases List.mem_cons.1 hb with rfl | hb
  ·rcases h.1 with q | q
   ·rw [hp] at q; cases q
   ·exact (oP q).symm
  ·exact vb h.2 b hb hp
section
variable {dr : Prop}
def nK (β : cn) (n : Nat) (L : Loc) : cn := fun id => if id = n then some L else β id
theorem bM (β : cn) (n : Nat) (L : Loc) : nK β n L n = some L := by simp [nK]
theorem bS {β : cn} {n : Nat} {L : Loc} {id : Nat} (h : id ≠ n) : nK β n L id = β id := by simp [nK, h]
theorem gg {β : cn} {n : Nat} (L : Loc) (h : β n = none) : Sub β (nK β n L) := fun id M e => by
 by_cases x : id = n
 ·subst x; rw [h] at e; cases e
 ·rw [bS x]; exact e
theorem uW {f n : Nat} {β : cn} {g g' : View} {w w' : World} {b : AB} {L : Loc} (h : HR f β g w) (hn : β n = none)
    (hblk : L.cm = w.heap.size) (hw : ∀ B, B < w.heap.size → w'.heap[B]? = w.heap[B]?) (hs : w'.heap.size = w.heap.size + 1) (hos : w'.os = w.os) (htp : w'.tape = w.tape ∧ (dr → w.drawn ≤ w'.drawn)) (hout : w'.output = w.output)
    (hb : BR (nK β n L) L w' b) (hg : ∀ id d, g' id = some d → (id = n ∧ d = b) ∨ (id ≠ n ∧ g id = some d)) :
    cI dr f n (n + 1) β g w (nK β n L) g' w' := by
 refine ⟨om, gg L hn, fun id M h1 h2 => ?_, ⟨fun id d e => ?_, fun i j d e M N h1 h2 h3 h4 h5 => ?_⟩, hos, htp, hout, om, fun B hB _ => hw B hB, fun id M h1 h2 => ?_, fun id d e => ?_⟩
 ·by_cases x : id = n
  ·omega
  ·rw [bS x, h2] at h1; cases h1
 ·rcases hg id d e with ⟨rfl, rfl⟩ | ⟨x, e⟩
  ·exact ⟨L, bM _ _ _, om, hb⟩
  ·obtain ⟨M, h1, h2, h3⟩ := h.at_ id d e
   exact ⟨M, by rw [bS x]; exact h1, om, h3.mono (gg L hn) (hw _ h2)⟩
 ·have jG : ∀ i d M, i ≠ n → g i = some d → nK β n L i = some M → M.cm < w.heap.size := fun i d M x e1 e2 => by
    rw [bS x] at e2
    obtain ⟨M', h1, h2, _⟩ := h.at_ i d e1
    rw [h1] at e2; cases e2; exact h2
  rcases hg i d h1 with ⟨rfl, rfl⟩ | ⟨x, e1⟩ <;> rcases hg j e h2 with ⟨rfl, rfl⟩ | ⟨y, e2⟩
  ·exact Or.inl rfl
  ·have := jG j e N y e2 h4
   rw [bM] at h3; cases h3; omega
  ·have := jG i d M x e1 h3
   rw [bM] at h4; cases h4; omega
  ·rw [bS x] at h3; rw [bS y] at h4
   exact h.inj i j d e M N e1 e2 h3 h4 h5
 ·by_cases x : id = n
  ·subst x; rw [bM] at h1; cases h1; exact Or.inl om
  ·rw [bS x, h2] at h1; cases h1
 ·rcases hg id d e with ⟨rfl, rfl⟩ | ⟨_, e⟩
  ·exact Or.inr hn
  ·exact Or.inl ⟨d, e⟩
theorem kX {f n id : Nat} {β : cn} {g g' : View} {w w' : World} {b0 b : AB} {L : Loc} (h : HR f β g w) (h0 : g id = some b0) (hL : β id = some L) (hf : f ≤ id)
    (hw : ∀ B, B ≠ L.cm → w'.heap[B]? = w.heap[B]?) (hs : w'.heap.size = w.heap.size) (hos : w'.os = w.os) (htp : w'.tape = w.tape ∧ (dr → w.drawn ≤ w'.drawn)) (hout : w'.output = w.output)
    (hb : BR β L w' b) (hg : ∀ j d, g' j = some d → (j = id ∧ d = b) ∨ (j ≠ id ∧ g j = some d)) :
    cI dr f n n β g w β g' w' := by
 obtain ⟨L', hL', hlt, _⟩ := h.at_ id b0 h0
 rw [hL] at hL'; cases hL'
 refine ⟨Nat.le_refl _, Sub.refl _, fun i M h1 h2 => by (rw [h2] at h1; cases h1), ⟨fun j d e => ?_, fun i j d e M N h1 h2 h3 h4 h5 => ?_⟩, hos, htp, hout, om, fun B hB hh => hw B fun e => hh id b0 L hf h0 hL e.symm, fun i M h1 h2 => by (rw [h2] at h1; cases h1), fun j d e => ?_⟩
 ·rcases hg j d e with ⟨rfl, rfl⟩ | ⟨x, e⟩
  ·exact ⟨L, hL, om, hb⟩
  ·obtain ⟨M, h1, h2, h3⟩ := h.at_ j d e
   refine ⟨M, h1, om, h3.mono (Sub.refl _) (hw _ fun e2 => x ((h.inj j id d b0 M L e h0 h1 hL e2).elim (fun q => q) fun q => by omega))⟩
 ·have lft : ∀ i d, g' i = some d → ∃ d', g i = some d' := fun i d e => by
    rcases hg i d e with ⟨rfl, rfl⟩ | ⟨_, e⟩
    ·exact ⟨b0, h0⟩
    ·exact ⟨d, e⟩
  obtain ⟨d', e1⟩ := lft i d h1
  obtain ⟨e', e2⟩ := lft j e h2
  exact h.inj i j d' e' M N e1 e2 h3 h4 h5
 ·rcases hg j d e with ⟨rfl, rfl⟩ | ⟨_, e⟩
  ·exact Or.inl ⟨b0, h0⟩
  ·exact Or.inl ⟨d, e⟩
theorem FD {f n id : Nat} {β : cn} {g g' : View} {w w' : World} {b0 b : AB} {L M : Loc} (h : HR f β g w) (h0 : g id = some b0) (hL : β id = some L) (hf : f ≤ id) (hn : β n = none)
    (hM : M.cm = L.cm) (hw : ∀ B, B ≠ L.cm → w'.heap[B]? = w.heap[B]?) (hs : w'.heap.size = w.heap.size) (hos : w'.os = w.os) (htp : w'.tape = w.tape ∧ (dr → w.drawn ≤ w'.drawn)) (hout : w'.output = w.output)
    (hb : BR (nK β n M) M w' b) (hg : ∀ j d, g' j = some d → (j = n ∧ d = b) ∨ (j ≠ n ∧ j ≠ id ∧ g j = some d)) :
    cI dr f n (n + 1) β g w (nK β n M) g' w' := by
 obtain ⟨L', hL', hlt, _⟩ := h.at_ id b0 h0
 rw [hL] at hL'; cases hL'
 refine ⟨om, gg M hn, fun i N h1 h2 => ?_, ⟨fun j d e => ?_, fun i j d e N N' h1 h2 h3 h4 h5 => ?_⟩, hos, htp, hout, om, fun B hB hh => hw B fun e => hh id b0 L hf h0 hL e.symm, fun i N h1 h2 => ?_, fun j d e => ?_⟩
 ·by_cases x : i = n
  ·omega
  ·rw [bS x, h2] at h1; cases h1
 ·rcases hg j d e with ⟨rfl, rfl⟩ | ⟨x, y, e⟩
  ·exact ⟨M, bM _ _ _, om, hb⟩
  ·obtain ⟨N, h1, h2, h3⟩ := h.at_ j d e
   exact ⟨N, by rw [bS x]; exact h1, om, h3.mono (gg M hn) (hw _ fun e2 => y ((h.inj j id d b0 N L e h0 h1 hL e2).elim (fun q => q) fun q => by omega))⟩
 ·have oth : ∀ i d N, i ≠ n → i ≠ id → g i = some d → nK β n M i = some N → N.cm ≠ M.cm := fun i d N x y e1 e2 e3 => by
    rw [bS x] at e2
    exact y ((h.inj i id d b0 N L e1 h0 e2 hL (e3.trans hM)).elim (fun q => q) fun q => by omega)
  rcases hg i d h1 with ⟨rfl, rfl⟩ | ⟨x, x', e1⟩ <;> rcases hg j e h2 with ⟨rfl, rfl⟩ | ⟨y, y', e2⟩
  ·exact Or.inl rfl
  ·rw [bM] at h3; cases h3; exact absurd h5.symm (oth j e N' y y' e2 h4)
  ·rw [bM] at h4; cases h4; exact absurd h5 (oth i d N x x' e1 h3)
  ·rw [bS x] at h3; rw [bS y] at h4
   exact h.inj i j d e N N' e1 e2 h3 h4 h5
 ·by_cases x : i = n
  ·subst x; rw [bM] at h1; cases h1; exact Or.inr ⟨id, b0, L, hf, h0, hL, hM.symm⟩
  ·rw [bS x, h2] at h1; cases h1
 ·rcases hg j d e with ⟨rfl, rfl⟩ | ⟨_, _, e⟩
  ·exact Or.inr hn
  ·exact Or.inl ⟨d, e⟩
theorem cI.drew {f n n' : Nat} {β β' : cn} {g g' : View} {w w' : World} {k : Nat} (h : cI dr f n n' β g { w with drawn := k } β' g' w') (hk : w.drawn ≤ k := by exact Nat.le_succ _) : cI dr f n n' β g w β' g' w' :=
 ⟨h.le, h.sub, h.fresh, h.hr, h.os, ⟨h.tape.1, fun q => Nat.le_trans hk (h.tape.2 q)⟩, h.output, h.size, h.frame, h.news, h.jG⟩
theorem HR.drew {f : Nat} {β : cn} {g : View} {w : World} (h : HR f β g w) (k : Nat) : HR f β g { w with drawn := k } :=
 ⟨fun id b e => by
  obtain ⟨L, h1, h2, h3⟩ := h.at_ id b e
  exact ⟨L, h1, h2, h3.mono (Sub.refl _) rfl⟩, h.inj⟩
/-! the evaluator's primitives -/
structure WF (h : H) : Prop where
 top : ∀ id, h.n ≤ id → Tr.get h.t id = none
 small : h.n ≤ h.n
structure Step (c : C) (h h' : H) : Prop where
 le : h.n ≤ h'.n
 wf : WF h'
 r9 : ∀ id, id < h.n → Tr.get h'.t id = Tr.get h.t id ∨ (c.floor ≤ id ∧ seen c.cM id = true)
theorem Step.refl {c : C} {h : H} (hw : WF h) : Step c h h := ⟨Nat.le_refl _, hw, fun _ _ => Or.inl rfl⟩
theorem Step.trans {c : C} {h h1 h2 : H} (a : Step c h h1) (b : Step c h1 h2) : Step c h h2 :=
 ⟨Nat.le_trans a.le b.le, b.wf, fun id bV => by
  rcases b.r9 id (Nat.lt_of_lt_of_le bV a.le) with e | e
  ·rcases a.r9 id bV with e2 | e2
   ·exact Or.inl (e.trans e2)
   ·exact Or.inr e2
  ·exact Or.inr e⟩
theorem fO {h : H} (hw : WF h) {id : Nat} {b : AB} (e : Tr.get h.t id = some b) : id < h.n := by
 rcases Nat.lt_or_ge id h.n with x | x
 ·exact x
 ·rw [hw.top id x] at e; cases e
theorem dQ {c : C} {h : H} {id : Nat} {b : AB} (e : cT c h id = some b) : Tr.get h.t id = some b ∧ seen c.cM id = true := by
 unfold cT at e
 cases hs : seen c.cM id with
 | true => rw [hs] at e; exact ⟨e, rfl⟩
 | false => rw [hs] at e; cases e
theorem bZ {α : Type} (t : Tr α) (i j : Nat) (a : α) (h : i < i + 1) : Tr.get (Tr.set depth t i a) j = if i = j then some a else Tr.get t j :=
 Tr.KS depth t i j a
theorem dI {R : Type} {r : R} {h : H} {b : AB} {k : Nat → H → Option R} (e : pW h b k = some r) : h.n < h.n + 1 ∧ k h.n ⟨Tr.set depth h.t h.n b, h.n + 1⟩ = some r := by
 unfold pW at e
 simp only [Tr.kY, bn] at e
 exact ⟨Nat.lt_succ_self _, e⟩
theorem iN {R : Type} {r : R} {c : C} {h : H} {id : Nat} {b : AB} {k : H → Option R} (e : wA c h id b k = some r) : c.floor ≤ id ∧ seen c.cM id = true ∧ k ⟨Tr.set depth h.t id b, h.n⟩ = some r := by
 unfold wA at e
 cases hb : (Nat.ble c.floor id && seen c.cM id) with
 | true =>
  rw [hb] at e
  simp only [cond, Tr.kY] at e
  rw [Bool.and_eq_true] at hb
  exact ⟨Nat.le_of_ble_eq_true hb.1, hb.2, e⟩
 | false => rw [hb] at e; cases e
theorem dP {c : C} {h : H} {b : AB} (hw : WF h) (hn : h.n < h.n + 1) : Step c h ⟨Tr.set depth h.t h.n b, h.n + 1⟩ :=
 ⟨by simp, ⟨fun id bV => by rw [bZ _ _ _ _ hn, if_neg (by simp at bV; omega)]; exact hw.top id (by simp at bV; omega), Nat.le_refl _⟩, fun id bV => Or.inl (by rw [bZ _ _ _ _ hn, if_neg (by omega)])⟩
theorem mq {c : C} {h : H} {id : Nat} {b0 b : AB} (hw : WF h) (h0 : Tr.get h.t id = some b0) (hf : c.floor ≤ id) (hs : seen c.cM id = true) : Step c h ⟨Tr.set depth h.t id b, h.n⟩ := by
 have hlt := fO hw h0
 have bV : id < id + 1 := Nat.lt_succ_self _
 refine ⟨Nat.le_refl _, ⟨fun j hj => by rw [bZ _ _ _ _ bV, if_neg (by simp at hj; omega)]; exact hw.top j hj, hw.small⟩, fun j hj => ?_⟩
 rw [bZ _ _ _ _ bV]
 by_cases e : id = j
 ·subst e; exact Or.inr ⟨hf, hs⟩
 ·rw [if_neg e]; exact Or.inl rfl
theorem jk {c : C} {h : H} {id : Nat} {b : AB} (e : view c h id = some b) : cT c h id = some b := by
 unfold view at e
 split at e
 ·cases e
 ·exact e
theorem iO {c : C} {h : H} {id : Nat} {b : AB} (e : cT c h id = some b) (hb : b ≠ .dead) : view c h id = some b := by
 unfold view; rw [e]
 cases b <;> first | rfl | exact absurd rfl hb
theorem dB {c : C} {h : H} {id : Nat} {vs : List AV} (e : cT c h id = some (.cells vs)) : view c h id = some (.cells vs) := iO e (fun q => by cases q)
theorem je {c : C} {h : H} {id : Nat} {es : List (AV × AV × Nat)} {k : Nat} (e : cT c h id = some (.map es k)) : view c h id = some (.map es k) := iO e (fun q => by cases q)
theorem pV {c : C} {h : H} {b d : AB} {id : Nat} (hn : h.n < h.n + 1) (e : view c ⟨Tr.set depth h.t h.n b, h.n + 1⟩ id = some d) : (id = h.n ∧ d = b) ∨ (id ≠ h.n ∧ view c h id = some d) := by
 have e1 := jk e
 obtain ⟨e2, e3⟩ := dQ e1
 rw [bZ _ _ _ _ hn] at e2
 by_cases x : h.n = id
 ·rw [if_pos x] at e2; cases e2; exact Or.inl ⟨x.symm, rfl⟩
 ·refine Or.inr ⟨Ne.symm x, ?_⟩
  have e4 : cT c h id = cT c ⟨Tr.set depth h.t h.n b, h.n + 1⟩ id := by unfold cT; simp only [bZ _ _ _ _ hn, if_neg x]
  unfold view at e ⊢
  rw [e4]; exact e
theorem mr {c : C} {h : H} {b d : AB} {id j : Nat} (bV : id < id + 1) (e : view c ⟨Tr.set depth h.t id b, h.n⟩ j = some d) : (j = id ∧ d = b) ∨ (j ≠ id ∧ view c h j = some d) := by
 have e1 := jk e
 obtain ⟨e2, e3⟩ := dQ e1
 rw [bZ _ _ _ _ bV] at e2
 by_cases x : id = j
 ·rw [if_pos x] at e2; cases e2; exact Or.inl ⟨x.symm, rfl⟩
 ·refine Or.inr ⟨Ne.symm x, ?_⟩
  have e4 : cT c h j = cT c ⟨Tr.set depth h.t id b, h.n⟩ j := by unfold cT; simp only [bZ _ _ _ _ bV, if_neg x]
  unfold view at e ⊢
  rw [e4]; exact e
def yV (β : cn) (sl : Tr AV) (a : Act) (ys : List Operand) : Prop := ∀ y ∈ ys, ∀ x, cV y = some x → VR β (bR sl x) (a.eval y)
def qc (dr : Prop) (P : Program) (ng : Nat) (o : Oper) (c : C) (sl : Tr AV) (h : H) (v : AV) (h' : H) : Prop :=
 Step c h h' ∧ ∀ β a w, GB ng β → HR c.floor β (view c h) w → yV β sl a o.op.operands.toList → (∀ id, h.n ≤ id → id < h'.n → β id = none) → ∀ (K : Act → World → Prop) (Q : Exit → Act → World → Prop),
  (∀ β' val w', cI dr c.floor h.n h'.n β (view c h) w β' (view c h') w' → VR β' v val → K (a.put o.dst val) w') → Oper.wp P o a w K Q
section
variable {P : Program} {ng : Nat} {o : Oper} {c : C} {sl : Tr AV} {h : H}
theorem ba {v : AV} (hw : WF h) (hrun : ∀ β a w, HR c.floor β (view c h) w → yV β sl a o.op.operands.toList → ∃ val, (execOp a.eval o).run P w = .ok (.value val) w ∧ VR β v val) : qc dr P ng o c sl h v h := by
 refine ⟨Step.refl hw, fun β a w _ hr ho _ K Q hK => ?_⟩
 obtain ⟨val, h1, h2⟩ := hrun β a w hr ho
 unfold Oper.wp
 rw [h1]
 exact hK β val w (cI.refl hr) h2
theorem Ij {y : Operand} {x : XV} (ho : o.op = .move y ∨ o.op = .assign y) (hx : cV y = some x) (hw : WF h) : qc dr P ng o c sl h (bR sl x) h := by
 refine ba hw fun β a w hr hop => ⟨a.eval y, ?_, hop y ?_ x hx⟩
 ·rcases ho with ho | ho <;> simp [execOp, ho]
 ·rcases ho with ho | ho <;> simp [ho, Op.operands]
theorem Bh {b y z : Operand} {xb xy xz : XV} {t : Bool} (ho : o.op = .pick b y z) (hb : cV b = some xb) (hy : cV y = some xy) (hz : cV z = some xz) (ht : bR sl xb = .bool t) (hw : WF h) : qc dr P ng o c sl h (if t then bR sl xy else bR sl xz) h := by
 refine ba hw fun β a w hr hop => ?_
 have h1 := hop b (by simp [ho, Op.operands]) xb hb
 have h2 := hop y (by simp [ho, Op.operands]) xy hy
 have h3 := hop z (by simp [ho, Op.operands]) xz hz
 rw [ht] at h1
 simp only [VR] at h1
 refine ⟨if t then a.eval y else a.eval z, ?_, ?_⟩
 ·simp [execOp, ho, h1, asBool]
 ·cases t
  ·exact h3
  ·exact h2
theorem Dh {v : AV} (h : A3 v = true) : v ≠ .top := fun q => by rw [q] at h; cases h
theorem VR.cells {β : cn} {v : AV} {u : Value} (h : VR β v u) (hv : v ≠ .top) : bE β v.cells u.cells.toList := by
 cases v with
 | agg vs =>
  simp only [VR] at h
  obtain ⟨cs, rfl, h⟩ := h
  exact h
 | bool b => simp only [VR] at h; subst h; simp [AV.cells, Value.cells, bE, VR]
 | int k n => simp only [VR] at h; subst h; simp [AV.cells, Value.cells, bE, VR]
 | str s =>
  simp only [VR] at h
  obtain ⟨b, rfl, h⟩ := h
  simp [AV.cells, Value.cells, bE, VR, h]
 | gA => simp only [VR] at h; subst h; simp [AV.cells, Value.cells, bE, VR]
 | ptr id off =>
  have h' := h
  simp only [VR] at h
  obtain ⟨L, _, rfl⟩ := h
  simp only [AV.cells, Value.cells, bE]
  exact ⟨_, _, rfl, h', rfl⟩
 | aO => simp only [VR] at h; subst h; simp [AV.cells, Value.cells, bE, VR]
 | sl id off len esz cap =>
  have h' := h
  simp only [VR] at h
  obtain ⟨L, o, cp, _, rfl, _⟩ := h
  simp only [AV.cells, Value.cells, bE]
  exact ⟨_, _, rfl, h', rfl⟩
 | eU => simp only [VR] at h; subst h; simp [AV.cells, Value.cells, bE, VR]
 | mp id =>
  have h' := h
  simp only [VR] at h
  obtain ⟨L, _, rfl⟩ := h
  simp only [AV.cells, Value.cells, bE]
  exact ⟨_, _, rfl, h', rfl⟩
 | jN => simp only [VR] at h; subst h; simp [AV.cells, Value.cells, bE, VR]
 | raw oa n cp => simp only [VR] at h; subst h; simp [AV.cells, Value.cells, bE, VR]
 | fn f caps =>
  have h' := h
  simp only [VR] at h
  obtain ⟨cs, rfl, _⟩ := h
  simp only [AV.cells, Value.cells, bE]
  exact ⟨_, _, rfl, h', rfl⟩
 | wy => simp only [VR] at h; subst h; simp [AV.cells, Value.cells, bE, VR]
 | iface t x =>
  have h' := h
  simp only [VR] at h
  obtain ⟨c, rfl, _⟩ := h
  simp only [AV.cells, Value.cells, bE]
  exact ⟨_, _, rfl, h', rfl⟩
 | KC f fs caps =>
  have h' := h
  simp only [VR] at h
  obtain ⟨_, _, rfl, _⟩ := h
  simp only [AV.cells, Value.cells, bE]
  exact ⟨_, _, rfl, h', rfl⟩
 | B0 id =>
  have h' := h
  simp only [VR] at h
  obtain ⟨L, _, rfl⟩ := h
  simp only [AV.cells, Value.cells, bE]
  exact ⟨_, _, rfl, h', rfl⟩
 | bO vs =>
  have h' := h
  simp only [VR] at h
  obtain ⟨cs, rfl, _⟩ := h
  simp only [AV.cells, Value.cells, bE]
  exact ⟨_, _, rfl, h', rfl⟩
 | var id =>
  have h' := h
  simp only [VR] at h
  obtain ⟨L, _, _, hc⟩ := h
  rw [hc]
  simp only [AV.cells, bE]
  exact ⟨_, _, rfl, h', rfl⟩
 | top => exact absurd rfl hv
/-! new blocks -/
theorem yW {β : cn} {n : Nat} {w w' : World} {vs : List AV} {cs : List Value} {e : TypeId} (hv : bE β vs cs) (hn : β n = none) (hw : w'.heap[w.heap.size]? = some (.cells cs.toArray e (0, 0))) :
    BR (nK β n ⟨w.heap.size, 0, cs.length, dv⟩) ⟨w.heap.size, 0, cs.length, dv⟩ w' (.cells vs) :=
 ⟨cs.toArray, (e, (0, 0)), hw, ⟨by simp, by have := hv.length; show 0 + vs.length ≤ cs.length; omega, fun i _ _ => by simp⟩, fun i v hi => by
  obtain ⟨u, h1, h2⟩ := hv.get hi
  exact ⟨u, by simpa using h1, VR.mono (gg _ hn) _ _ h2⟩⟩
theorem fP {f : Nat} {β : cn} {c : C} {h : H} {w : World} {b : AB} {L : Loc} {ob : Obj} (hr : HR f β (view c h) w) (hlt : h.n < h.n + 1) (hn : β h.n = none) (hblk : L.cm = w.heap.size)
    (hb : BR (nK β h.n L) L { w with heap := w.heap.push ob } b) :
    cI dr f h.n (h.n + 1) β (view c h) w (nK β h.n L) (view c ⟨Tr.set depth h.t h.n b, h.n + 1⟩) { w with heap := w.heap.push ob } :=
 uW hr hn hblk (fun B hB => by simp [Array.getElem?_push, Nat.ne_of_lt hB]) (by simp) rfl ⟨rfl, fun _ => Nat.le_refl _⟩ rfl hb (fun id d e => pV hlt e)
theorem KT {e : TypeId} {y : Operand} {x : XV} (ho : o.op = .box e y) (hx : cV y = some x) (jt : A3 (bR sl x) = true) (hw : WF h) (hlt : h.n < h.n + 1) :
    qc dr P ng o c sl h (.ptr h.n 0) ⟨Tr.set depth h.t h.n (.cells (bR sl x).cells), h.n + 1⟩ := by
 refine ⟨dP hw hlt, fun β a w hgb hr hop hfr K Q hK => ?_⟩
 have hv := (hop y (by simp [ho, Op.operands]) x hx).cells (Dh jt)
 have hn := hfr h.n (Nat.le_refl _) (by simp)
 unfold Oper.wp
 have hrun : (execOp a.eval o).run P w = .ok (.value (.pointer (some ⟨w.heap.size, 0, none⟩))) { w with heap := w.heap.push (.cells (a.eval y).cells e) } := by
  simp [execOp, ho, Instr.box, newVar, newRow]
 rw [hrun]
 refine hK _ _ _ (fP (L := ⟨w.heap.size, 0, (a.eval y).cells.toList.length, dv⟩) hr hlt hn rfl (yW (e := e) hv hn (by simp))) ?_
 simp only [VR]
 exact ⟨_, bM _ _ _, rfl⟩
theorem FE {e : TypeId} {z : Value} {az : AV} {i : TypeInfo} (ho : o.op = .alloc e) (hi : P.info? e = some i) (hz : i.zero = some z) (hv : ∀ β, VR β az z) (jt : A3 az = true) (hw : WF h) (hlt : h.n < h.n + 1) :
    qc dr P ng o c sl h (.ptr h.n 0) ⟨Tr.set depth h.t h.n (.cells az.cells), h.n + 1⟩ := by
 refine ⟨dP hw hlt, fun β a w hgb hr hop hfr K Q hK => ?_⟩
 have hn := hfr h.n (Nat.le_refl _) (by simp)
 unfold Oper.wp
 have hrun : (execOp a.eval o).run P w = .ok (.value (.pointer (some ⟨w.heap.size, 0, none⟩))) { w with heap := w.heap.push (.cells z.cells e) } := by
  simp [execOp, ho, Instr.alloc, newVar, newRow, zeroValue, run_typeInfo w hi, hz]
 rw [hrun]
 refine hK _ _ _ (fP (L := ⟨w.heap.size, 0, z.cells.toList.length, dv⟩) hr hlt hn rfl (yW (e := e) ((hv β).cells (Dh jt)) hn (by simp))) ?_
 simp only [VR]
 exact ⟨_, bM _ _ _, rfl⟩
/-! reading -/
theorem uX {β : cn} {L : Loc} {w : World} {vs : List AV} (hb : BR β L w (.cells vs)) {i : Nat} {v : AV} (hi : vs[i]? = some v) : ∃ u, w.cell? ⟨L.cm, L.base + i, none⟩ = some u ∧ VR β v u := by
 obtain ⟨cur, e, h1, h2, h3⟩ := hb
 obtain ⟨u, h4, h5⟩ := h3 i v hi
 exact ⟨u, by simp [World.cell?, h1, h4], h5⟩
theorem add_lit (b off n : Nat) : (⟨b, off, none⟩ : Addr).add n = ⟨b, off + n, none⟩ := by unfold Addr.add; split <;> simp_all
theorem kZ {β : cn} {L : Loc} {w : World} {vs : List AV} (hb : BR β L w (.cells vs)) {off n : Nat} (hn : off + n ≤ vs.length) :
    ∃ cs : List Value, bE β ((vs.drop off).take n) cs ∧ ∀ j u, cs[j]? = some u → w.cell? ((⟨L.cm, L.base + off, none⟩ : Addr).add j) = some u := by
 obtain ⟨cur, e, h1, h2, h3⟩ := hb
 have hc : ∀ i, i < n → ∃ u, cur[L.base + (off + i)]? = some u ∧ ∀ v, vs[off + i]? = some v → VR β v u := fun i hi => by
  have e1 : vs[off + i]? = some (vs[off + i]'om) := by simp
  obtain ⟨u, a, b⟩ := h3 _ _ e1
  exact ⟨u, a, fun v hv => by rw [e1] at hv; cases hv; exact b⟩
 have hsz : 0 < n → L.base + (off + n) ≤ cur.size := fun hp => by
  obtain ⟨u, a, _⟩ := hc (n - 1) om
  have := (Array.getElem?_eq_some_iff.1 a).1
  omega
 have hl : ((cur.toList.drop (L.base + off)).take n).length = n := by
  rcases Nat.eq_zero_or_pos n with z | z
  ·subst z; simp
  ·have := hsz z; simp; omega
 have hget : ∀ j, j < n → ((cur.toList.drop (L.base + off)).take n)[j]? = cur[L.base + (off + j)]? := fun j hj => by
  rw [List.getElem?_take_of_lt hj, List.getElem?_drop, Array.getElem?_toList, Nat.add_assoc]
 refine ⟨(cur.toList.drop (L.base + off)).take n, bE.of (by rw [hl]; simp; omega) ?_, fun j u hj => ?_⟩
 ·intro i v u h4 h5
  have hi : i < n := by
   have := (List.getElem?_eq_some_iff.1 h5).1
   rwa [hl] at this
  rw [hget i hi] at h5
  rw [List.getElem?_take_of_lt hi, List.getElem?_drop] at h4
  obtain ⟨u', a, b⟩ := hc i hi
  rw [a] at h5; cases h5
  exact b v h4
 ·have hi : j < n := by
    have := (List.getElem?_eq_some_iff.1 hj).1
    rwa [hl] at this
  rw [hget j hi] at hj
  rw [add_lit]
  simp only [World.cell?, h1, Option.isSome_none, Bool.false_eq_true, if_false]
  rw [Nat.add_assoc]; exact hj
end
end
end Go.Proofs.YtgaihilgffficaaGreatDoor.Ev
