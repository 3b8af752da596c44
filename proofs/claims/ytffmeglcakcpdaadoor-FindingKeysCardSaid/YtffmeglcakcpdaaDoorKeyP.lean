/- Plain facts: the keys of two valid findings are equal exactly if kind, place and What are. -/
import Derived.Test.YtffmeglcakcpdaaDoorWalkJ
set_option linter.unusedVariables false
namespace Go.Proofs.YtffmeglcakcpdaaDoor

theorem sep_inj {α : Type} {c : α} : ∀ {A A' B B' : List α}, A ++ c :: B = A' ++ c :: B' → c ∉ A → c ∉ A' → A = A' ∧ B = B'
  | [], [], B, B', h, _, _ => ⟨rfl, by simpa using h⟩
  | [], a :: A', B, B', h, _, h2 => by simp at h; exact absurd (by simp [h.1]) h2
  | a :: A, [], B, B', h, h1, _ => by simp at h; exact absurd (by simp [h.1]) h1
  | a :: A, a' :: A', B, B', h, h1, h2 => by
    simp only [List.cons_append, List.cons.injEq] at h
    obtain ⟨rfl, h⟩ := h
    obtain ⟨e1, e2⟩ := sep_inj h (fun hc => h1 (List.mem_cons_of_mem _ hc)) (fun hc => h2 (List.mem_cons_of_mem _ hc))
    exact ⟨by rw [e1], e2⟩

def digVal (l : List UInt8) : Nat := l.foldl (fun a c => a * 10 + (c.toNat - 48)) 0
theorem digVal_dec (u : Nat) : digVal (Lib.decDigits u) = u := by
  induction u using Nat.strongRecOn with
  | _ u ih =>
    by_cases h : u < 10
    · rw [Lib.decDigits_one h]
      unfold digVal
      simp [UInt8.toNat_ofNat']
      omega
    · rw [Lib.decDigits, dif_neg h]
      have := ih (u / 10) (by omega)
      unfold digVal at *
      rw [List.foldl_append, this]
      simp [UInt8.toNat_ofNat']
      omega
theorem dec_inj {u v : Nat} (h : Lib.decDigits u = Lib.decDigits v) : u = v := by rw [← digVal_dec u, h, digVal_dec]
theorem dec_digits (u : Nat) : ∀ c ∈ Lib.decDigits u, 48 ≤ c.toNat ∧ c.toNat ≤ 57 := by
  induction u using Nat.strongRecOn with
  | _ u ih =>
    by_cases h : u < 10
    · rw [Lib.decDigits_one h]
      intro c hc
      rw [List.mem_singleton] at hc
      subst hc
      rw [UInt8.toNat_ofNat']
      omega
    · rw [Lib.decDigits, dif_neg h]
      intro c hc
      rcases List.mem_append.1 hc with hc | hc
      · exact ih (u / 10) (by omega) c hc
      · rw [List.mem_singleton] at hc
        subst hc
        rw [UInt8.toNat_ofNat']
        omega
theorem itoa_inj {m n : Int} (hm : 0 ≤ m) (hn : 0 ≤ n) (h : Lib.itoa m = Lib.itoa n) : m = n := by
  obtain ⟨u, rfl⟩ := Int.eq_ofNat_of_zero_le hm
  obtain ⟨v, rfl⟩ := Int.eq_ofNat_of_zero_le hn
  rw [Lib.itoa_nonneg, Lib.itoa_nonneg] at h
  rw [dec_inj h]
theorem itoa_digits {m : Int} (hm : 0 ≤ m) : ∀ c ∈ Lib.itoa m, 48 ≤ c.toNat ∧ c.toNat ≤ 57 := by
  obtain ⟨u, rfl⟩ := Int.eq_ofNat_of_zero_le hm
  rw [Lib.itoa_nonneg]
  exact dec_digits u
theorem ident_parts {s : ByteArray} (h : isIdent s = true) : ∀ c ∈ s.data.toList, isPart c.toNat = true := by
  unfold isIdent at h
  simp only [Bool.and_eq_true, List.all_eq_true] at h
  exact h.1.2
theorem valid_of {x : Fd} (h : checkFd x = 0) : 1 ≤ x.kind ∧ isIdent x.pl.cls = true ∧ isIdent x.pl.meth = true ∧ 0 ≤ x.pl.ins := by
  unfold checkFd at h
  by_cases h1 : 1 ≤ x.kind ∧ x.kind ≤ 4
  · rw [if_pos h1] at h
    by_cases h2 : errPl x.pl = 0
    · unfold errPl at h2
      cases hc : isIdent x.pl.cls <;> cases hm : isIdent x.pl.meth <;> simp [hc, hm] at h2 ⊢
      by_cases hi : 0 ≤ x.pl.ins ∧ x.pl.ins < 1024
      · exact ⟨h1.1, hi.1⟩
      · simp [hi] at h2
    · rw [if_neg h2] at h; exact absurd h h2
  · rw [if_neg h1] at h; omega
theorem keyFd_list (x : Fd) : (keyFd x).data.toList = Lib.itoa x.kind ++ 32 :: (x.pl.cls.data.toList ++ 46 :: (x.pl.meth.data.toList ++ 35 :: (Lib.itoa x.pl.ins ++ 32 :: x.what.data.toList))) := by
  unfold keyFd
  simp [ByteArray.data_append]
theorem bytes_ext {a b : ByteArray} (h : a.data.toList = b.data.toList) : a = b := ByteArray.ext (Array.toList_inj.1 h)
def sameB (x y : Fd) : Bool := x.kind == y.kind && (plEq x.pl y.pl && x.what.toList == y.what.toList)
theorem key_same {x y : Fd} (hx : checkFd x = 0) (hy : checkFd y = 0) : ((keyFd x).toList == (keyFd y).toList) = sameB x y := by
  obtain ⟨a1, a2, a3, a4⟩ := valid_of hx
  obtain ⟨b1, b2, b3, b4⟩ := valid_of hy
  rw [Bool.eq_iff_iff]
  unfold sameB plEq
  simp only [Lib.toList_data, beq_iff_eq, Bool.and_eq_true]
  rw [keyFd_list, keyFd_list]
  constructor
  · intro h
    have no32 : ∀ {m : Int}, 0 ≤ m → (32 : UInt8) ∉ Lib.itoa m := fun hm hc => by have := itoa_digits hm _ hc; simp at this
    have no46 : ∀ {s : ByteArray}, isIdent s = true → (46 : UInt8) ∉ s.data.toList := fun hs hc => by have := ident_parts hs _ hc; simp [isPart, isLet, isDig] at this
    have no35 : ∀ {s : ByteArray}, isIdent s = true → (35 : UInt8) ∉ s.data.toList := fun hs hc => by have := ident_parts hs _ hc; simp [isPart, isLet, isDig] at this
    obtain ⟨e1, h⟩ := sep_inj h (no32 (by omega)) (no32 (by omega))
    obtain ⟨e2, h⟩ := sep_inj h (no46 a2) (no46 b2)
    obtain ⟨e3, h⟩ := sep_inj h (no35 a3) (no35 b3)
    obtain ⟨e4, e5⟩ := sep_inj h (no32 a4) (no32 b4)
    exact ⟨itoa_inj (by omega) (by omega) e1, ⟨e2, e3, itoa_inj a4 b4 e4⟩, e5⟩
  · rintro ⟨e1, ⟨e2, e3, e4⟩, e5⟩
    rw [e1, e2, e3, e4, e5]
end Go.Proofs.YtffmeglcakcpdaaDoor
