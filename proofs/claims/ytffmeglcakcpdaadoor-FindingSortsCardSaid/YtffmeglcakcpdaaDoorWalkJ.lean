/- Contracts of the reference's Digits, and of Key of the program and of the reference. -/
import Derived.Test.YtffmeglcakcpdaaDoorWalkI
import Derived.Lib.ItoaLen
import Derived.Lib.ItoaMem
set_option linter.unusedVariables false
namespace Go.Proofs.YtffmeglcakcpdaaDoor
open Go.RowKit

theorem ret_str {a b : ByteArray} (h : a = b) : Ending.returned (.string a) = .returned (.string b) := by rw [h]
theorem conv1 (c : Int) (w : World) : (convert 48 9 (.slice (some ⟨w.heap.size, 0, none⟩) 1 1)).run Tryd.prog (w.alloc (.cells #[.int .u8 c] 5)) = .ok (.string (strOfNums [c])) (w.alloc (.cells #[.int .u8 c] 5)) :=
  run_convert_bytes_arg _ 48 5 Tryd.underlying48 Tryd.underlying5 w.heap.size 0 1 1 [c] rfl (fun i hi => by
    obtain rfl : i = 0 := by omega
    exact World.cell?_alloc_mark w _ _ _ 0) 9 Tryd.underlying9
theorem itoa_small (u : Nat) (h : u < 10) : Lib.itoa (u : Int) = [UInt8.ofNat (48 + u)] := by
  rw [Lib.itoa_nonneg, Lib.decDigits_one h]
theorem itoa_big (u : Nat) (h : ¬ u < 10) : Lib.itoa (u : Int) = Lib.itoa ((u / 10 : Nat) : Int) ++ [UInt8.ofNat (48 + u % 10)] := by
  rw [Lib.itoa_nonneg, Lib.itoa_nonneg, Lib.decDigits, dif_neg h]
theorem itoa_nsmall (u : Nat) (h1 : 1 ≤ u) (h : u < 10) : Lib.itoa (-(u : Int)) = [45, UInt8.ofNat (48 + u)] := by
  rw [Lib.itoa_neg u h1, Lib.decDigits_one h]
theorem itoa_nbig (u : Nat) (h : ¬ u < 10) : Lib.itoa (-(u : Int)) = Lib.itoa (-((u / 10 : Nat) : Int)) ++ [UInt8.ofNat (48 + u % 10)] := by
  rw [Lib.itoa_neg u (by omega), Lib.itoa_neg (u / 10) (by omega), Lib.decDigits, dif_neg h]; rfl
theorem str_one (c : Nat) : (strOfNums [(c : Int)]) = ⟨#[UInt8.ofNat c]⟩ := by unfold strOfNums; simp
theorem str_app (l : List UInt8) (c : Nat) : (⟨l.toArray⟩ : ByteArray) ++ strOfNums [(c : Int)] = ⟨(l ++ [UInt8.ofNat c]).toArray⟩ := by
  rw [str_one]; apply ByteArray.ext; simp
theorem str_minus (c : Nat) : (⟨#[45]⟩ : ByteArray) ++ strOfNums [(c : Int)] = ⟨([45, UInt8.ofNat c] : List UInt8).toArray⟩ := by
  rw [str_one]; rfl

set_option maxHeartbeats 1000000 in
theorem digits_pos (m : Nat) : ∀ (u : Nat) (w : World), u ≤ m → u ≤ 9223372036854775807 →
    Calls Tryd.prog 27 #[.int .i64 (u : Int)] w fun e w' => e = .returned (.string ⟨(Lib.itoa (u : Int)).toArray⟩) ∧ Below w.heap.size w w' := by
  induction m with
  | zero =>
    intro u w h0 h1
    have kc := conv1
    have hu : u < 10 := by omega
    go_enter Tryd.func27, Tryd.ntmps27
    go_wp2_with fail
    go_ret
    refine ⟨ret_str ?_, by go_grown⟩
    rw [itoa_small u hu]
    have e : (48 + (u : Int) % 10) = ((48 + u : Nat) : Int) := by omega
    rw [e, str_one]
  | succ m ih =>
    intro u w h0 h1
    have IH := Lib.hid ih
    clear ih
    have kc := conv1
    by_cases hu : u < 10
    · go_enter Tryd.func27, Tryd.ntmps27
      go_wp2_with fail
      go_ret
      refine ⟨ret_str ?_, by go_grown⟩
      rw [itoa_small u hu]
      have e : (48 + (u : Int) % 10) = ((48 + u : Nat) : Int) := by omega
      rw [e, str_one]
    · have hl := Lib.itoa_length_le ((u / 10 : Nat) : Int) (by omega) (by omega)
      go_enter Tryd.func27, Tryd.ntmps27
      go_wp2_with fail
      have e : ((u : Int) / 10) = ((u / 10 : Nat) : Int) := by omega
      rw [e]
      refine (IH.out (u / 10) _ (by omega) (by omega)).mono ?_
      rintro e w1 ⟨rfl, hb1⟩
      have B1 : Hid (Below w.heap.size w w1) := over hb1 (by go_grown) (by go_size)
      clear hb1
      have e2 : (48 + (u : Int) % 10) = ((48 + u % 10 : Nat) : Int) := by omega
      rw [e2]
      have HT := Lib.hid (str_app (Lib.itoa ((u / 10 : Nat) : Int)) (48 + u % 10))
      have hls : (⟨(Lib.itoa ((u / 10 : Nat) : Int)).toArray⟩ : ByteArray).size ≤ 21 := by show (Lib.itoa ((u / 10 : Nat) : Int)).toArray.size ≤ 21; simpa using hl
      have hts : (strOfNums [((48 + u % 10 : Nat) : Int)]).size ≤ 1 := by rw [strOfNums_size]; simp
      generalize (⟨(Lib.itoa ((u / 10 : Nat) : Int)).toArray⟩ : ByteArray) = S at *
      generalize strOfNums [((48 + u % 10 : Nat) : Int)] = T at *
      clear hl kc e e2
      go_wp2_with fail
      go_ret
      exact ⟨ret_str (by rw [HT.out, ← itoa_big u (by omega)]), B1.out⟩
set_option maxHeartbeats 1000000 in
theorem digits_neg (m : Nat) : ∀ (u : Nat) (w : World), 1 ≤ u → u ≤ m → u ≤ 9223372036854775808 →
    Calls Tryd.prog 27 #[.int .i64 (-(u : Int))] w fun e w' => e = .returned (.string ⟨(Lib.itoa (-(u : Int))).toArray⟩) ∧ Below w.heap.size w w' := by
  induction m with
  | zero => intro u w h h0 h1; omega
  | succ m ih =>
    intro u w hu1 h0 h1
    have IH := Lib.hid ih
    clear ih
    have kc := conv1
    have d1 : (-(u : Int)).tmod 10 = -((u % 10 : Nat) : Int) := by rw [Int.neg_tmod, Int.tmod_eq_emod_of_nonneg (by omega)]; omega
    have d2 : (-(u : Int)).tdiv 10 = -((u / 10 : Nat) : Int) := by rw [Int.neg_tdiv, Int.tdiv_eq_ediv_of_nonneg (by omega)]; omega
    have hneg : -(u : Int) < 0 := by omega
    have HN := Lib.hid (show -(u : Int) = -(u : Int) from rfl)
    generalize hn : -(u : Int) = n at *
    have hn1 : -9223372036854775808 ≤ n := by omega
    have HU : Hid (n = -(u : Int)) := hn.symm
    clear hn
    generalize hr : u % 10 = r at *
    have hr10 : r < 10 := by omega
    have HR := Lib.hid hr
    clear hr
    by_cases hu : u < 10
    · have hq : u / 10 = 0 := by omega
      rw [hq] at d2
      have hts : (strOfNums [((48 + r : Nat) : Int)]).size ≤ 1 := by rw [strOfNums_size]; simp
      go_enter Tryd.func27, Tryd.ntmps27
      go_wp2_with fail
      go_ret
      refine ⟨ret_str ?_, by go_grown⟩
      have e : (48 + (r : Int)) = ((48 + u : Nat) : Int) := by have := HR.out; omega
      rw [HU.out, itoa_nsmall u hu1 hu, e, str_minus]
    · generalize hq : u / 10 = q at *
      have HQ := Lib.hid hq
      have hq1 : 1 ≤ q := by omega
      have hq2 : q ≤ 922337203685477581 := by omega
      have hqb : (-(q : Int) == 0) = false := by rw [beq_eq_false_iff_ne]; omega
      have HI : Hid (Lib.itoa n = Lib.itoa (-(q : Int)) ++ [UInt8.ofNat (48 + r)]) := by unfold Hid; rw [HU.out, itoa_nbig u hu, hq, HR.out]
      have hl := Lib.itoa_length_le (-(q : Int)) (by omega) (by omega)
      clear hq
      go_enter Tryd.func27, Tryd.ntmps27
      go_wp2_with fail
      refine (IH.out q _ hq1 (by have := HQ.out; omega) (by have := HQ.out; omega)).mono ?_
      rintro e w1 ⟨rfl, hb1⟩
      have B1 : Hid (Below w.heap.size w w1) := over hb1 (by go_grown) (by go_size)
      clear hb1
      have e2 : (48 + (r : Int)) = ((48 + r : Nat) : Int) := by omega
      rw [e2]
      have HT := Lib.hid (str_app (Lib.itoa (-(q : Int))) (48 + r))
      have hls : (⟨(Lib.itoa (-(q : Int))).toArray⟩ : ByteArray).size ≤ 21 := by show (Lib.itoa (-(q : Int))).toArray.size ≤ 21; simpa using hl
      have hts : (strOfNums [((48 + r : Nat) : Int)]).size ≤ 1 := by rw [strOfNums_size]; simp
      generalize (⟨(Lib.itoa (-(q : Int))).toArray⟩ : ByteArray) = S at *
      generalize strOfNums [((48 + r : Nat) : Int)] = T at *
      clear hl kc e2
      go_wp2_with fail
      go_ret
      exact ⟨ret_str (by rw [HT.out, ← HI.out]), B1.out⟩

theorem digits_any (n : Int) (w : World) (h0 : -9223372036854775808 ≤ n) (h1 : n ≤ 9223372036854775807) :
    Calls Tryd.prog 27 #[.int .i64 n] w fun e w' => e = .returned (.string ⟨(Lib.itoa n).toArray⟩) ∧ Below w.heap.size w w' := by
  by_cases h : 0 ≤ n
  · obtain ⟨u, rfl⟩ := Int.eq_ofNat_of_zero_le h
    exact digits_pos u u w (Nat.le_refl _) (by omega)
  · obtain ⟨u, rfl⟩ : ∃ u : Nat, n = -(u : Int) := ⟨n.natAbs, by omega⟩
    exact digits_neg u u w (by omega) (Nat.le_refl _) (by omega)
theorem itoa_any (n : Int) (w : World) (hE : Env w) (h0 : -9223372036854775808 ≤ n) (h1 : n ≤ 9223372036854775807) :
    Calls Tryd.prog 26 #[.int .i64 n] w fun e w' => e = .returned (.string ⟨(Lib.itoa n).toArray⟩) ∧ Below w.heap.size w w' :=
  (Tryd.strconv_Itoa n h0 h1 w hE.tab).mono fun e w' ⟨he, k, os, hw⟩ => ⟨he, by
    subst hw
    exact ⟨rfl, rfl, rfl, by simp [Sort.grow, World.drewN], fun i hi => by rw [Sort.heap_grow_old _ _ (show i < (w.drewN k).heap.size from hi)]; rfl⟩⟩

/-- the key of a finding -/
def keyFd (x : Fd) : ByteArray := ⟨(Lib.itoa x.kind).toArray⟩ ++ ⟨#[32]⟩ ++ x.pl.cls ++ ⟨#[46]⟩ ++ x.pl.meth ++ ⟨#[35]⟩ ++ ⟨(Lib.itoa x.pl.ins).toArray⟩ ++ ⟨#[32]⟩ ++ x.what

structure Fd.Ok (x : Fd) : Prop where
  k0 : -9223372036854775808 ≤ x.kind
  k1 : x.kind ≤ 9223372036854775807
  i0 : -9223372036854775808 ≤ x.pl.ins
  i1 : x.pl.ins ≤ 9223372036854775807
  s1 : x.pl.cls.size ≤ 281474976710656
  s2 : x.pl.meth.size ≤ 281474976710656
  s3 : x.what.size ≤ 281474976710656
  n1 : x.path.length ≤ 281474976710656

set_option maxHeartbeats 1000000 in
theorem key_any (x : Fd) (a : Option Addr) (cp : Nat) (w : World) (hE : Env w) (hx : x.Ok) :
    Calls Tryd.prog 10 #[x.val a cp] w fun e w' => e = .returned (.string (keyFd x)) ∧ Below w.heap.size w w' := by
  unfold Fd.val
  have HE := Lib.hid hE
  clear hE
  obtain ⟨a1, a2, a3, a4, a5, a6, a7, a8⟩ := hx
  have HK : Hid (keyFd x = ⟨(Lib.itoa x.kind).toArray⟩ ++ ⟨#[32]⟩ ++ x.pl.cls ++ ⟨#[46]⟩ ++ x.pl.meth ++ ⟨#[35]⟩ ++ ⟨(Lib.itoa x.pl.ins).toArray⟩ ++ ⟨#[32]⟩ ++ x.what) := rfl
  have l1 := Lib.itoa_length_le x.kind a1 a2
  have l2 := Lib.itoa_length_le x.pl.ins a3 a4
  have C1 := fun W (h : Env W) => itoa_any x.kind W h a1 a2
  have C2 := fun W (h : Env W) => itoa_any x.pl.ins W h a3 a4
  have s1 : (⟨(Lib.itoa x.kind).toArray⟩ : ByteArray).size ≤ 21 := by show (Lib.itoa x.kind).toArray.size ≤ 21; simpa using l1
  have s2 : (⟨(Lib.itoa x.pl.ins).toArray⟩ : ByteArray).size ≤ 21 := by show (Lib.itoa x.pl.ins).toArray.size ≤ 21; simpa using l2
  clear l1 l2
  generalize (⟨(Lib.itoa x.kind).toArray⟩ : ByteArray) = S1 at *
  generalize (⟨(Lib.itoa x.pl.ins).toArray⟩ : ByteArray) = S2 at *
  have D1 := Lib.hid C1
  have D2 := Lib.hid C2
  clear C1 C2
  have n1 : ¬ 9223372036854775807 < S1.size + 1 := by omega
  have n2 : ¬ 9223372036854775807 < S1.size + 1 + x.pl.cls.size := by omega
  have n3 : ¬ 9223372036854775807 < S1.size + 1 + x.pl.cls.size + 1 := by omega
  have n4 : ¬ 9223372036854775807 < S1.size + 1 + x.pl.cls.size + 1 + x.pl.meth.size := by omega
  have n5 : ¬ 9223372036854775807 < S1.size + 1 + x.pl.cls.size + 1 + x.pl.meth.size + 1 := by omega
  have n6 : ¬ 9223372036854775807 < S1.size + 1 + x.pl.cls.size + 1 + x.pl.meth.size + 1 + S2.size := by omega
  have n7 : ¬ 9223372036854775807 < S1.size + 1 + x.pl.cls.size + 1 + x.pl.meth.size + 1 + S2.size + 1 := by omega
  have n8 : ¬ 9223372036854775807 < S1.size + 1 + x.pl.cls.size + 1 + x.pl.meth.size + 1 + S2.size + 1 + x.what.size := by omega
  go_enter Tryd.func10, Tryd.ntmps10
  go_wp2_with fail
  have HB : Hid (Below w.heap.size w (w.alloc (.cells #[.int .i64 x.kind, .string x.pl.cls, .string x.pl.meth, .int .i64 x.pl.ins, .string x.what, .slice a x.path.length cp] 26))) := by unfold Hid; go_grown
  have k0 : (w.alloc (.cells #[.int .i64 x.kind, .string x.pl.cls, .string x.pl.meth, .int .i64 x.pl.ins, .string x.what, .slice a x.path.length cp] 26)).cell? ⟨w.heap.size, 0, none⟩ = some (.int .i64 x.kind) := by go_simp
  have k1 : (w.alloc (.cells #[.int .i64 x.kind, .string x.pl.cls, .string x.pl.meth, .int .i64 x.pl.ins, .string x.what, .slice a x.path.length cp] 26)).cell? ⟨w.heap.size, 1, none⟩ = some (.string x.pl.cls) := by go_simp
  have k2 : (w.alloc (.cells #[.int .i64 x.kind, .string x.pl.cls, .string x.pl.meth, .int .i64 x.pl.ins, .string x.what, .slice a x.path.length cp] 26)).cell? ⟨w.heap.size, 1 + 1, none⟩ = some (.string x.pl.meth) := by go_simp
  have k3 : (w.alloc (.cells #[.int .i64 x.kind, .string x.pl.cls, .string x.pl.meth, .int .i64 x.pl.ins, .string x.what, .slice a x.path.length cp] 26)).cell? ⟨w.heap.size, 1 + 2, none⟩ = some (.int .i64 x.pl.ins) := by go_simp
  have k4 : (w.alloc (.cells #[.int .i64 x.kind, .string x.pl.cls, .string x.pl.meth, .int .i64 x.pl.ins, .string x.what, .slice a x.path.length cp] 26)).cell? ⟨w.heap.size, 4, none⟩ = some (.string x.what) := by go_simp
  generalize w.alloc (.cells #[.int .i64 x.kind, .string x.pl.cls, .string x.pl.meth, .int .i64 x.pl.ins, .string x.what, .slice a x.path.length cp] 26) = W at *
  have r0 := cell_regrown k0
  have r1 := cell_regrown k1
  have r2 := cell_regrown k2
  have r3 := cell_regrown k3
  have r4 := cell_regrown k4
  clear k0 k1 k2 k3 k4
  refine wp_region_below (by kernel_rfl) (by kernel_rfl) ?_
  repeat (quiet_step (first | with_reducible exact Calls.regrown_of (D1.out _ ((HE.out.below HB.out).below (below_regrown _ _ _))) | with_reducible exact Calls.regrown_of (D2.out _ ((HE.out.below HB.out).below (below_regrown _ _ _)))))
  refine wpQuiet_nil ?_
  clear r0 r1 r2 r3 r4
  intro wq hq
  go_wp2_with fail
  go_ret
  exact ⟨ret_str HK.out.symm, over hq.out HB.out HB.out.size⟩

set_option maxHeartbeats 1000000 in
theorem keyR_any (x : Fd) (a : Option Addr) (cp : Nat) (w : World) (hx : x.Ok) :
    Calls Tryd.prog 11 #[x.val a cp] w fun e w' => e = .returned (.string (keyFd x)) ∧ Below w.heap.size w w' := by
  unfold Fd.val
  obtain ⟨a1, a2, a3, a4, a5, a6, a7, a8⟩ := hx
  have HK : Hid (keyFd x = ⟨(Lib.itoa x.kind).toArray⟩ ++ ⟨#[32]⟩ ++ x.pl.cls ++ ⟨#[46]⟩ ++ x.pl.meth ++ ⟨#[35]⟩ ++ ⟨(Lib.itoa x.pl.ins).toArray⟩ ++ ⟨#[32]⟩ ++ x.what) := rfl
  have l1 := Lib.itoa_length_le x.kind a1 a2
  have l2 := Lib.itoa_length_le x.pl.ins a3 a4
  have C1 := fun W  => digits_any x.kind W a1 a2
  have C2 := fun W  => digits_any x.pl.ins W a3 a4
  have s1 : (⟨(Lib.itoa x.kind).toArray⟩ : ByteArray).size ≤ 21 := by show (Lib.itoa x.kind).toArray.size ≤ 21; simpa using l1
  have s2 : (⟨(Lib.itoa x.pl.ins).toArray⟩ : ByteArray).size ≤ 21 := by show (Lib.itoa x.pl.ins).toArray.size ≤ 21; simpa using l2
  clear l1 l2
  generalize (⟨(Lib.itoa x.kind).toArray⟩ : ByteArray) = S1 at *
  generalize (⟨(Lib.itoa x.pl.ins).toArray⟩ : ByteArray) = S2 at *
  have D1 := Lib.hid C1
  have D2 := Lib.hid C2
  clear C1 C2
  have n1 : ¬ 9223372036854775807 < S1.size + 1 := by omega
  have n2 : ¬ 9223372036854775807 < S1.size + 1 + x.pl.cls.size := by omega
  have n3 : ¬ 9223372036854775807 < S1.size + 1 + x.pl.cls.size + 1 := by omega
  have n4 : ¬ 9223372036854775807 < S1.size + 1 + x.pl.cls.size + 1 + x.pl.meth.size := by omega
  have n5 : ¬ 9223372036854775807 < S1.size + 1 + x.pl.cls.size + 1 + x.pl.meth.size + 1 := by omega
  have n6 : ¬ 9223372036854775807 < S1.size + 1 + x.pl.cls.size + 1 + x.pl.meth.size + 1 + S2.size := by omega
  have n7 : ¬ 9223372036854775807 < S1.size + 1 + x.pl.cls.size + 1 + x.pl.meth.size + 1 + S2.size + 1 := by omega
  have n8 : ¬ 9223372036854775807 < S1.size + 1 + x.pl.cls.size + 1 + x.pl.meth.size + 1 + S2.size + 1 + x.what.size := by omega
  go_enter Tryd.func11, Tryd.ntmps11
  go_wp2_with fail
  have HB : Hid (Below w.heap.size w (w.alloc (.cells #[.int .i64 x.kind, .string x.pl.cls, .string x.pl.meth, .int .i64 x.pl.ins, .string x.what, .slice a x.path.length cp] 26))) := by unfold Hid; go_grown
  have k0 : (w.alloc (.cells #[.int .i64 x.kind, .string x.pl.cls, .string x.pl.meth, .int .i64 x.pl.ins, .string x.what, .slice a x.path.length cp] 26)).cell? ⟨w.heap.size, 0, none⟩ = some (.int .i64 x.kind) := by go_simp
  have k1 : (w.alloc (.cells #[.int .i64 x.kind, .string x.pl.cls, .string x.pl.meth, .int .i64 x.pl.ins, .string x.what, .slice a x.path.length cp] 26)).cell? ⟨w.heap.size, 1, none⟩ = some (.string x.pl.cls) := by go_simp
  have k2 : (w.alloc (.cells #[.int .i64 x.kind, .string x.pl.cls, .string x.pl.meth, .int .i64 x.pl.ins, .string x.what, .slice a x.path.length cp] 26)).cell? ⟨w.heap.size, 1 + 1, none⟩ = some (.string x.pl.meth) := by go_simp
  have k3 : (w.alloc (.cells #[.int .i64 x.kind, .string x.pl.cls, .string x.pl.meth, .int .i64 x.pl.ins, .string x.what, .slice a x.path.length cp] 26)).cell? ⟨w.heap.size, 1 + 2, none⟩ = some (.int .i64 x.pl.ins) := by go_simp
  have k4 : (w.alloc (.cells #[.int .i64 x.kind, .string x.pl.cls, .string x.pl.meth, .int .i64 x.pl.ins, .string x.what, .slice a x.path.length cp] 26)).cell? ⟨w.heap.size, 4, none⟩ = some (.string x.what) := by go_simp
  generalize w.alloc (.cells #[.int .i64 x.kind, .string x.pl.cls, .string x.pl.meth, .int .i64 x.pl.ins, .string x.what, .slice a x.path.length cp] 26) = W at *
  have r0 := cell_regrown k0
  have r1 := cell_regrown k1
  have r2 := cell_regrown k2
  have r3 := cell_regrown k3
  have r4 := cell_regrown k4
  clear k0 k1 k2 k3 k4
  refine wp_region_below (by kernel_rfl) (by kernel_rfl) ?_
  repeat (quiet_step (first | with_reducible exact Calls.regrown_of (D1.out _ ) | with_reducible exact Calls.regrown_of (D2.out _ )))
  refine wpQuiet_nil ?_
  clear r0 r1 r2 r3 r4
  intro wq hq
  go_wp2_with fail
  go_ret
  exact ⟨ret_str HK.out.symm, over hq.out HB.out HB.out.size⟩
end Go.Proofs.YtffmeglcakcpdaaDoor
