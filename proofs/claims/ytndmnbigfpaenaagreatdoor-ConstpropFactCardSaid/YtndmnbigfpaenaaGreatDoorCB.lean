/- Contracts of Fact: of the package and of the reference. -/
import Derived.Test.YtndmnbigfpaenaaGreatDoorUA
set_option linter.unusedVariables false
set_option linter.unusedSimpArgs false
namespace Go.Proofs.YtndmnbigfpaenaaGreatDoor
open Go.RowKit

set_option maxHeartbeats 2000000 in
theorem fact_any (fs : List Fn) (ha : Option Addr) (hn hc : Nat) (a : Option Addr) (cp : Nat) (m f v : Int) (w : World) (hlen : fs.length ≤ 60) (hcp : fs.length ≤ cp) (hcb : cp ≤ 140737488355328) (hv : ∀ x ∈ fs, x.vn ≤ 140737488355328) (hA : FnsAt w a fs) :
    Calls Tryz.prog 4 #[.agg #[.slice ha hn hc, .slice a fs.length cp, .int .i64 m], .int .i64 f, .int .i64 v] w fun e w' => e = .returned (.int .i64 (factOf fs f v)) ∧ Below w.heap.size w w' := by
  by_cases hf0 : f < 0
  · have HF := Lib.hid (factOf_neg (fs := fs) (v := v) hf0)
    go_enter Tryz.func4, Tryz.ntmps4
    go_wp2_with fail
    go_ret
    exact ⟨ret_int HF.out.symm, by go_grown⟩
  by_cases hf1 : (fs.length : Int) ≤ f
  · have HF := Lib.hid (factOf_ge (fs := fs) (v := v) hf1)
    go_enter Tryz.func4, Tryz.ntmps4
    go_wp2_with fail
    go_ret
    exact ⟨ret_int HF.out.symm, by go_grown⟩
  obtain ⟨k, rfl⟩ : ∃ k : Nat, f = (k : Int) := ⟨f.toNat, by omega⟩
  have hk : k < fs.length := by omega
  by_cases hv0 : v < 0
  · have HF := Lib.hid (factOf_vneg (fs := fs) (f := (k : Int)) hv0)
    go_enter Tryz.func4, Tryz.ntmps4
    go_wp2_with fail
    go_ret
    exact ⟨ret_int HF.out.symm, by go_grown⟩
  obtain ⟨b, off, rfl, hbs, c0, c1, c2, c3, c4, c5, c6⟩ := hA.get hk
  have hvk := hv fs[k] (List.getElem_mem _)
  by_cases hv1 : (fs[k].vn : Int) + 1 < v
  · have HF := Lib.hid (factOf_vbig hk hv1)
    go_enter Tryz.func4, Tryz.ntmps4
    go_wp2_with fail
    go_ret
    exact ⟨ret_int HF.out.symm, by go_grown⟩
  have HF := Lib.hid (factOf_in hk hv0 hv1)
  have HV := Lib.hid hv
  have HA := Lib.hid hA
  clear hv hA
  go_enter Tryz.func4, Tryz.ntmps4
  go_wp2_with fail
  go_loopw [42, 7] (fun i s wr => ∃ (j : Nat) (z : Int), j ≤ k ∧ i = .int .i64 j ∧ s = .int .i64 z ∧ 0 ≤ z ∧ z ≤ 9000000000000000 ∧ Hid (z = 1 + v + (pre fs j : Int)) ∧ Below w.heap.size w wr) (fun i _ _ => k - (intOf i).toNat)
  case atStart => exact ⟨0, 1 + v, Nat.zero_le _, rfl, rfl, by omega, by omega, by simp [Hid, pre], by go_grown⟩
  case round =>
    obtain ⟨j, z, hj, rfl, rfl, hz0, hz1, HZ, hb⟩ := hrel
    have hsz := hb.size
    by_cases hlt : j < k
    · have hjl : j < fs.length := by omega
      obtain ⟨b', off', heq, hbs', d0, d1, d2, d3, d4, d5, d6⟩ := (HA.out.below hb).get hjl
      cases heq
      have hvj := HV.out fs[j] (List.getElem_mem _)
      have hpb := pre_bound HV.out hlen (k := j + 1) (by omega)
      have hps := pre_succ hjl
      have hz := HZ.out
      have HZ1 := Lib.hid (show z + ((fs[j].vn : Int) + 2) = 1 + v + (pre fs (j + 1) : Int) by rw [hps]; omega)
      have hz2 : z + ((fs[j].vn : Int) + 2) ≤ 9000000000000000 := by rw [HZ1.out]; omega
      clear hz hps hpb
      go_wp2_with fail
      go_roundw
      case rel => exact ⟨j + 1, z + ((fs[j].vn : Int) + 2), by omega, by go_num, by go_num, by omega, hz2, HZ1.out, by go_grown⟩
      case measure => simp [intOf]; omega
    · obtain rfl : j = k := by omega
      go_wp2_with fail
      go_ret
      exact ⟨ret_int (by rw [HF.out, HZ.out]), by go_grown⟩

set_option maxHeartbeats 2000000 in
theorem offset_any (fs : List Fn) (ha : Option Addr) (hn hc : Nat) (a : Option Addr) (cp : Nat) (m : Int) (k : Nat) (w : World) (hlen : fs.length ≤ 60) (hcp : fs.length ≤ cp) (hcb : cp ≤ 140737488355328) (hv : ∀ x ∈ fs, x.vn ≤ 140737488355328) (hk : k ≤ fs.length) (hA : FnsAt w a fs) :
    Calls Tryz.prog 11 #[.agg #[.slice ha hn hc, .slice a fs.length cp, .int .i64 m], .int .i64 (k : Int)] w fun e w' => e = .returned (.int .i64 (pre fs k : Int)) ∧ Below w.heap.size w w' := by
  have HV := Lib.hid hv
  have HA := Lib.hid hA
  clear hv hA
  go_enter Tryz.func11, Tryz.ntmps11
  go_wp2_with fail
  go_loop [6, 5] (fun i s => ∃ (j : Nat) (z : Int), j ≤ k ∧ i = .int .i64 j ∧ s = .int .i64 z ∧ 0 ≤ z ∧ z ≤ 9000000000000000 ∧ Hid (z = (pre fs j : Int))) (fun i _ => k - (intOf i).toNat)
  case atStart => exact ⟨0, 0, Nat.zero_le _, rfl, rfl, by omega, by omega, by simp [Hid, pre]⟩
  case round =>
    obtain ⟨j, z, hj, rfl, rfl, hz0, hz1, HZ⟩ := hrel
    by_cases hlt : j < k
    · have hjl : j < fs.length := by omega
      obtain ⟨b, off, rfl, hbs', d0, d1, d2, d3, d4, d5, d6⟩ := HA.out.get hjl
      have hvj := HV.out fs[j] (List.getElem_mem _)
      have hpb := pre_bound HV.out hlen (k := j + 1) (by omega)
      have hps := pre_succ hjl
      have hz := HZ.out
      have HZ1 := Lib.hid (show z + (fs[j].vn : Int) + 2 = (pre fs (j + 1) : Int) by rw [hps]; omega)
      have hz2 : z + (fs[j].vn : Int) + 2 ≤ 9000000000000000 := by rw [HZ1.out]; omega
      clear hz hps hpb
      go_wp2_with fail
      go_round
      case rel => exact ⟨j + 1, z + (fs[j].vn : Int) + 2, by omega, by go_num, by go_num, by omega, hz2, HZ1.out⟩
      case measure => simp [intOf]; omega
    · obtain rfl : j = k := by omega
      go_wp2_with fail
      go_ret
      exact ⟨ret_int HZ.out, by go_grown⟩

set_option maxHeartbeats 2000000 in
theorem factR_any (fs : List Fn) (ha : Option Addr) (hn hc : Nat) (a : Option Addr) (cp : Nat) (m f v : Int) (w : World) (hlen : fs.length ≤ 60) (hcp : fs.length ≤ cp) (hcb : cp ≤ 140737488355328) (hv : ∀ x ∈ fs, x.vn ≤ 140737488355328) (hA : FnsAt w a fs) :
    Calls Tryz.prog 7 #[.agg #[.slice ha hn hc, .slice a fs.length cp, .int .i64 m], .int .i64 f, .int .i64 v] w fun e w' => e = .returned (.int .i64 (factOf fs f v)) ∧ Below w.heap.size w w' := by
  by_cases hf0 : f < 0
  · have HF := Lib.hid (factOf_neg (fs := fs) (v := v) hf0)
    go_enter Tryz.func7, Tryz.ntmps7
    go_wp2_with fail
    go_ret
    exact ⟨ret_int HF.out.symm, by go_grown⟩
  by_cases hf1 : (fs.length : Int) ≤ f
  · have HF := Lib.hid (factOf_ge (fs := fs) (v := v) hf1)
    go_enter Tryz.func7, Tryz.ntmps7
    go_wp2_with fail
    go_ret
    exact ⟨ret_int HF.out.symm, by go_grown⟩
  obtain ⟨k, rfl⟩ : ∃ k : Nat, f = (k : Int) := ⟨f.toNat, by omega⟩
  have hk : k < fs.length := by omega
  by_cases hv0 : v < 0
  · have HF := Lib.hid (factOf_vneg (fs := fs) (f := (k : Int)) hv0)
    go_enter Tryz.func7, Tryz.ntmps7
    go_wp2_with fail
    go_ret
    exact ⟨ret_int HF.out.symm, by go_grown⟩
  obtain ⟨b, off, rfl, hbs, c0, c1, c2, c3, c4, c5, c6⟩ := hA.get hk
  have hvk := hv fs[k] (List.getElem_mem _)
  by_cases hv1 : (fs[k].vn : Int) + 1 < v
  · have HF := Lib.hid (factOf_vbig hk hv1)
    go_enter Tryz.func7, Tryz.ntmps7
    go_wp2_with fail
    go_ret
    exact ⟨ret_int HF.out.symm, by go_grown⟩
  have HF := Lib.hid (factOf_in hk hv0 hv1)
  have HV := Lib.hid hv
  have HA := Lib.hid hA
  clear hv hA
  have hoff := fun w' hb => offset_any fs ha hn hc (some ⟨b, off, none⟩) cp m k w' hlen hcp hcb HV.out (by omega) (HA.out.below hb)
  have HO := Lib.hid hoff
  clear hoff
  have hpb := pre_bound HV.out hlen (k := k) (by omega)
  go_enter Tryz.func7, Tryz.ntmps7
  go_wp2_with fail
  refine (HO.out _ (by go_grown)).mono ?_
  rintro e w1 ⟨rfl, hb1⟩
  have HB1 := Lib.hid hb1
  have hz1 := hb1.size
  clear hb1
  go_wp2_with fail
  go_ret
  exact ⟨ret_int (by rw [HF.out]; omega), over HB1.out (by go_grown) (by go_size)⟩

theorem factR38_any (fs : List Fn) (ha : Option Addr) (hn hc : Nat) (a : Option Addr) (cp : Nat) (m f v : Int) (w : World) (hlen : fs.length ≤ 60) (hcp : fs.length ≤ cp) (hcb : cp ≤ 140737488355328) (hv : ∀ x ∈ fs, x.vn ≤ 140737488355328) (hA : FnsAt w a fs) :
    Calls Tryz.prog 5 #[.agg #[.slice ha hn hc, .slice a fs.length cp, .int .i64 m], .int .i64 f, .int .i64 v] w fun e w' => e = .returned (.int .i64 (factOf fs f v)) ∧ Below w.heap.size w w' := by
  have HA := Lib.hid hA
  have HV := Lib.hid hv
  have hO := fun w' (hb : Below w.heap.size w w') => factR_any fs ha hn hc a cp m f v w' hlen hcp hcb HV.out (HA.out.below hb)
  have HO := Lib.hid hO
  clear hO hv hA
  go_enter Tryz.func5, Tryz.ntmps5
  go_wp2_with fail
  refine (HO.out _ (by go_grown)).mono ?_
  rintro e w1 ⟨rfl, hb1⟩
  have HB1 := Lib.hid hb1
  have hz1 := hb1.size
  clear hb1
  go_wp2_with fail
  go_ret
  exact ⟨rfl, over HB1.out (by go_grown) (by go_size)⟩
end Go.Proofs.YtndmnbigfpaenaaGreatDoor
