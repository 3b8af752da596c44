/- Contracts of the reference: Equal. -/
import Derived.Test.YtlocnfaeiacphaaGreatDoorSyH
import Derived.KernelRfl
set_option linter.unusedVariables false
set_option linter.unusedSimpArgs false
set_option maxHeartbeats 4000000
namespace Go.Proofs.YtlocnfaeiacphaaGreatDoor.Ev
open Go

variable {c : C} {h : H} {nsv esv : AV} {ns : List Nd} {es : List Ed} {idN idE : Nat} {mn : Int} {K : AV → H → Prop}

theorem Equal_ev {a b : List Int} {av bv : AV} {ida idb : Nat} (hA : Arr h av 1 (a.map rI) ida) (hB : Arr h bv 1 (b.map rI) idb) (hida : a ≠ [] → ida < h.n) (hidb : b ≠ [] → idb < h.n) (hsa : a ≠ [] → seen c.vis ida = true) (hsb : b ≠ [] → seen c.vis idb = true) (hla : a.length ≤ 1000000) (hlb : b.length ≤ 1000000) (hn : h.n < 9000000) (hK : K (.bool (decide (a = b))) h) :
    Gv Tryz.prog X0 Mx c 7 [av, bv] h K := by
  have hnt : (26 : Nat) ≤ 1000000 := by decide
  have hlA : (a.map rI).length = a.length := List.length_map ..
  have hlB : (b.map rI).length = b.length := List.length_map ..
  have kt : a = b → K (.bool true) h := fun q => by rwa [decide_eq_true q] at hK
  have kf : ¬ a = b → K (.bool false) h := fun q => by rwa [decide_eq_false q] at hK
  refine gv_fn x_Equal (MK_other rfl _ _ _) (by simp) hnt ?_
  unfold s_Equal
  by_cases hlen : a.length = b.length
  · repeat' (first | refine z0 ?_ | refine z2 ?_ | refine z6 ?_ | refine z7 ?_ | refine z8 ?_ | refine z9 ?_ | refine za ?_ | refine zh ?_ | refine zj ?_ | refine zk ?_ | (refine zm ?_ ?_ <;> intro hc <;> try (exfalso; omega)) | (refine zq ?_ ?_ <;> intro hc <;> try (exfalso; omega)) | refine wg_nil ?_ | refine then_go ?_ | refine wc_seq ?_ | refine wc_reg ?_ | refine wc_dreg ?_ | refine wc_block ?_ | refine zu ?_ | refine zv ?_ | refine wc_skip ?_ | refine wc_exit ?_ | refine wc_ret ?_ | refine then_ret ?_ | refine then_exit ?_ | refine out_go ?_ | refine out_ret ?_ | refine zA ?_ | refine zB ?_ | refine zw ?_ | refine zx ?_ | refine zy ?_ | refine wd_nil ?_)
    refine wc_loopE (ι := Nat) (fun j => [(0, av), (1, bv), (5, .int .i64 (j : Int))]) (fun j h' => h' = h ∧ j ≤ a.length ∧ (a = b ↔ a.drop j = b.drop j)) (fun j => a.length - j) ?_ 0 ⟨rfl, Nat.zero_le _, by simp⟩ (Sub'.cons rfl (Sub'.cons rfl (Sub'.cons rfl (Sub'.nil _))))
    rintro j h' ⟨rfl, hj, hz⟩
    try simp only at hj hz ⊢
    by_cases hlt : j < a.length
    · rw [iv_drop hlt hlen] at hz
      have hna : a ≠ [] := fun q => by rw [q] at hlt; simp at hlt
      have hnb : b ≠ [] := fun q => by rw [q] at hlen; rw [hlen] at hlt; simp at hlt
      have hida := hida hna
      have hidb := hidb hnb
      have hsa := hsa hna
      have hsb := hsb hnb
      repeat' (first | refine z0 ?_ | refine z2 ?_ | refine z6 ?_ | refine z7 ?_ | refine z8 ?_ | refine z9 ?_ | refine za ?_ | refine zh ?_ | refine zj ?_ | refine zk ?_ | (refine zm ?_ ?_ <;> intro hc <;> try (exfalso; omega)) | (refine zq ?_ ?_ <;> intro hc <;> try (exfalso; omega)) | refine wg_nil ?_ | refine then_go ?_ | refine wc_seq ?_ | refine wc_reg ?_ | refine wc_dreg ?_ | refine wc_block ?_ | refine zu ?_ | refine zv ?_ | refine wc_skip ?_ | refine wc_exit ?_ | refine wc_ret ?_ | refine then_ret ?_ | refine then_exit ?_ | refine out_go ?_ | refine out_ret ?_ | refine zA ?_ | refine zB ?_ | refine zw ?_ | refine zx ?_ | refine zy ?_ | refine wd_nil ?_)
      all_goals first
        | exact ⟨Or.inr rfl, _, rfl, kf (fun q => hc (hz.1 q).1)⟩
        | exact ⟨j + 1, by simp; omega, (Sub'.cons rfl (Sub'.cons rfl (Sub'.cons rfl (Sub'.nil _)))), rfl, hlt, ⟨fun q => (hz.1 q).2, fun q => hz.2 ⟨hc, q⟩⟩⟩
    · rw [List.drop_eq_nil_of_le (by omega), List.drop_eq_nil_of_le (by omega)] at hz
      repeat' (first | refine z0 ?_ | refine z2 ?_ | refine z6 ?_ | refine z7 ?_ | refine z8 ?_ | refine z9 ?_ | refine za ?_ | refine zh ?_ | refine zj ?_ | refine zk ?_ | (refine zm ?_ ?_ <;> intro hc <;> try (exfalso; omega)) | (refine zq ?_ ?_ <;> intro hc <;> try (exfalso; omega)) | refine wg_nil ?_ | refine then_go ?_ | refine wc_seq ?_ | refine wc_reg ?_ | refine wc_dreg ?_ | refine wc_block ?_ | refine zu ?_ | refine zv ?_ | refine wc_skip ?_ | refine wc_exit ?_ | refine wc_ret ?_ | refine then_ret ?_ | refine then_exit ?_ | refine out_go ?_ | refine out_ret ?_ | refine zA ?_ | refine zB ?_ | refine zw ?_ | refine zx ?_ | refine zy ?_ | refine wd_nil ?_)
      exact ⟨Or.inr rfl, _, rfl, kt (hz.2 rfl)⟩
  · repeat' (first | refine z0 ?_ | refine z2 ?_ | refine z6 ?_ | refine z7 ?_ | refine z8 ?_ | refine z9 ?_ | refine za ?_ | refine zh ?_ | refine zj ?_ | refine zk ?_ | (refine zm ?_ ?_ <;> intro hc <;> try (exfalso; omega)) | (refine zq ?_ ?_ <;> intro hc <;> try (exfalso; omega)) | refine wg_nil ?_ | refine then_go ?_ | refine wc_seq ?_ | refine wc_reg ?_ | refine wc_dreg ?_ | refine wc_block ?_ | refine zu ?_ | refine zv ?_ | refine wc_skip ?_ | refine wc_exit ?_ | refine wc_ret ?_ | refine then_ret ?_ | refine then_exit ?_ | refine out_go ?_ | refine out_ret ?_ | refine zA ?_ | refine zB ?_ | refine zw ?_ | refine zx ?_ | refine zy ?_ | refine wd_nil ?_)
    all_goals first
      | exact ⟨Or.inr rfl, _, rfl, kf (fun q => hlen (by rw [q]))⟩
      | (exfalso; omega)
end Go.Proofs.YtlocnfaeiacphaaGreatDoor.Ev
