/- Contracts of the reference: calls, fits. -/
import Derived.Test.YtlocnfaeiacphaaGreatDoorSyH
import Derived.KernelRfl
set_option linter.unusedVariables false
set_option linter.unusedSimpArgs false
set_option maxHeartbeats 4000000
namespace Go.Proofs.YtlocnfaeiacphaaGreatDoor.Ev
open Go

variable {c : C} {h : H} {nsv esv : AV} {ns : List Nd} {es : List Ed} {idN idE : Nat} {mn : Int} {K : AV → H → Prop}

theorem calls_ev {call f : Int} (hcx : Cx c h) (hN : Arr h nsv 3 (ns.map Nd.row) idN) (hE : Arr h esv 4 (es.map Ed.row) idE) (hsN : seen c.vis idN = true) (hsE : seen c.vis idE = true) (hl : ns.length ≤ 100) (hle : es.length ≤ 100) (hn : h.n < 9000000) (hK : ∀ h', Grew h h' → h'.n ≤ h.n + 101 → K (.bool (callsR ns es call f)) h') :
    Gv Tryz.prog X0 Mx c 59 [.agg [nsv, esv, .int .i64 mn], .int .i64 call, .int .i64 f] h K := by
  have hnt : (64 : Nat) ≤ 1000000 := by decide
  have hlN : (ns.map Nd.row).length = ns.length := List.length_map ..
  have hlE : (es.map Ed.row).length = es.length := List.length_map ..
  refine gv_fn x_calls (MK_other rfl _ _ _) (by simp) hnt ?_
  unfold s_calls
  refine wc_seq (wc_reg (rg_go hnt rfl rfl (wo_boxA rfl rfl (by omega) fun h1 hn1 hb1 hgr => ?_)))
  have hsb : seen c.vis h.n = true := hcx.new (Nat.le_refl _) (by omega)
  repeat' (first | refine z0 ?_ | refine z1 ?_ | refine z2 ?_ | refine z3 ?_ | refine z6 ?_ | refine z7 ?_ | refine z8 ?_ | refine z9 ?_ | refine za ?_ | refine zc ?_ | refine zd ?_ | refine zh ?_ | refine zi ?_ | refine zj ?_ | refine zl ?_ | (refine zm ?_ ?_ <;> intro hc <;> try (exfalso; omega)) | (refine zp ?_ ?_ <;> intro hc <;> try (exfalso; omega)) | (refine zq ?_ ?_ <;> intro hc <;> try (exfalso; omega)) | refine wg_nil ?_ | refine then_go ?_ | refine wc_seq ?_ | refine wc_reg ?_ | refine wc_block ?_ | refine zu ?_ | refine zv ?_ | refine wc_skip ?_ | refine wc_exit ?_ | refine wc_ret ?_ | refine then_ret ?_ | refine then_exit ?_ | refine out_go ?_ | refine out_ret ?_ | refine zA ?_ | refine zB ?_)
  refine wc_loopE (ι := Nat) (fun j => [(1, .int .i64 call), (2, .int .i64 f), (3, .ptr h.n 0), (7, .int .i64 (j : Int))]) (fun j h' => Grew h1 h' ∧ h'.n ≤ h1.n + j ∧ j ≤ es.length ∧ callsR ns es call f = (es.drop j).any (hitR ns call f)) (fun j => es.length - j) ?_ 0 ⟨Grew.refl _, by omega, Nat.zero_le _, by simp [callsR]⟩ (Sub'.cons rfl (Sub'.cons rfl (Sub'.cons rfl (Sub'.cons rfl (Sub'.nil _)))))
  rintro j h' ⟨hg', hle', hj, hz⟩
  try simp only at hj hz ⊢
  have hg'l := hg'.le
  have hb' := (hg'.get h.n (by omega)).trans hb1
  have hgA := hgr.trans hg'
  have hN' := hN.grew hgA
  have hE' := hE.grew hgA
  by_cases hlt : j < es.length
  · rw [any_drop hlt, ← ed_nat hlt] at hz
    repeat' (first | refine z0 ?_ | refine z1 ?_ | refine z2 ?_ | refine z3 ?_ | refine z6 ?_ | refine z7 ?_ | refine z8 ?_ | refine z9 ?_ | refine za ?_ | refine zc ?_ | refine zd ?_ | refine zh ?_ | refine zi ?_ | refine zj ?_ | refine zl ?_ | (refine zm ?_ ?_ <;> intro hc <;> try (exfalso; omega)) | (refine zp ?_ ?_ <;> intro hc <;> try (exfalso; omega)) | (refine zq ?_ ?_ <;> intro hc <;> try (exfalso; omega)) | refine wg_nil ?_ | refine then_go ?_ | refine wc_seq ?_ | refine wc_reg ?_ | refine wc_block ?_ | refine zu ?_ | refine zv ?_ | refine wc_skip ?_ | refine wc_exit ?_ | refine wc_ret ?_ | refine then_ret ?_ | refine then_exit ?_ | refine out_go ?_ | refine out_ret ?_ | refine zA ?_ | refine zB ?_)
    refine rg_bs hnt (hcx.mono hgA.le) (by omega) rfl rfl (by rfl) (by rfl) (by rfl) (by rfl) fun h2 hn2 hb2 hg2 => ?_
    have hb'' := (hg2.get h.n (by omega)).trans hb'
    have hgB := hgA.trans hg2
    have hg'2 := hg'.trans hg2
    have hN2 := hN.grew hgB
    have hE2 := hE.grew hgB
    have hsb2 : seen c.vis h'.n = true := hcx.new (by omega) (by omega)
    repeat' (first | refine z0 ?_ | refine z1 ?_ | refine z2 ?_ | refine z3 ?_ | refine z6 ?_ | refine z7 ?_ | refine z8 ?_ | refine z9 ?_ | refine za ?_ | refine zc ?_ | refine zd ?_ | refine zh ?_ | refine zi ?_ | refine zj ?_ | refine zl ?_ | (refine zm ?_ ?_ <;> intro hc <;> try (exfalso; omega)) | (refine zp ?_ ?_ <;> intro hc <;> try (exfalso; omega)) | (refine zq ?_ ?_ <;> intro hc <;> try (exfalso; omega)) | refine wg_nil ?_ | refine then_go ?_ | refine wc_seq ?_ | refine wc_reg ?_ | refine wc_block ?_ | refine zu ?_ | refine zv ?_ | refine wc_skip ?_ | refine wc_exit ?_ | refine wc_ret ?_ | refine then_ret ?_ | refine then_exit ?_ | refine out_go ?_ | refine out_ret ?_ | refine zA ?_ | refine zB ?_)
    all_goals first
      | (have hh : hitR ns call f (ed es (j : Int)) = true := by (simp only [hitR, decide_eq_true_eq]; omega)
         rw [hh, Bool.true_or] at hz
         exact ⟨Or.inr rfl, _, rfl, by rw [hz] at hK; exact hK _ hgB (by omega)⟩)
      | (have hh : hitR ns call f (ed es (j : Int)) = false := by (simp only [hitR, decide_eq_false_iff_not]; omega)
         rw [hh, Bool.false_or] at hz
         exact ⟨j + 1, by simp; omega, Sub'.cons rfl (Sub'.cons rfl (Sub'.cons rfl (Sub'.cons rfl (Sub'.nil _)))), hg'2, by omega, hlt, hz⟩)
  · rw [List.drop_eq_nil_of_le (by omega), List.any_nil] at hz
    repeat' (first | refine z0 ?_ | refine z1 ?_ | refine z2 ?_ | refine z3 ?_ | refine z6 ?_ | refine z7 ?_ | refine z8 ?_ | refine z9 ?_ | refine za ?_ | refine zc ?_ | refine zd ?_ | refine zh ?_ | refine zi ?_ | refine zj ?_ | refine zl ?_ | (refine zm ?_ ?_ <;> intro hc <;> try (exfalso; omega)) | (refine zp ?_ ?_ <;> intro hc <;> try (exfalso; omega)) | (refine zq ?_ ?_ <;> intro hc <;> try (exfalso; omega)) | refine wg_nil ?_ | refine then_go ?_ | refine wc_seq ?_ | refine wc_reg ?_ | refine wc_block ?_ | refine zu ?_ | refine zv ?_ | refine wc_skip ?_ | refine wc_exit ?_ | refine wc_ret ?_ | refine then_ret ?_ | refine then_exit ?_ | refine out_go ?_ | refine out_ret ?_ | refine zA ?_ | refine zB ?_)
    exact ⟨Or.inr rfl, _, rfl, by rw [hz] at hK; exact hK _ hgA (by omega)⟩
end Go.Proofs.YtlocnfaeiacphaaGreatDoor.Ev
