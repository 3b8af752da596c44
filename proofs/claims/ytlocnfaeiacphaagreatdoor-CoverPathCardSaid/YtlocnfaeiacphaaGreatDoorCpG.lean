/- Contracts of the reference: Check. -/
import Derived.Test.YtlocnfaeiacphaaGreatDoorSyH
import Derived.Test.YtlocnfaeiacphaaGreatDoorCpE
import Derived.Test.YtlocnfaeiacphaaGreatDoorCpF
import Derived.KernelRfl
set_option linter.unusedVariables false
set_option linter.unusedSimpArgs false
set_option maxHeartbeats 4000000
namespace Go.Proofs.YtlocnfaeiacphaaGreatDoor.Ev
open Go

variable {c : C} {h : H} {nsv esv : AV} {ns : List Nd} {es : List Ed} {idN idE : Nat} {mn : Int} {K : AV → H → Prop}

theorem RCheck_ev (hcx : Cx c h) (hN : Arr h nsv 3 (ns.map Nd.row) idN) (hE : Arr h esv 4 (es.map Ed.row) idE) (hidN : idN < h.n) (hidE : idE < h.n) (hsN : seen c.vis idN = true) (hsE : seen c.vis idE = true) (hl : ns.length ≤ 100) (hle : es.length ≤ 100) (hn : h.n < 6000000) (hK : ∀ h', Grew h h' → h'.n ≤ h.n + 13000 → K (.int .i64 (errR ns es mn)) h') :
    Gv Tryz.prog X0 Mx c 13 [.agg [nsv, esv, .int .i64 mn]] h K := by
  have hnt : (119 : Nat) ≤ 1000000 := by decide
  have hlN : (ns.map Nd.row).length = ns.length := List.length_map ..
  have hlE : (es.map Ed.row).length = es.length := List.length_map ..
  have hKv : ∀ {v : Int}, errR ns es mn = v → ∀ h', Grew h h' → h'.n ≤ h.n + 13000 → K (.int .i64 v) h' := fun q h' g l => by have := hK h' g l; rwa [q] at this
  refine gv_fn x_RCheck (MK_other rfl _ _ _) (by simp) hnt ?_
  unfold s_RCheck
  refine wc_seq (wc_reg (rg_go hnt rfl rfl (wo_boxA rfl rfl (by omega) fun h1 hn1 hb1 hgr => ?_)))
  have hsb : seen c.vis h.n = true := hcx.new (Nat.le_refl _) (by omega)
  have hlow := hcx.low
  have hN1 := hN.grew hgr
  repeat' (first | refine z0 ?_ | refine z1 ?_ | refine z2 ?_ | refine z3 ?_ | refine z6 ?_ | refine z7 ?_ | refine z8 ?_ | refine z9 ?_ | refine za ?_ | refine zb ?_ | refine zc ?_ | refine zd ?_ | refine ze ?_ | refine zh ?_ | refine zi ?_ | refine zj ?_ | refine zl ?_ | (refine zm ?_ ?_ <;> intro hc <;> try (exfalso; omega)) | (refine zo ?_ ?_ <;> intro hc <;> try (exfalso; omega)) | (refine zp ?_ ?_ <;> intro hc <;> try (exfalso; omega)) | (refine zq ?_ ?_ <;> intro hc <;> try (exfalso; omega)) | refine wg_nil ?_ | refine then_go ?_ | refine wc_seq ?_ | refine wc_reg ?_ | refine wc_dreg ?_ | refine wc_block ?_ | refine zu ?_ | refine zv ?_ | refine wc_skip ?_ | refine wc_exit ?_ | refine wc_ret ?_ | refine then_ret ?_ | refine then_exit ?_ | refine out_go ?_ | refine out_ret ?_ | refine zA ?_ | refine zB ?_ | refine zw ?_ | refine zx ?_ | refine zy ?_ | refine wd_nil ?_)
  refine wo_call rfl rfl (nodes_ev (hcx.mono hgr.le) hN1 (by omega) hsN hl (by omega) fun h2 hg2 hn2 => ?_)
  have hg2l := hg2.le
  have hb2 := (hg2.get h.n (by omega)).trans hb1
  have hgB := hgr.trans hg2
  repeat' (first | refine z0 ?_ | refine z1 ?_ | refine z2 ?_ | refine z3 ?_ | refine z6 ?_ | refine z7 ?_ | refine z8 ?_ | refine z9 ?_ | refine za ?_ | refine zb ?_ | refine zc ?_ | refine zd ?_ | refine ze ?_ | refine zh ?_ | refine zi ?_ | refine zj ?_ | refine zl ?_ | (refine zm ?_ ?_ <;> intro hc <;> try (exfalso; omega)) | (refine zo ?_ ?_ <;> intro hc <;> try (exfalso; omega)) | (refine zp ?_ ?_ <;> intro hc <;> try (exfalso; omega)) | (refine zq ?_ ?_ <;> intro hc <;> try (exfalso; omega)) | refine wg_nil ?_ | refine then_go ?_ | refine wc_seq ?_ | refine wc_reg ?_ | refine wc_dreg ?_ | refine wc_block ?_ | refine zu ?_ | refine zv ?_ | refine wc_skip ?_ | refine wc_exit ?_ | refine wc_ret ?_ | refine then_ret ?_ | refine then_exit ?_ | refine out_go ?_ | refine out_ret ?_ | refine zA ?_ | refine zB ?_ | refine zw ?_ | refine zx ?_ | refine zy ?_ | refine wd_nil ?_)
  all_goals first
    | exact ⟨Or.inr rfl, _, rfl, hKv (errR_bad rfl (by assumption)) _ hgB (by omega)⟩
    | skip
  have hz0 : errR ns es mn = errE ns.length (fun e => fitsR ns (callsR ns es e.c (nd ns e.a).f) e) es 0 := errR_go (by omega)
  refine wc_loopE (ι := Nat) (fun j => [(1, .ptr h.n 0), (4, .int .i64 (j : Int))]) (fun j h' => Grew h2 h' ∧ h'.n ≤ h2.n + 120 * j ∧ j ≤ es.length ∧ errR ns es mn = errE ns.length (fun e => fitsR ns (callsR ns es e.c (nd ns e.a).f) e) es j) (fun j => es.length - j) ?_ 0 ⟨Grew.refl _, by omega, Nat.zero_le _, hz0⟩ (Sub'.cons rfl (Sub'.cons rfl (Sub'.nil _)))
  rintro j h' ⟨hg', hle', hj, hz⟩
  try simp only at hj hz ⊢
  have hg'l := hg'.le
  have hb' := (hg'.get h.n (by omega)).trans hb2
  have hgA := hgB.trans hg'
  have hE' := hE.grew hgA
  have hN' := hN.grew hgA
  by_cases hlt : j < es.length
  · repeat' (first | refine z0 ?_ | refine z1 ?_ | refine z2 ?_ | refine z3 ?_ | refine z6 ?_ | refine z7 ?_ | refine z8 ?_ | refine z9 ?_ | refine za ?_ | refine zb ?_ | refine zc ?_ | refine zd ?_ | refine ze ?_ | refine zh ?_ | refine zi ?_ | refine zj ?_ | refine zl ?_ | (refine zm ?_ ?_ <;> intro hc <;> try (exfalso; omega)) | (refine zo ?_ ?_ <;> intro hc <;> try (exfalso; omega)) | (refine zp ?_ ?_ <;> intro hc <;> try (exfalso; omega)) | (refine zq ?_ ?_ <;> intro hc <;> try (exfalso; omega)) | refine wg_nil ?_ | refine then_go ?_ | refine wc_seq ?_ | refine wc_reg ?_ | refine wc_dreg ?_ | refine wc_block ?_ | refine zu ?_ | refine zv ?_ | refine wc_skip ?_ | refine wc_exit ?_ | refine wc_ret ?_ | refine then_ret ?_ | refine then_exit ?_ | refine out_go ?_ | refine out_ret ?_ | refine zA ?_ | refine zB ?_ | refine zw ?_ | refine zx ?_ | refine zy ?_ | refine wd_nil ?_)
    refine rg_bs hnt (hcx.mono hgA.le) (by omega) rfl rfl (by rfl) (by rfl) (by rfl) (by rfl) fun h3 hn3 hb3 hg3 => ?_
    have hb'' := (hg3.get h.n (by omega)).trans hb'
    have hgC := hgA.trans hg3
    have hg'3 := hg'.trans hg3
    have hN3 := hN.grew hgC
    have hE3 := hE.grew hgC
    have hsb3 : seen c.vis h'.n = true := hcx.new (by omega) (by omega)
    refine wg_nil (then_go ?_)
    refine wc_seqM (ι := Bool) (fun t => [(1, .ptr h.n 0), (4, .int .i64 (j : Int)), (5, .ptr h'.n 0), (6, .bool t)]) (fun t g => h3 = g ∧ (t = true ↔ ((ed es (j : Int)).k = 1 ∨ (ed es (j : Int)).k = 5))) ?_ ?_
    · repeat' (first | refine z0 ?_ | refine z1 ?_ | refine z2 ?_ | refine z3 ?_ | refine z6 ?_ | refine z7 ?_ | refine z8 ?_ | refine z9 ?_ | refine za ?_ | refine zb ?_ | refine zc ?_ | refine zd ?_ | refine ze ?_ | refine zh ?_ | refine zi ?_ | refine zj ?_ | refine zl ?_ | (refine zm ?_ ?_ <;> intro hc <;> try (exfalso; omega)) | (refine zo ?_ ?_ <;> intro hc <;> try (exfalso; omega)) | (refine zp ?_ ?_ <;> intro hc <;> try (exfalso; omega)) | (refine zq ?_ ?_ <;> intro hc <;> try (exfalso; omega)) | refine wg_nil ?_ | refine then_go ?_ | refine wc_seq ?_ | refine wc_reg ?_ | refine wc_dreg ?_ | refine wc_block ?_ | refine zu ?_ | refine zv ?_ | refine wc_skip ?_ | refine wc_exit ?_ | refine wc_ret ?_ | refine then_ret ?_ | refine then_exit ?_ | refine out_go ?_ | refine out_ret ?_ | refine zA ?_ | refine zB ?_ | refine zw ?_ | refine zx ?_ | refine zy ?_ | refine wd_nil ?_)
      all_goals first
        | exact ⟨true, (Sub'.cons rfl (Sub'.cons rfl (Sub'.cons rfl (Sub'.cons rfl (Sub'.nil _))))), rfl, iff_of_true rfl (by omega)⟩
        | exact ⟨false, (Sub'.cons rfl (Sub'.cons rfl (Sub'.cons rfl (Sub'.cons rfl (Sub'.nil _))))), rfl, iff_of_false (by decide) (by omega)⟩
    rintro b _ ⟨rfl, hloc⟩
    refine wc_block ?_
    refine wc_seqM (ι := Bool) (fun t => [(1, .ptr h.n 0), (4, .int .i64 (j : Int)), (5, .ptr h'.n 0), (6, .bool b), (42, .bool t)]) (fun t g => h3 = g ∧ (t = true ↔ ((ed es (j : Int)).a < 0 ∨ (ns.length : Int) ≤ (ed es (j : Int)).a ∨ (ed es (j : Int)).b < 0 ∨ (ns.length : Int) ≤ (ed es (j : Int)).b))) ?_ ?_
    · repeat' (first | refine z0 ?_ | refine z1 ?_ | refine z2 ?_ | refine z3 ?_ | refine z6 ?_ | refine z7 ?_ | refine z8 ?_ | refine z9 ?_ | refine za ?_ | refine zb ?_ | refine zc ?_ | refine zd ?_ | refine ze ?_ | refine zh ?_ | refine zi ?_ | refine zj ?_ | refine zl ?_ | (refine zm ?_ ?_ <;> intro hc <;> try (exfalso; omega)) | (refine zo ?_ ?_ <;> intro hc <;> try (exfalso; omega)) | (refine zp ?_ ?_ <;> intro hc <;> try (exfalso; omega)) | (refine zq ?_ ?_ <;> intro hc <;> try (exfalso; omega)) | refine wg_nil ?_ | refine then_go ?_ | refine wc_seq ?_ | refine wc_reg ?_ | refine wc_dreg ?_ | refine wc_block ?_ | refine zu ?_ | refine zv ?_ | refine wc_skip ?_ | refine wc_exit ?_ | refine wc_ret ?_ | refine then_ret ?_ | refine then_exit ?_ | refine out_go ?_ | refine out_ret ?_ | refine zA ?_ | refine zB ?_ | refine zw ?_ | refine zx ?_ | refine zy ?_ | refine wd_nil ?_)
      all_goals first
        | exact ⟨true, (Sub'.cons rfl (Sub'.cons rfl (Sub'.cons rfl (Sub'.cons rfl (Sub'.cons rfl (Sub'.nil _)))))), rfl, iff_of_true rfl (by omega)⟩
        | exact ⟨false, (Sub'.cons rfl (Sub'.cons rfl (Sub'.cons rfl (Sub'.cons rfl (Sub'.cons rfl (Sub'.nil _)))))), rfl, iff_of_false (by decide) (by omega)⟩
    rintro t _ ⟨rfl, ht⟩
    cases t with
    | true =>
      have ht := ht.1 rfl
      repeat' (first | refine z0 ?_ | refine z1 ?_ | refine z2 ?_ | refine z3 ?_ | refine z6 ?_ | refine z7 ?_ | refine z8 ?_ | refine z9 ?_ | refine za ?_ | refine zb ?_ | refine zc ?_ | refine zd ?_ | refine ze ?_ | refine zh ?_ | refine zi ?_ | refine zj ?_ | refine zl ?_ | (refine zm ?_ ?_ <;> intro hc <;> try (exfalso; omega)) | (refine zo ?_ ?_ <;> intro hc <;> try (exfalso; omega)) | (refine zp ?_ ?_ <;> intro hc <;> try (exfalso; omega)) | (refine zq ?_ ?_ <;> intro hc <;> try (exfalso; omega)) | refine wg_nil ?_ | refine then_go ?_ | refine wc_seq ?_ | refine wc_reg ?_ | refine wc_dreg ?_ | refine wc_block ?_ | refine zu ?_ | refine zv ?_ | refine wc_skip ?_ | refine wc_exit ?_ | refine wc_ret ?_ | refine then_ret ?_ | refine then_exit ?_ | refine out_go ?_ | refine out_ret ?_ | refine zA ?_ | refine zB ?_ | refine zw ?_ | refine zx ?_ | refine zy ?_ | refine wd_nil ?_)
      exact ⟨Or.inr rfl, _, rfl, hKv (hz.trans (errE_bad hlt (by omega) (badE_of (by omega)))) _ hgC (by omega)⟩
    | false =>
    have ht := mt ht.2 Bool.false_ne_true
    refine wc_f rfl ?_
    refine wc_seqM (ι := Bool) (fun t => [(1, .ptr h.n 0), (4, .int .i64 (j : Int)), (5, .ptr h'.n 0), (6, .bool b), (67, .bool t)]) (fun t g => h3 = g ∧ (t = true ↔ ((ed es (j : Int)).k < 1 ∨ 5 < (ed es (j : Int)).k))) ?_ ?_
    · repeat' (first | refine z0 ?_ | refine z1 ?_ | refine z2 ?_ | refine z3 ?_ | refine z6 ?_ | refine z7 ?_ | refine z8 ?_ | refine z9 ?_ | refine za ?_ | refine zb ?_ | refine zc ?_ | refine zd ?_ | refine ze ?_ | refine zh ?_ | refine zi ?_ | refine zj ?_ | refine zl ?_ | (refine zm ?_ ?_ <;> intro hc <;> try (exfalso; omega)) | (refine zo ?_ ?_ <;> intro hc <;> try (exfalso; omega)) | (refine zp ?_ ?_ <;> intro hc <;> try (exfalso; omega)) | (refine zq ?_ ?_ <;> intro hc <;> try (exfalso; omega)) | refine wg_nil ?_ | refine then_go ?_ | refine wc_seq ?_ | refine wc_reg ?_ | refine wc_dreg ?_ | refine wc_block ?_ | refine zu ?_ | refine zv ?_ | refine wc_skip ?_ | refine wc_exit ?_ | refine wc_ret ?_ | refine then_ret ?_ | refine then_exit ?_ | refine out_go ?_ | refine out_ret ?_ | refine zA ?_ | refine zB ?_ | refine zw ?_ | refine zx ?_ | refine zy ?_ | refine wd_nil ?_)
      all_goals first
        | exact ⟨true, (Sub'.cons rfl (Sub'.cons rfl (Sub'.cons rfl (Sub'.cons rfl (Sub'.cons rfl (Sub'.nil _)))))), rfl, iff_of_true rfl (by omega)⟩
        | exact ⟨false, (Sub'.cons rfl (Sub'.cons rfl (Sub'.cons rfl (Sub'.cons rfl (Sub'.cons rfl (Sub'.nil _)))))), rfl, iff_of_false (by decide) (by omega)⟩
    rintro t _ ⟨rfl, ht2⟩
    cases t with
    | true =>
      have ht2 := ht2.1 rfl
      repeat' (first | refine z0 ?_ | refine z1 ?_ | refine z2 ?_ | refine z3 ?_ | refine z6 ?_ | refine z7 ?_ | refine z8 ?_ | refine z9 ?_ | refine za ?_ | refine zb ?_ | refine zc ?_ | refine zd ?_ | refine ze ?_ | refine zh ?_ | refine zi ?_ | refine zj ?_ | refine zl ?_ | (refine zm ?_ ?_ <;> intro hc <;> try (exfalso; omega)) | (refine zo ?_ ?_ <;> intro hc <;> try (exfalso; omega)) | (refine zp ?_ ?_ <;> intro hc <;> try (exfalso; omega)) | (refine zq ?_ ?_ <;> intro hc <;> try (exfalso; omega)) | refine wg_nil ?_ | refine then_go ?_ | refine wc_seq ?_ | refine wc_reg ?_ | refine wc_dreg ?_ | refine wc_block ?_ | refine zu ?_ | refine zv ?_ | refine wc_skip ?_ | refine wc_exit ?_ | refine wc_ret ?_ | refine then_ret ?_ | refine then_exit ?_ | refine out_go ?_ | refine out_ret ?_ | refine zA ?_ | refine zB ?_ | refine zw ?_ | refine zx ?_ | refine zy ?_ | refine wd_nil ?_)
      exact ⟨Or.inr rfl, _, rfl, hKv (hz.trans (errE_bad hlt (by omega) (badE_of (by omega)))) _ hgC (by omega)⟩
    | false =>
    have ht2 := mt ht2.2 Bool.false_ne_true
    refine wc_f rfl ?_
    refine wc_seqM (ι := Bool) (fun t => [(1, .ptr h.n 0), (4, .int .i64 (j : Int)), (5, .ptr h'.n 0), (76, .bool t)]) (fun t g => h3 = g ∧ (t = true ↔ (((ed es (j : Int)).k = 1 ∨ (ed es (j : Int)).k = 5) ∧ (ed es (j : Int)).c ≠ -1) ∨ (¬ ((ed es (j : Int)).k = 1 ∨ (ed es (j : Int)).k = 5) ∧ ((ed es (j : Int)).c < 0 ∨ (ns.length : Int) ≤ (ed es (j : Int)).c)))) ?_ ?_
    · cases b with
      | true =>
        have hloc := hloc.1 rfl
        repeat' (first | refine z0 ?_ | refine z1 ?_ | refine z2 ?_ | refine z3 ?_ | refine z6 ?_ | refine z7 ?_ | refine z8 ?_ | refine z9 ?_ | refine za ?_ | refine zb ?_ | refine zc ?_ | refine zd ?_ | refine ze ?_ | refine zh ?_ | refine zi ?_ | refine zj ?_ | refine zl ?_ | (refine zm ?_ ?_ <;> intro hc <;> try (exfalso; omega)) | (refine zo ?_ ?_ <;> intro hc <;> try (exfalso; omega)) | (refine zp ?_ ?_ <;> intro hc <;> try (exfalso; omega)) | (refine zq ?_ ?_ <;> intro hc <;> try (exfalso; omega)) | refine wg_nil ?_ | refine then_go ?_ | refine wc_seq ?_ | refine wc_reg ?_ | refine wc_dreg ?_ | refine wc_block ?_ | refine zu ?_ | refine zv ?_ | refine wc_skip ?_ | refine wc_exit ?_ | refine wc_ret ?_ | refine then_ret ?_ | refine then_exit ?_ | refine out_go ?_ | refine out_ret ?_ | refine zA ?_ | refine zB ?_ | refine zw ?_ | refine zx ?_ | refine zy ?_ | refine wd_nil ?_)
        all_goals first
          | exact ⟨true, (Sub'.cons rfl (Sub'.cons rfl (Sub'.cons rfl (Sub'.cons rfl (Sub'.nil _))))), rfl, iff_of_true rfl (by omega)⟩
          | exact ⟨false, (Sub'.cons rfl (Sub'.cons rfl (Sub'.cons rfl (Sub'.cons rfl (Sub'.nil _))))), rfl, iff_of_false (by decide) (by omega)⟩
      | false =>
        have hloc := mt hloc.2 Bool.false_ne_true
        repeat' (first | refine z0 ?_ | refine z1 ?_ | refine z2 ?_ | refine z3 ?_ | refine z6 ?_ | refine z7 ?_ | refine z8 ?_ | refine z9 ?_ | refine za ?_ | refine zb ?_ | refine zc ?_ | refine zd ?_ | refine ze ?_ | refine zh ?_ | refine zi ?_ | refine zj ?_ | refine zl ?_ | (refine zm ?_ ?_ <;> intro hc <;> try (exfalso; omega)) | (refine zo ?_ ?_ <;> intro hc <;> try (exfalso; omega)) | (refine zp ?_ ?_ <;> intro hc <;> try (exfalso; omega)) | (refine zq ?_ ?_ <;> intro hc <;> try (exfalso; omega)) | refine wg_nil ?_ | refine then_go ?_ | refine wc_seq ?_ | refine wc_reg ?_ | refine wc_dreg ?_ | refine wc_block ?_ | refine zu ?_ | refine zv ?_ | refine wc_skip ?_ | refine wc_exit ?_ | refine wc_ret ?_ | refine then_ret ?_ | refine then_exit ?_ | refine out_go ?_ | refine out_ret ?_ | refine zA ?_ | refine zB ?_ | refine zw ?_ | refine zx ?_ | refine zy ?_ | refine wd_nil ?_)
        all_goals first
          | exact ⟨true, (Sub'.cons rfl (Sub'.cons rfl (Sub'.cons rfl (Sub'.cons rfl (Sub'.nil _))))), rfl, iff_of_true rfl (by omega)⟩
          | exact ⟨false, (Sub'.cons rfl (Sub'.cons rfl (Sub'.cons rfl (Sub'.cons rfl (Sub'.nil _))))), rfl, iff_of_false (by decide) (by omega)⟩
    rintro t _ ⟨rfl, ht3⟩
    cases t with
    | true =>
      have ht3 := ht3.1 rfl
      repeat' (first | refine z0 ?_ | refine z1 ?_ | refine z2 ?_ | refine z3 ?_ | refine z6 ?_ | refine z7 ?_ | refine z8 ?_ | refine z9 ?_ | refine za ?_ | refine zb ?_ | refine zc ?_ | refine zd ?_ | refine ze ?_ | refine zh ?_ | refine zi ?_ | refine zj ?_ | refine zl ?_ | (refine zm ?_ ?_ <;> intro hc <;> try (exfalso; omega)) | (refine zo ?_ ?_ <;> intro hc <;> try (exfalso; omega)) | (refine zp ?_ ?_ <;> intro hc <;> try (exfalso; omega)) | (refine zq ?_ ?_ <;> intro hc <;> try (exfalso; omega)) | refine wg_nil ?_ | refine then_go ?_ | refine wc_seq ?_ | refine wc_reg ?_ | refine wc_dreg ?_ | refine wc_block ?_ | refine zu ?_ | refine zv ?_ | refine wc_skip ?_ | refine wc_exit ?_ | refine wc_ret ?_ | refine then_ret ?_ | refine then_exit ?_ | refine out_go ?_ | refine out_ret ?_ | refine zA ?_ | refine zB ?_ | refine zw ?_ | refine zx ?_ | refine zy ?_ | refine wd_nil ?_)
      exact ⟨Or.inr rfl, _, rfl, hKv (hz.trans (errE_bad hlt (by omega) (badE_of (by omega)))) _ hgC (by omega)⟩
    | false =>
    have ht3 := mt ht3.2 Bool.false_ne_true
    have hbn : badE ns.length (ed es (j : Int)) = 0 := badE_of (by omega)
    clear ht ht2 ht3 hloc
    refine wc_f rfl ?_
    refine wc_seqM (ι := Bool) (fun t => [(1, .ptr h.n 0), (4, .int .i64 (j : Int)), (5, .ptr h'.n 0), (100, .bool t)]) (fun t g => Grew h3 g ∧ g.n ≤ h3.n + 2 ∧ (t = true ↔ (0 < j ∧ lessE (ed es ((j : Int) - 1)) (ed es (j : Int)) = false))) ?_ ?_
    · by_cases h0 : 0 < j
      · repeat' (first | refine z0 ?_ | refine z1 ?_ | refine z2 ?_ | refine z3 ?_ | refine z6 ?_ | refine z7 ?_ | refine z8 ?_ | refine z9 ?_ | refine za ?_ | refine zb ?_ | refine zc ?_ | refine zd ?_ | refine ze ?_ | refine zh ?_ | refine zi ?_ | refine zj ?_ | refine zl ?_ | (refine zm ?_ ?_ <;> intro hc <;> try (exfalso; omega)) | (refine zo ?_ ?_ <;> intro hc <;> try (exfalso; omega)) | (refine zp ?_ ?_ <;> intro hc <;> try (exfalso; omega)) | (refine zq ?_ ?_ <;> intro hc <;> try (exfalso; omega)) | refine wg_nil ?_ | refine then_go ?_ | refine wc_seq ?_ | refine wc_reg ?_ | refine wc_dreg ?_ | refine wc_block ?_ | refine zu ?_ | refine zv ?_ | refine wc_skip ?_ | refine wc_exit ?_ | refine wc_ret ?_ | refine then_ret ?_ | refine then_exit ?_ | refine out_go ?_ | refine out_ret ?_ | refine zA ?_ | refine zB ?_ | refine zw ?_ | refine zx ?_ | refine zy ?_ | refine wd_nil ?_)
        refine rd_bar hnt rfl rfl (wo_call rfl rfl (lessEdge_ev (Cx.mem (by omega)) (by omega) fun h4 hg4 hn4 => ⟨(by repeat (first | exact unchF_nil | refine unchF_cons (by decide) ?_)), ?_⟩))
        cases hle' : lessE (ed es ((j : Int) - 1)) (ed es (j : Int))
        · repeat' (first | refine z0 ?_ | refine z1 ?_ | refine z2 ?_ | refine z3 ?_ | refine z6 ?_ | refine z7 ?_ | refine z8 ?_ | refine z9 ?_ | refine za ?_ | refine zb ?_ | refine zc ?_ | refine zd ?_ | refine ze ?_ | refine zh ?_ | refine zi ?_ | refine zj ?_ | refine zl ?_ | (refine zm ?_ ?_ <;> intro hc <;> try (exfalso; omega)) | (refine zo ?_ ?_ <;> intro hc <;> try (exfalso; omega)) | (refine zp ?_ ?_ <;> intro hc <;> try (exfalso; omega)) | (refine zq ?_ ?_ <;> intro hc <;> try (exfalso; omega)) | refine wg_nil ?_ | refine then_go ?_ | refine wc_seq ?_ | refine wc_reg ?_ | refine wc_dreg ?_ | refine wc_block ?_ | refine zu ?_ | refine zv ?_ | refine wc_skip ?_ | refine wc_exit ?_ | refine wc_ret ?_ | refine then_ret ?_ | refine then_exit ?_ | refine out_go ?_ | refine out_ret ?_ | refine zA ?_ | refine zB ?_ | refine zw ?_ | refine zx ?_ | refine zy ?_ | refine wd_nil ?_)
          exact ⟨true, (Sub'.cons rfl (Sub'.cons rfl (Sub'.cons rfl (Sub'.cons rfl (Sub'.nil _))))), hg4, by omega, iff_of_true rfl ⟨h0, rfl⟩⟩
        · repeat' (first | refine z0 ?_ | refine z1 ?_ | refine z2 ?_ | refine z3 ?_ | refine z6 ?_ | refine z7 ?_ | refine z8 ?_ | refine z9 ?_ | refine za ?_ | refine zb ?_ | refine zc ?_ | refine zd ?_ | refine ze ?_ | refine zh ?_ | refine zi ?_ | refine zj ?_ | refine zl ?_ | (refine zm ?_ ?_ <;> intro hc <;> try (exfalso; omega)) | (refine zo ?_ ?_ <;> intro hc <;> try (exfalso; omega)) | (refine zp ?_ ?_ <;> intro hc <;> try (exfalso; omega)) | (refine zq ?_ ?_ <;> intro hc <;> try (exfalso; omega)) | refine wg_nil ?_ | refine then_go ?_ | refine wc_seq ?_ | refine wc_reg ?_ | refine wc_dreg ?_ | refine wc_block ?_ | refine zu ?_ | refine zv ?_ | refine wc_skip ?_ | refine wc_exit ?_ | refine wc_ret ?_ | refine then_ret ?_ | refine then_exit ?_ | refine out_go ?_ | refine out_ret ?_ | refine zA ?_ | refine zB ?_ | refine zw ?_ | refine zx ?_ | refine zy ?_ | refine wd_nil ?_)
          exact ⟨false, (Sub'.cons rfl (Sub'.cons rfl (Sub'.cons rfl (Sub'.cons rfl (Sub'.nil _))))), hg4, by omega, iff_of_false (by decide) (fun q => by cases q.2)⟩
      · repeat' (first | refine z0 ?_ | refine z1 ?_ | refine z2 ?_ | refine z3 ?_ | refine z6 ?_ | refine z7 ?_ | refine z8 ?_ | refine z9 ?_ | refine za ?_ | refine zb ?_ | refine zc ?_ | refine zd ?_ | refine ze ?_ | refine zh ?_ | refine zi ?_ | refine zj ?_ | refine zl ?_ | (refine zm ?_ ?_ <;> intro hc <;> try (exfalso; omega)) | (refine zo ?_ ?_ <;> intro hc <;> try (exfalso; omega)) | (refine zp ?_ ?_ <;> intro hc <;> try (exfalso; omega)) | (refine zq ?_ ?_ <;> intro hc <;> try (exfalso; omega)) | refine wg_nil ?_ | refine then_go ?_ | refine wc_seq ?_ | refine wc_reg ?_ | refine wc_dreg ?_ | refine wc_block ?_ | refine zu ?_ | refine zv ?_ | refine wc_skip ?_ | refine wc_exit ?_ | refine wc_ret ?_ | refine then_ret ?_ | refine then_exit ?_ | refine out_go ?_ | refine out_ret ?_ | refine zA ?_ | refine zB ?_ | refine zw ?_ | refine zx ?_ | refine zy ?_ | refine wd_nil ?_)
        exact ⟨false, (Sub'.cons rfl (Sub'.cons rfl (Sub'.cons rfl (Sub'.cons rfl (Sub'.nil _))))), Grew.refl _, by omega, iff_of_false (by decide) (fun q => h0 q.1)⟩
    rintro t h4 ⟨hg4, hn4, ht⟩
    have hg4l := hg4.le
    have hgD := hgC.trans hg4
    have hg'4 := hg'3.trans hg4
    have hb4 := (hg4.get h.n (by omega)).trans hb''
    have hb5 := (hg4.get h'.n (by omega)).trans hb3
    have hN4 := hN.grew hgD
    have hE4 := hE.grew hgD
    cases t with
    | true =>
      have ht := ht.1 rfl
      repeat' (first | refine z0 ?_ | refine z1 ?_ | refine z2 ?_ | refine z3 ?_ | refine z6 ?_ | refine z7 ?_ | refine z8 ?_ | refine z9 ?_ | refine za ?_ | refine zb ?_ | refine zc ?_ | refine zd ?_ | refine ze ?_ | refine zh ?_ | refine zi ?_ | refine zj ?_ | refine zl ?_ | (refine zm ?_ ?_ <;> intro hc <;> try (exfalso; omega)) | (refine zo ?_ ?_ <;> intro hc <;> try (exfalso; omega)) | (refine zp ?_ ?_ <;> intro hc <;> try (exfalso; omega)) | (refine zq ?_ ?_ <;> intro hc <;> try (exfalso; omega)) | refine wg_nil ?_ | refine then_go ?_ | refine wc_seq ?_ | refine wc_reg ?_ | refine wc_dreg ?_ | refine wc_block ?_ | refine zu ?_ | refine zv ?_ | refine wc_skip ?_ | refine wc_exit ?_ | refine wc_ret ?_ | refine then_ret ?_ | refine then_exit ?_ | refine out_go ?_ | refine out_ret ?_ | refine zA ?_ | refine zB ?_ | refine zw ?_ | refine zx ?_ | refine zy ?_ | refine wd_nil ?_)
      exact ⟨Or.inr rfl, _, rfl, hKv (hz.trans (errE_13 hlt hbn ht.1 ht.2)) _ hgD (by omega)⟩
    | false =>
    have hord : 0 < j → lessE (ed es ((j : Int) - 1)) (ed es (j : Int)) = true := fun q => by
      cases hx : lessE (ed es ((j : Int) - 1)) (ed es (j : Int)) with
      | true => rfl
      | false => cases ht.2 ⟨q, hx⟩
    repeat' (first | refine z0 ?_ | refine z1 ?_ | refine z2 ?_ | refine z3 ?_ | refine z6 ?_ | refine z7 ?_ | refine z8 ?_ | refine z9 ?_ | refine za ?_ | refine zb ?_ | refine zc ?_ | refine zd ?_ | refine ze ?_ | refine zh ?_ | refine zi ?_ | refine zj ?_ | refine zl ?_ | (refine zm ?_ ?_ <;> intro hc <;> try (exfalso; omega)) | (refine zo ?_ ?_ <;> intro hc <;> try (exfalso; omega)) | (refine zp ?_ ?_ <;> intro hc <;> try (exfalso; omega)) | (refine zq ?_ ?_ <;> intro hc <;> try (exfalso; omega)) | refine wg_nil ?_ | refine then_go ?_ | refine wc_seq ?_ | refine wc_reg ?_ | refine wc_dreg ?_ | refine wc_block ?_ | refine zu ?_ | refine zv ?_ | refine wc_skip ?_ | refine wc_exit ?_ | refine wc_ret ?_ | refine then_ret ?_ | refine then_exit ?_ | refine out_go ?_ | refine out_ret ?_ | refine zA ?_ | refine zB ?_ | refine zw ?_ | refine zx ?_ | refine zy ?_ | refine wd_nil ?_)
    refine wo_call rfl rfl (fits_ev hbn (hcx.mono hgD.le) hN4 hE4 (by omega) hsN hsE hl hle (by omega) fun h5 hg5 hn5 => ?_)
    have hg5l := hg5.le
    have hgE := hgD.trans hg5
    have hg'5 := hg'4.trans hg5
    cases hft : fitsR ns (callsR ns es (ed es (j : Int)).c (nd ns (ed es (j : Int)).a).f) (ed es (j : Int))
    · repeat' (first | refine z0 ?_ | refine z1 ?_ | refine z2 ?_ | refine z3 ?_ | refine z6 ?_ | refine z7 ?_ | refine z8 ?_ | refine z9 ?_ | refine za ?_ | refine zb ?_ | refine zc ?_ | refine zd ?_ | refine ze ?_ | refine zh ?_ | refine zi ?_ | refine zj ?_ | refine zl ?_ | (refine zm ?_ ?_ <;> intro hc <;> try (exfalso; omega)) | (refine zo ?_ ?_ <;> intro hc <;> try (exfalso; omega)) | (refine zp ?_ ?_ <;> intro hc <;> try (exfalso; omega)) | (refine zq ?_ ?_ <;> intro hc <;> try (exfalso; omega)) | refine wg_nil ?_ | refine then_go ?_ | refine wc_seq ?_ | refine wc_reg ?_ | refine wc_dreg ?_ | refine wc_block ?_ | refine zu ?_ | refine zv ?_ | refine wc_skip ?_ | refine wc_exit ?_ | refine wc_ret ?_ | refine then_ret ?_ | refine then_exit ?_ | refine out_go ?_ | refine out_ret ?_ | refine zA ?_ | refine zB ?_ | refine zw ?_ | refine zx ?_ | refine zy ?_ | refine wd_nil ?_)
      exact ⟨Or.inr rfl, _, rfl, hKv (hz.trans (errE_20 hlt hbn hord hft)) _ hgE (by omega)⟩
    · repeat' (first | refine z0 ?_ | refine z1 ?_ | refine z2 ?_ | refine z3 ?_ | refine z6 ?_ | refine z7 ?_ | refine z8 ?_ | refine z9 ?_ | refine za ?_ | refine zb ?_ | refine zc ?_ | refine zd ?_ | refine ze ?_ | refine zh ?_ | refine zi ?_ | refine zj ?_ | refine zl ?_ | (refine zm ?_ ?_ <;> intro hc <;> try (exfalso; omega)) | (refine zo ?_ ?_ <;> intro hc <;> try (exfalso; omega)) | (refine zp ?_ ?_ <;> intro hc <;> try (exfalso; omega)) | (refine zq ?_ ?_ <;> intro hc <;> try (exfalso; omega)) | refine wg_nil ?_ | refine then_go ?_ | refine wc_seq ?_ | refine wc_reg ?_ | refine wc_dreg ?_ | refine wc_block ?_ | refine zu ?_ | refine zv ?_ | refine wc_skip ?_ | refine wc_exit ?_ | refine wc_ret ?_ | refine then_ret ?_ | refine then_exit ?_ | refine out_go ?_ | refine out_ret ?_ | refine zA ?_ | refine zB ?_ | refine zw ?_ | refine zx ?_ | refine zy ?_ | refine wd_nil ?_)
      exact ⟨j + 1, by simp; omega, Sub'.cons rfl (Sub'.cons rfl (Sub'.nil _)), hg'5, by omega, hlt, hz.trans (errE_go hlt hbn hord hft)⟩
  · have hz1 := hz.trans (errE_done hlt)
    repeat' (first | refine z0 ?_ | refine z1 ?_ | refine z2 ?_ | refine z3 ?_ | refine z6 ?_ | refine z7 ?_ | refine z8 ?_ | refine z9 ?_ | refine za ?_ | refine zb ?_ | refine zc ?_ | refine zd ?_ | refine ze ?_ | refine zh ?_ | refine zi ?_ | refine zj ?_ | refine zl ?_ | (refine zm ?_ ?_ <;> intro hc <;> try (exfalso; omega)) | (refine zo ?_ ?_ <;> intro hc <;> try (exfalso; omega)) | (refine zp ?_ ?_ <;> intro hc <;> try (exfalso; omega)) | (refine zq ?_ ?_ <;> intro hc <;> try (exfalso; omega)) | refine wg_nil ?_ | refine then_go ?_ | refine wc_seq ?_ | refine wc_reg ?_ | refine wc_dreg ?_ | refine wc_block ?_ | refine zu ?_ | refine zv ?_ | refine wc_skip ?_ | refine wc_exit ?_ | refine wc_ret ?_ | refine then_ret ?_ | refine then_exit ?_ | refine out_go ?_ | refine out_ret ?_ | refine zA ?_ | refine zB ?_ | refine zw ?_ | refine zx ?_ | refine zy ?_ | refine wd_nil ?_)
    exact ⟨Or.inr rfl, _, rfl, hKv hz1 _ hgA (by omega)⟩
end Go.Proofs.YtlocnfaeiacphaaGreatDoor.Ev
