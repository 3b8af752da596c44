/- Contracts of the reference: leave. -/
import Derived.Test.YtlocnfaeiacphaaGreatDoorSyH
import Derived.Test.YtlocnfaeiacphaaGreatDoorCpI
import Derived.KernelRfl
set_option linter.unusedVariables false
set_option linter.unusedSimpArgs false
set_option maxHeartbeats 4000000
namespace Go.Proofs.YtlocnfaeiacphaaGreatDoor.Ev
open Go

variable {c : C} {h : H} {nsv esv obv env_ : AV} {ns : List Nd} {es : List Ed} {os : List Ob} {idN idE idO lid : Nat} {mn : Int} {K : AV → H → Prop} {lv : AV} {st : List Fr}

theorem leave_ev {i n lid2 : Nat} {cap2 : Option Nat} (hcx : Cx c h) (hN : Arr h nsv 3 (ns.map Nd.row) idN) (hE : Arr h esv 4 (es.map Ed.row) idE) (hidN : idN < h.n) (hidE : idE < h.n) (hsN : seen c.vis idN = true) (hsE : seen c.vis idE = true) (hl : ns.length ≤ 100) (hle : es.length ≤ 100)
    (hL : Arr h lv 3 (st.map rF) lid) (hs1 : st.length ≤ 100) (hlid : lid < h.n) (hsl : seen c.vis lid = true) (hO : Arr h obv 5 (os.map Ob.row) idO) (hidO : idO < h.n) (hsO : seen c.vis idO = true) (hov : ∀ x : Int, 0 ≤ x → x < os.length → one (ob os x).v = true) (hi1 : 1 ≤ i) (hi2 : i < os.length) (hlo : os.length ≤ 100) (hok : OkSt st i) (hn1 : 1 ≤ n) (hn2 : n < st.length) (hn : h.n < 7000000)
    (hK : ∀ h' ov oid, Grew h h' → h'.n ≤ h.n + 2000 → h.n ≤ oid → oid < h'.n → Arr h' ov 1 (((leaveE ns es os st n i).map (edIx es)).map rI) oid → K ov h') :
    Gv Tryz.prog X0 Mx c 18 [.agg [nsv, esv, .int .i64 mn], .agg [env_, obv], lv, .sl lid2 0 n 3 cap2, .int .i64 (i : Int)] h K := by
  have hnt : (142 : Nat) ≤ 1000000 := by decide
  have hlO : (os.map Ob.row).length = os.length := List.length_map ..
  have hlS : (st.map rF).length = st.length := List.length_map ..
  have hlow := hcx.low
  have hsi := hok.le
  refine gv_fn x_leave (MK_other rfl _ _ _) (by simp) hnt ?_
  unfold s_leave
  refine wc_seq (wc_reg (rg_go hnt rfl rfl (wo_boxA rfl rfl (by omega) fun h1 hn1' hb1 hgr => ?_)))
  refine rg_go hnt rfl rfl (wo_boxA rfl rfl (by omega) fun h2 hn2' hb2 hgr2 => ?_)
  have hb12 := (hgr2.get h.n (by omega)).trans hb1
  have hsb : seen c.vis h.n = true := hcx.new (Nat.le_refl _) (by omega)
  have hsb2 : seen c.vis h1.n = true := hcx.new (by omega) (by omega)
  have hgA := hgr.trans hgr2
  have hN2 := hN.grew hgA
  have hO2 := hO.grew hgA
  obtain ⟨-, -, ⟨vsO, hgO, -⟩, -⟩ := hO2.full (by omega)
  repeat' (first | refine z0 ?_ | refine z1 ?_ | refine z2 ?_ | refine z3 ?_ | refine z6 ?_ | refine z7 ?_ | refine z8 ?_ | refine z9 ?_ | refine za ?_ | refine zb ?_ | refine zc ?_ | refine zd ?_ | refine zf ?_ | refine zg ?_ | refine zh ?_ | refine zi ?_ | refine zj ?_ | refine zl ?_ | (refine zo ?_ ?_ <;> intro hc <;> try (exfalso; omega)) | (refine zp ?_ ?_ <;> intro hc <;> try (exfalso; omega)) | (refine zq ?_ ?_ <;> intro hc <;> try (exfalso; omega)) | refine wg_nil ?_ | refine wc_seq ?_ | refine wc_reg ?_ | refine wc_dreg ?_ | refine wc_block ?_ | refine zu ?_ | refine zv ?_ | refine wc_skip ?_ | refine wc_exit ?_ | refine wc_ret ?_ | refine then_ret ?_ | refine then_exit ?_ | refine out_go ?_ | refine out_ret ?_ | refine zA ?_ | refine zB ?_ | refine zw ?_ | refine zx ?_ | refine zy ?_ | refine wd_nil ?_)
  refine then_go ?_
  repeat' (first | refine z0 ?_ | refine z1 ?_ | refine z2 ?_ | refine z3 ?_ | refine z6 ?_ | refine z7 ?_ | refine z8 ?_ | refine z9 ?_ | refine za ?_ | refine zb ?_ | refine zc ?_ | refine zd ?_ | refine zf ?_ | refine zg ?_ | refine zh ?_ | refine zi ?_ | refine zj ?_ | refine zl ?_ | (refine zo ?_ ?_ <;> intro hc <;> try (exfalso; omega)) | (refine zp ?_ ?_ <;> intro hc <;> try (exfalso; omega)) | (refine zq ?_ ?_ <;> intro hc <;> try (exfalso; omega)) | refine wg_nil ?_ | refine wc_seq ?_ | refine wc_reg ?_ | refine wc_dreg ?_ | refine wc_block ?_ | refine zu ?_ | refine zv ?_ | refine wc_skip ?_ | refine wc_exit ?_ | refine wc_ret ?_ | refine then_ret ?_ | refine then_exit ?_ | refine out_go ?_ | refine out_ret ?_ | refine zA ?_ | refine zB ?_ | refine zw ?_ | refine zx ?_ | refine zy ?_ | refine wd_nil ?_)
  refine rd_bar hnt rfl rfl (wo_call rfl rfl (node_ev (Cx.mem (by omega)) hN2 (by omega) (seen_old (by repeat (first | exact rs_nil | refine rs_add (by omega) ?_)) (by omega) (by omega) (by assumption)) hl (by omega) fun h3 hg3 hn3 => ⟨(by repeat (first | exact unchF_nil | refine unchF_cons (by decide) ?_)), ?_⟩))
  have hg3l := hg3.le
  have hb1_3 := (hg3.get h.n (by omega)).trans hb12
  have hb2_3 := (hg3.get h1.n (by omega)).trans hb2
  have hg_3 := hgA.trans hg3
  have hN_3 := hN.grew hg_3
  have hE_3 := hE.grew hg_3
  have hO_3 := hO.grew hg_3
  have hgO_3 := (hg3.get idO (by omega)).trans hgO
  have hL_3 := hL.grew hg_3
  repeat' (first | refine z0 ?_ | refine z1 ?_ | refine z2 ?_ | refine z3 ?_ | refine z6 ?_ | refine z7 ?_ | refine z8 ?_ | refine z9 ?_ | refine za ?_ | refine zb ?_ | refine zc ?_ | refine zd ?_ | refine zf ?_ | refine zg ?_ | refine zh ?_ | refine zi ?_ | refine zj ?_ | refine zl ?_ | (refine zo ?_ ?_ <;> intro hc <;> try (exfalso; omega)) | (refine zp ?_ ?_ <;> intro hc <;> try (exfalso; omega)) | (refine zq ?_ ?_ <;> intro hc <;> try (exfalso; omega)) | refine wg_nil ?_ | refine wc_seq ?_ | refine wc_reg ?_ | refine wc_dreg ?_ | refine wc_block ?_ | refine zu ?_ | refine zv ?_ | refine wc_skip ?_ | refine wc_exit ?_ | refine wc_ret ?_ | refine then_ret ?_ | refine then_exit ?_ | refine out_go ?_ | refine out_ret ?_ | refine zA ?_ | refine zB ?_ | refine zw ?_ | refine zx ?_ | refine zy ?_ | refine wd_nil ?_)
  refine rd_bar hnt rfl rfl (wo_call rfl rfl (node_ev (Cx.mem (by omega)) hN_3 (by omega) (seen_old (by repeat (first | exact rs_nil | refine rs_add (by omega) ?_)) (by omega) (by omega) (by assumption)) hl (by omega) fun h4 hg4' hn4 => ⟨(by repeat (first | exact unchF_nil | refine unchF_cons (by decide) ?_)), ?_⟩))
  have hg4 := hg3.trans hg4'
  have hg4l := hg4.le
  have hb1_4 := (hg4.get h.n (by omega)).trans hb12
  have hb2_4 := (hg4.get h1.n (by omega)).trans hb2
  have hg_4 := hgA.trans hg4
  have hN_4 := hN.grew hg_4
  have hE_4 := hE.grew hg_4
  have hO_4 := hO.grew hg_4
  have hgO_4 := (hg4.get idO (by omega)).trans hgO
  have hL_4 := hL.grew hg_4
  repeat' (first | refine z0 ?_ | refine z1 ?_ | refine z2 ?_ | refine z3 ?_ | refine z6 ?_ | refine z7 ?_ | refine z8 ?_ | refine z9 ?_ | refine za ?_ | refine zb ?_ | refine zc ?_ | refine zd ?_ | refine zf ?_ | refine zg ?_ | refine zh ?_ | refine zi ?_ | refine zj ?_ | refine zl ?_ | (refine zo ?_ ?_ <;> intro hc <;> try (exfalso; omega)) | (refine zp ?_ ?_ <;> intro hc <;> try (exfalso; omega)) | (refine zq ?_ ?_ <;> intro hc <;> try (exfalso; omega)) | refine wg_nil ?_ | refine wc_seq ?_ | refine wc_reg ?_ | refine wc_dreg ?_ | refine wc_block ?_ | refine zu ?_ | refine zv ?_ | refine wc_skip ?_ | refine wc_exit ?_ | refine wc_ret ?_ | refine then_ret ?_ | refine then_exit ?_ | refine out_go ?_ | refine out_ret ?_ | refine zA ?_ | refine zB ?_ | refine zw ?_ | refine zx ?_ | refine zy ?_ | refine wd_nil ?_)
  refine then_go ?_
  repeat' (first | refine z0 ?_ | refine z1 ?_ | refine z2 ?_ | refine z3 ?_ | refine z6 ?_ | refine z7 ?_ | refine z8 ?_ | refine z9 ?_ | refine za ?_ | refine zb ?_ | refine zc ?_ | refine zd ?_ | refine zf ?_ | refine zg ?_ | refine zh ?_ | refine zi ?_ | refine zj ?_ | refine zl ?_ | (refine zo ?_ ?_ <;> intro hc <;> try (exfalso; omega)) | (refine zp ?_ ?_ <;> intro hc <;> try (exfalso; omega)) | (refine zq ?_ ?_ <;> intro hc <;> try (exfalso; omega)) | refine wg_nil ?_ | refine wc_seq ?_ | refine wc_reg ?_ | refine wc_dreg ?_ | refine wc_block ?_ | refine zu ?_ | refine zv ?_ | refine wc_skip ?_ | refine wc_exit ?_ | refine wc_ret ?_ | refine then_ret ?_ | refine then_exit ?_ | refine out_go ?_ | refine out_ret ?_ | refine zA ?_ | refine zB ?_ | refine zw ?_ | refine zx ?_ | refine zy ?_ | refine wd_nil ?_)
  refine then_go ?_
  repeat' (first | refine z0 ?_ | refine z1 ?_ | refine z2 ?_ | refine z3 ?_ | refine z6 ?_ | refine z7 ?_ | refine z8 ?_ | refine z9 ?_ | refine za ?_ | refine zb ?_ | refine zc ?_ | refine zd ?_ | refine zf ?_ | refine zg ?_ | refine zh ?_ | refine zi ?_ | refine zj ?_ | refine zl ?_ | (refine zo ?_ ?_ <;> intro hc <;> try (exfalso; omega)) | (refine zp ?_ ?_ <;> intro hc <;> try (exfalso; omega)) | (refine zq ?_ ?_ <;> intro hc <;> try (exfalso; omega)) | refine wg_nil ?_ | refine wc_seq ?_ | refine wc_reg ?_ | refine wc_dreg ?_ | refine wc_block ?_ | refine zu ?_ | refine zv ?_ | refine wc_skip ?_ | refine wc_exit ?_ | refine wc_ret ?_ | refine then_ret ?_ | refine then_exit ?_ | refine out_go ?_ | refine out_ret ?_ | refine zA ?_ | refine zB ?_ | refine zw ?_ | refine zx ?_ | refine zy ?_ | refine wd_nil ?_)
  refine wo_call rfl rfl (Exit_ev (hcx.mono hg_4.le) hN_4 (by omega) hsN hl (by omega) fun h5 hg5' hn5 => ?_)
  have hg5 := hg4.trans hg5'
  have hg5l := hg5.le
  have hb1_5 := (hg5.get h.n (by omega)).trans hb12
  have hb2_5 := (hg5.get h1.n (by omega)).trans hb2
  have hg_5 := hgA.trans hg5
  have hN_5 := hN.grew hg_5
  have hE_5 := hE.grew hg_5
  have hO_5 := hO.grew hg_5
  have hgO_5 := (hg5.get idO (by omega)).trans hgO
  have hL_5 := hL.grew hg_5
  repeat' (first | refine z0 ?_ | refine z1 ?_ | refine z2 ?_ | refine z3 ?_ | refine z6 ?_ | refine z7 ?_ | refine z8 ?_ | refine z9 ?_ | refine za ?_ | refine zb ?_ | refine zc ?_ | refine zd ?_ | refine zf ?_ | refine zg ?_ | refine zh ?_ | refine zi ?_ | refine zj ?_ | refine zl ?_ | (refine zo ?_ ?_ <;> intro hc <;> try (exfalso; omega)) | (refine zp ?_ ?_ <;> intro hc <;> try (exfalso; omega)) | (refine zq ?_ ?_ <;> intro hc <;> try (exfalso; omega)) | refine wg_nil ?_ | refine wc_seq ?_ | refine wc_reg ?_ | refine wc_dreg ?_ | refine wc_block ?_ | refine zu ?_ | refine zv ?_ | refine wc_skip ?_ | refine wc_exit ?_ | refine wc_ret ?_ | refine then_ret ?_ | refine then_exit ?_ | refine out_go ?_ | refine out_ret ?_ | refine zA ?_ | refine zB ?_ | refine zw ?_ | refine zx ?_ | refine zy ?_ | refine wd_nil ?_)
  refine then_go ?_
  refine wc_seqM (ι := Unit) (fun _ => [(2, lv), (3, .sl lid2 0 n 3 cap2), (5, .ptr h.n 0), (6, .ptr h1.n 0), (11, .int .i64 (nI ns (ob os ((i : Int) - 1)))), (12, .int .i64 (nI ns (ob os (i : Int)))), (15, .int .i64 (kdIx ns (ob os ((i : Int) - 1)).f 4))]) (fun _ g => Grew h2 g ∧ g.n ≤ h2.n + 40 ∧ ¬ (st.length = n + 1 ∧ 0 ≤ edIx es (retA ns os i) ∧ 0 ≤ edIx es (retB ns os st i))) ?_ ?_
  · by_cases hone : st.length = n + 1
    · have hrow : (st.map rF)[((((st.map rF).length : Nat) : Int) - 1).toNat]? = some [.int .i64 (fr st (st.length - 1)).1, .int .i64 (fr st (st.length - 1)).2, .nils] := by
        have e : ((((st.map rF).length : Nat) : Int) - 1).toNat = st.length - 1 := by omega
        rw [e]; exact rF_row (by omega)
      have hcl := hok.call (st.length - 1) (by omega) (by omega)
      repeat' (first | refine z0 ?_ | refine z1 ?_ | refine z2 ?_ | refine z3 ?_ | refine z6 ?_ | refine z7 ?_ | refine z8 ?_ | refine z9 ?_ | refine za ?_ | refine zb ?_ | refine zc ?_ | refine zd ?_ | refine zf ?_ | refine zg ?_ | refine zh ?_ | refine zi ?_ | refine zj ?_ | refine zl ?_ | (refine zo ?_ ?_ <;> intro hc <;> try (exfalso; omega)) | (refine zp ?_ ?_ <;> intro hc <;> try (exfalso; omega)) | (refine zq ?_ ?_ <;> intro hc <;> try (exfalso; omega)) | refine wg_nil ?_ | refine then_go ?_ | refine wc_seq ?_ | refine wc_reg ?_ | refine wc_dreg ?_ | refine wc_block ?_ | refine zu ?_ | refine zv ?_ | refine wc_skip ?_ | refine wc_exit ?_ | refine wc_ret ?_ | refine then_ret ?_ | refine then_exit ?_ | refine out_go ?_ | refine out_ret ?_ | refine zA ?_ | refine zB ?_ | refine zw ?_ | refine zx ?_ | refine zy ?_ | refine wd_nil ?_)
      refine rd_bar hnt rfl rfl (wo_call rfl rfl (node_ev (Cx.mem (by omega)) hN_5 (by omega) (seen_old (by repeat (first | exact rs_nil | refine rs_add (by omega) ?_)) (by omega) (by omega) (by assumption)) hl (by omega) fun h6 hg6' hn6 => ⟨(by repeat (first | exact unchF_nil | refine unchF_cons (by decide) ?_)), ?_⟩))
      have hg6 := hg5.trans hg6'
      have hg6l := hg6.le
      have hb1_6 := (hg6.get h.n (by omega)).trans hb12
      have hb2_6 := (hg6.get h1.n (by omega)).trans hb2
      have hg_6 := hgA.trans hg6
      have hN_6 := hN.grew hg_6
      have hE_6 := hE.grew hg_6
      have hO_6 := hO.grew hg_6
      have hgO_6 := (hg6.get idO (by omega)).trans hgO
      have hL_6 := hL.grew hg_6
      repeat' (first | refine z0 ?_ | refine z1 ?_ | refine z2 ?_ | refine z3 ?_ | refine z6 ?_ | refine z7 ?_ | refine z8 ?_ | refine z9 ?_ | refine za ?_ | refine zb ?_ | refine zc ?_ | refine zd ?_ | refine zf ?_ | refine zg ?_ | refine zh ?_ | refine zi ?_ | refine zj ?_ | refine zl ?_ | (refine zo ?_ ?_ <;> intro hc <;> try (exfalso; omega)) | (refine zp ?_ ?_ <;> intro hc <;> try (exfalso; omega)) | (refine zq ?_ ?_ <;> intro hc <;> try (exfalso; omega)) | refine wg_nil ?_ | refine then_go ?_ | refine wc_seq ?_ | refine wc_reg ?_ | refine wc_dreg ?_ | refine wc_block ?_ | refine zu ?_ | refine zv ?_ | refine wc_skip ?_ | refine wc_exit ?_ | refine wc_ret ?_ | refine then_ret ?_ | refine then_exit ?_ | refine out_go ?_ | refine out_ret ?_ | refine zA ?_ | refine zB ?_ | refine zw ?_ | refine zx ?_ | refine zy ?_ | refine wd_nil ?_)
      refine wo_call rfl rfl (edge_ev (n := retA ns os i) (hcx.mono hg_6.le) hE_6 (by omega) hsE hle (by omega) fun h7 hg7' hn7 => ?_)
      have hg7 := hg6.trans hg7'
      have hg7l := hg7.le
      have hb1_7 := (hg7.get h.n (by omega)).trans hb12
      have hb2_7 := (hg7.get h1.n (by omega)).trans hb2
      have hg_7 := hgA.trans hg7
      have hN_7 := hN.grew hg_7
      have hE_7 := hE.grew hg_7
      have hO_7 := hO.grew hg_7
      have hgO_7 := (hg7.get idO (by omega)).trans hgO
      have hL_7 := hL.grew hg_7
      repeat' (first | refine z0 ?_ | refine z1 ?_ | refine z2 ?_ | refine z3 ?_ | refine z6 ?_ | refine z7 ?_ | refine z8 ?_ | refine z9 ?_ | refine za ?_ | refine zb ?_ | refine zc ?_ | refine zd ?_ | refine zf ?_ | refine zg ?_ | refine zh ?_ | refine zi ?_ | refine zj ?_ | refine zl ?_ | (refine zo ?_ ?_ <;> intro hc <;> try (exfalso; omega)) | (refine zp ?_ ?_ <;> intro hc <;> try (exfalso; omega)) | (refine zq ?_ ?_ <;> intro hc <;> try (exfalso; omega)) | refine wg_nil ?_ | refine then_go ?_ | refine wc_seq ?_ | refine wc_reg ?_ | refine wc_dreg ?_ | refine wc_block ?_ | refine zu ?_ | refine zv ?_ | refine wc_skip ?_ | refine wc_exit ?_ | refine wc_ret ?_ | refine then_ret ?_ | refine then_exit ?_ | refine out_go ?_ | refine out_ret ?_ | refine zA ?_ | refine zB ?_ | refine zw ?_ | refine zx ?_ | refine zy ?_ | refine wd_nil ?_)
      refine wo_call rfl rfl (edge_ev (n := retB ns os st i) (hcx.mono hg_7.le) hE_7 (by omega) hsE hle (by omega) fun h8 hg8' hn8 => ?_)
      have hg8 := hg7.trans hg8'
      have hg8l := hg8.le
      have hb1_8 := (hg8.get h.n (by omega)).trans hb12
      have hb2_8 := (hg8.get h1.n (by omega)).trans hb2
      have hg_8 := hgA.trans hg8
      have hN_8 := hN.grew hg_8
      have hE_8 := hE.grew hg_8
      have hO_8 := hO.grew hg_8
      have hgO_8 := (hg8.get idO (by omega)).trans hgO
      have hL_8 := hL.grew hg_8
      repeat' (first | refine z0 ?_ | refine z1 ?_ | refine z2 ?_ | refine z3 ?_ | refine z6 ?_ | refine z7 ?_ | refine z8 ?_ | refine z9 ?_ | refine za ?_ | refine zb ?_ | refine zc ?_ | refine zd ?_ | refine zf ?_ | refine zg ?_ | refine zh ?_ | refine zi ?_ | refine zj ?_ | refine zl ?_ | (refine zo ?_ ?_ <;> intro hc <;> try (exfalso; omega)) | (refine zp ?_ ?_ <;> intro hc <;> try (exfalso; omega)) | (refine zq ?_ ?_ <;> intro hc <;> try (exfalso; omega)) | refine wg_nil ?_ | refine then_go ?_ | refine wc_seq ?_ | refine wc_reg ?_ | refine wc_dreg ?_ | refine wc_block ?_ | refine zu ?_ | refine zv ?_ | refine wc_skip ?_ | refine wc_exit ?_ | refine wc_ret ?_ | refine then_ret ?_ | refine then_exit ?_ | refine out_go ?_ | refine out_ret ?_ | refine zA ?_ | refine zB ?_ | refine zw ?_ | refine zx ?_ | refine zy ?_ | refine wd_nil ?_)
      all_goals first
        | exact ⟨(), (Sub'.cons rfl (Sub'.cons rfl (Sub'.cons rfl (Sub'.cons rfl (Sub'.cons rfl (Sub'.cons rfl (Sub'.cons rfl (Sub'.nil _)))))))), hg8, by omega, fun q => by omega⟩
        | skip
      refine wo_bsliceA rfl (by omega) fun h9 hn9 hb9 hg9 => ?_
      have hX : Arr h9 (.sl h8.n 0 2 1 (some 2)) 1 (([retA ns os i, retB ns os st i].map (edIx es)).map rI) h8.n := Arr.mkN rfl (by omega) (by omega) hb9 rfl (by simp [rI])
      have hl2 : leaveE ns es os st n i = [retA ns os i, retB ns os st i] := by unfold leaveE; rw [if_pos ⟨hone, by omega, by omega⟩]
      rw [← hl2] at hX
      repeat' (first | refine z0 ?_ | refine z1 ?_ | refine z2 ?_ | refine z3 ?_ | refine z6 ?_ | refine z7 ?_ | refine z8 ?_ | refine z9 ?_ | refine za ?_ | refine zb ?_ | refine zc ?_ | refine zd ?_ | refine zf ?_ | refine zg ?_ | refine zh ?_ | refine zi ?_ | refine zj ?_ | refine zl ?_ | (refine zo ?_ ?_ <;> intro hc <;> try (exfalso; omega)) | (refine zp ?_ ?_ <;> intro hc <;> try (exfalso; omega)) | (refine zq ?_ ?_ <;> intro hc <;> try (exfalso; omega)) | refine wg_nil ?_ | refine then_go ?_ | refine wc_seq ?_ | refine wc_reg ?_ | refine wc_dreg ?_ | refine wc_block ?_ | refine zu ?_ | refine zv ?_ | refine wc_skip ?_ | refine wc_exit ?_ | refine wc_ret ?_ | refine then_ret ?_ | refine then_exit ?_ | refine out_go ?_ | refine out_ret ?_ | refine zA ?_ | refine zB ?_ | refine zw ?_ | refine zx ?_ | refine zy ?_ | refine wd_nil ?_)
      exact ⟨Or.inr rfl, _, rfl, hK h9 _ h8.n (hg_8.trans hg9) (by omega) (by omega) (by omega) hX⟩
    · repeat' (first | refine z0 ?_ | refine z1 ?_ | refine z2 ?_ | refine z3 ?_ | refine z6 ?_ | refine z7 ?_ | refine z8 ?_ | refine z9 ?_ | refine za ?_ | refine zb ?_ | refine zc ?_ | refine zd ?_ | refine zf ?_ | refine zg ?_ | refine zh ?_ | refine zi ?_ | refine zj ?_ | refine zl ?_ | (refine zo ?_ ?_ <;> intro hc <;> try (exfalso; omega)) | (refine zp ?_ ?_ <;> intro hc <;> try (exfalso; omega)) | (refine zq ?_ ?_ <;> intro hc <;> try (exfalso; omega)) | refine wg_nil ?_ | refine then_go ?_ | refine wc_seq ?_ | refine wc_reg ?_ | refine wc_dreg ?_ | refine wc_block ?_ | refine zu ?_ | refine zv ?_ | refine wc_skip ?_ | refine wc_exit ?_ | refine wc_ret ?_ | refine then_ret ?_ | refine then_exit ?_ | refine out_go ?_ | refine out_ret ?_ | refine zA ?_ | refine zB ?_ | refine zw ?_ | refine zx ?_ | refine zy ?_ | refine wd_nil ?_)
      all_goals first
        | exact ⟨(), (Sub'.cons rfl (Sub'.cons rfl (Sub'.cons rfl (Sub'.cons rfl (Sub'.cons rfl (Sub'.cons rfl (Sub'.cons rfl (Sub'.nil _)))))))), hg5, by omega, fun q => hone q.1⟩
        | (exfalso; omega)
  rintro _ h6 ⟨hg6, hn6, hno⟩
  clear hb1_3 hb2_3 hN_3 hE_3 hO_3 hgO_3 hL_3 hg_3 hb1_4 hb2_4 hN_4 hE_4 hO_4 hgO_4 hL_4 hg_4 hb1_5 hb2_5 hN_5 hE_5 hO_5 hgO_5 hL_5 hg_5
  clear hg3 hg4 hg5 hg4' hg5' hn3 hn4 hn5 hg3l hg4l hg5l
  have hg6l := hg6.le
  have hb1_6 := (hg6.get h.n (by omega)).trans hb12
  have hb2_6 := (hg6.get h1.n (by omega)).trans hb2
  have hg_6 := hgA.trans hg6
  have hN_6 := hN.grew hg_6
  have hE_6 := hE.grew hg_6
  have hO_6 := hO.grew hg_6
  have hgO_6 := (hg6.get idO (by omega)).trans hgO
  have hL_6 := hL.grew hg_6
  have hl2 : leaveE ns es os st n i = ⟨nI ns (ob os ((i : Int) - 1)), kdIx ns (ob os ((i : Int) - 1)).f 4, 1, -1⟩ :: raiseE ns os st (nI ns (ob os (i : Int))) n (st.length - n) (kdIx ns (ob os ((i : Int) - 1)).f 4) := by unfold leaveE; rw [if_neg hno]
  repeat' (first | refine z0 ?_ | refine z1 ?_ | refine z2 ?_ | refine z3 ?_ | refine z6 ?_ | refine z7 ?_ | refine z8 ?_ | refine z9 ?_ | refine za ?_ | refine zb ?_ | refine zc ?_ | refine zd ?_ | refine zf ?_ | refine zg ?_ | refine zh ?_ | refine zi ?_ | refine zj ?_ | refine zl ?_ | (refine zo ?_ ?_ <;> intro hc <;> try (exfalso; omega)) | (refine zp ?_ ?_ <;> intro hc <;> try (exfalso; omega)) | (refine zq ?_ ?_ <;> intro hc <;> try (exfalso; omega)) | refine wg_nil ?_ | refine then_go ?_ | refine wc_seq ?_ | refine wc_reg ?_ | refine wc_dreg ?_ | refine wc_block ?_ | refine zu ?_ | refine zv ?_ | refine wc_skip ?_ | refine wc_exit ?_ | refine wc_ret ?_ | refine then_ret ?_ | refine then_exit ?_ | refine out_go ?_ | refine out_ret ?_ | refine zA ?_ | refine zB ?_ | refine zw ?_ | refine zx ?_ | refine zy ?_ | refine wd_nil ?_)
  refine wo_call rfl rfl (edge_ev (n := ⟨nI ns (ob os ((i : Int) - 1)), kdIx ns (ob os ((i : Int) - 1)).f 4, 1, -1⟩) (hcx.mono hg_6.le) hE_6 (by omega) hsE hle (by omega) fun h7 hg7' hn7 => ?_)
  have hg7 := hg6.trans hg7'
  have hg7l := hg7.le
  have hb1_7 := (hg7.get h.n (by omega)).trans hb12
  have hb2_7 := (hg7.get h1.n (by omega)).trans hb2
  have hg_7 := hgA.trans hg7
  have hN_7 := hN.grew hg_7
  have hE_7 := hE.grew hg_7
  have hO_7 := hO.grew hg_7
  have hgO_7 := (hg7.get idO (by omega)).trans hgO
  have hL_7 := hL.grew hg_7
  repeat' (first | refine z0 ?_ | refine z1 ?_ | refine z2 ?_ | refine z3 ?_ | refine z6 ?_ | refine z7 ?_ | refine z8 ?_ | refine z9 ?_ | refine za ?_ | refine zb ?_ | refine zc ?_ | refine zd ?_ | refine zf ?_ | refine zg ?_ | refine zh ?_ | refine zi ?_ | refine zj ?_ | refine zl ?_ | (refine zo ?_ ?_ <;> intro hc <;> try (exfalso; omega)) | (refine zp ?_ ?_ <;> intro hc <;> try (exfalso; omega)) | (refine zq ?_ ?_ <;> intro hc <;> try (exfalso; omega)) | refine wg_nil ?_ | refine then_go ?_ | refine wc_seq ?_ | refine wc_reg ?_ | refine wc_dreg ?_ | refine wc_block ?_ | refine zu ?_ | refine zv ?_ | refine wc_skip ?_ | refine wc_exit ?_ | refine wc_ret ?_ | refine then_ret ?_ | refine then_exit ?_ | refine out_go ?_ | refine out_ret ?_ | refine zA ?_ | refine zB ?_ | refine zw ?_ | refine zx ?_ | refine zy ?_ | refine wd_nil ?_)
  refine wo_bsliceA rfl (by omega) fun h8 hn8 hb8 hg8' => ?_
  have hg8 := hg7.trans hg8'
  have hg8l := hg8.le
  have hb1_8 := (hg8.get h.n (by omega)).trans hb12
  have hb2_8 := (hg8.get h1.n (by omega)).trans hb2
  have hg_8 := hgA.trans hg8
  have hN_8 := hN.grew hg_8
  have hE_8 := hE.grew hg_8
  have hO_8 := hO.grew hg_8
  have hgO_8 := (hg8.get idO (by omega)).trans hgO
  have hL_8 := hL.grew hg_8
  have hX : Arr h8 (.sl h7.n 0 1 1 (some 1)) 1 ([edIx es ⟨nI ns (ob os ((i : Int) - 1)), kdIx ns (ob os ((i : Int) - 1)).f 4, 1, -1⟩].map rI) h7.n := Arr.mkN rfl (by omega) (by omega) hb8 rfl (by simp [rI])
  repeat' (first | refine z0 ?_ | refine z1 ?_ | refine z2 ?_ | refine z3 ?_ | refine z6 ?_ | refine z7 ?_ | refine z8 ?_ | refine z9 ?_ | refine za ?_ | refine zb ?_ | refine zc ?_ | refine zd ?_ | refine zf ?_ | refine zg ?_ | refine zh ?_ | refine zi ?_ | refine zj ?_ | refine zl ?_ | (refine zo ?_ ?_ <;> intro hc <;> try (exfalso; omega)) | (refine zp ?_ ?_ <;> intro hc <;> try (exfalso; omega)) | (refine zq ?_ ?_ <;> intro hc <;> try (exfalso; omega)) | refine wg_nil ?_ | refine then_go ?_ | refine wc_seq ?_ | refine wc_reg ?_ | refine wc_dreg ?_ | refine wc_block ?_ | refine zu ?_ | refine zv ?_ | refine wc_skip ?_ | refine wc_exit ?_ | refine wc_ret ?_ | refine then_ret ?_ | refine then_exit ?_ | refine out_go ?_ | refine out_ret ?_ | refine zA ?_ | refine zB ?_ | refine zw ?_ | refine zx ?_ | refine zy ?_ | refine wd_nil ?_)
  refine wc_loopE (ι := Nat × Int × AV) (fun x => [(2, lv), (3, .sl lid2 0 n 3 cap2), (5, .ptr h.n 0), (6, .ptr h1.n 0), (12, .int .i64 (nI ns (ob os (i : Int)))), (19, x.2.2), (20, .int .i64 x.2.1), (21, .int .i64 ((n : Int) + x.1))])
    (fun x g => Grew h2 g ∧ x.1 ≤ st.length - n ∧ g.n ≤ h2.n + 60 + 16 * (st.length - n - x.1) ∧ ∃ oid L, h2.n ≤ oid ∧ oid < g.n ∧ L ≠ [] ∧ L.length ≤ 1 + (st.length - n - x.1) ∧ Arr g x.2.2 1 (L.map rI) oid ∧ L ++ (raiseE ns os st (nI ns (ob os (i : Int))) n x.1 x.2.1).map (edIx es) = (leaveE ns es os st n i).map (edIx es)) (fun x => x.1) ?_
    (st.length - n, kdIx ns (ob os ((i : Int) - 1)).f 4, _)
    ⟨hg8, Nat.le_refl _, by omega, h7.n, _, by omega, by omega, by simp, by simp, hX, by rw [hl2]; rfl⟩
    (Sub'.cons rfl (Sub'.cons rfl (Sub'.cons rfl (Sub'.cons rfl (Sub'.cons rfl (Sub'.cons rfl (Sub'.cons rfl (Sub'.cons (by simp only [look]; show some _ = some _; congr 2; omega) (Sub'.nil _)))))))))
  rintro ⟨d, a, ov⟩ g ⟨hgg, hd, hgn, oid, L, ho1, ho2, hLn, hLl, hA, hz⟩
  try simp only at hd hgn hLl hA hz ⊢
  clear hb1_6 hb2_6 hN_6 hE_6 hO_6 hgO_6 hL_6 hg_6 hb1_7 hb2_7 hN_7 hE_7 hO_7 hgO_7 hL_7 hg_7 hb1_8 hb2_8 hN_8 hE_8 hO_8 hgO_8 hL_8 hg_8
  clear hX hg6 hg7 hg8 hg7' hg8' hn6 hn7 hn8 hg6l hg7l hg8l hb8
  have hggl := hgg.le
  have hb1_g := (hgg.get h.n (by omega)).trans hb12
  have hb2_g := (hgg.get h1.n (by omega)).trans hb2
  have hg_g := hgA.trans hgg
  have hN_g := hN.grew hg_g
  have hE_g := hE.grew hg_g
  have hO_g := hO.grew hg_g
  have hgO_g := (hgg.get idO (by omega)).trans hgO
  have hL_g := hL.grew hg_g
  cases d with
  | zero =>
    rw [raiseE, List.map_nil, List.append_nil] at hz
    subst hz
    repeat' (first | refine z0 ?_ | refine z1 ?_ | refine z2 ?_ | refine z3 ?_ | refine z6 ?_ | refine z7 ?_ | refine z8 ?_ | refine z9 ?_ | refine za ?_ | refine zb ?_ | refine zc ?_ | refine zd ?_ | refine zf ?_ | refine zg ?_ | refine zh ?_ | refine zi ?_ | refine zj ?_ | refine zl ?_ | (refine zo ?_ ?_ <;> intro hc <;> try (exfalso; omega)) | (refine zp ?_ ?_ <;> intro hc <;> try (exfalso; omega)) | (refine zq ?_ ?_ <;> intro hc <;> try (exfalso; omega)) | refine wg_nil ?_ | refine then_go ?_ | refine wc_seq ?_ | refine wc_reg ?_ | refine wc_dreg ?_ | refine wc_block ?_ | refine zu ?_ | refine zv ?_ | refine wc_skip ?_ | refine wc_exit ?_ | refine wc_ret ?_ | refine then_ret ?_ | refine then_exit ?_ | refine out_go ?_ | refine out_ret ?_ | refine zA ?_ | refine zB ?_ | refine zw ?_ | refine zx ?_ | refine zy ?_ | refine wd_nil ?_)
    exact ⟨Or.inr rfl, _, rfl, hK g ov oid hg_g (by omega) (by omega) (by omega) hA⟩
  | succ d =>
    have hcl := hok.call (n + d) (by omega) (by omega)
    have hrow : (st.map rF)[((n : Int) + ((d + 1 : Nat) : Int) - 1).toNat]? = some [.int .i64 (fr st (n + d)).1, .int .i64 (fr st (n + d)).2, .nils] := by
      have e : ((n : Int) + ((d + 1 : Nat) : Int) - 1).toNat = n + d := by omega
      rw [e]; exact rF_row (by omega)
    obtain ⟨-, -, ⟨vsL, hgL, -⟩, -⟩ := hL_g.full (by omega)
    rw [raiseE, List.map_cons] at hz
    repeat' (first | refine z0 ?_ | refine z1 ?_ | refine z2 ?_ | refine z3 ?_ | refine z6 ?_ | refine z7 ?_ | refine z8 ?_ | refine z9 ?_ | refine za ?_ | refine zb ?_ | refine zc ?_ | refine zd ?_ | refine zf ?_ | refine zg ?_ | refine zh ?_ | refine zi ?_ | refine zj ?_ | refine zl ?_ | (refine zo ?_ ?_ <;> intro hc <;> try (exfalso; omega)) | (refine zp ?_ ?_ <;> intro hc <;> try (exfalso; omega)) | (refine zq ?_ ?_ <;> intro hc <;> try (exfalso; omega)) | refine wg_nil ?_ | refine then_go ?_ | refine wc_seq ?_ | refine wc_reg ?_ | refine wc_dreg ?_ | refine wc_block ?_ | refine zu ?_ | refine zv ?_ | refine wc_skip ?_ | refine wc_exit ?_ | refine wc_ret ?_ | refine then_ret ?_ | refine then_exit ?_ | refine out_go ?_ | refine out_ret ?_ | refine zA ?_ | refine zB ?_ | refine zw ?_ | refine zx ?_ | refine zy ?_ | refine wd_nil ?_)
    refine rd_bs hnt (by omega) (by omega) rfl rfl (by rfl) (by rfl) (by rfl) (ones_ob' (hov _ (by omega) (by omega))) (by decide) (fun g1 g2 k1 k2 => by repeat (first | exact unchF_nil | refine unchF_same ((k1 _ (by omega)).trans (by assumption)) ((k2 _ (by omega)).trans (by assumption)) ?_)) fun k1 hk1n hk1b hk1' => ?_
    clear hgL
    have hk1 := hgg.trans hk1'
    have hk1l := hk1.le
    have hb1_k1 := (hk1.get h.n (by omega)).trans hb12
    have hb2_k1 := (hk1.get h1.n (by omega)).trans hb2
    have hg_k1 := hgA.trans hk1
    have hN_k1 := hN.grew hg_k1
    have hE_k1 := hE.grew hg_k1
    have hO_k1 := hO.grew hg_k1
    have hgO_k1 := (hk1.get idO (by omega)).trans hgO
    have hL_k1 := hL.grew hg_k1
    have hA1 := hA.grew hk1'
    have hsk1 : seen c.vis g.n = true := hcx.new (by omega) (by omega)
    have hso : seen c.vis oid = true := hcx.new (by omega) (by omega)
    refine then_go ?_
    repeat' (first | refine z0 ?_ | refine z1 ?_ | refine z2 ?_ | refine z3 ?_ | refine z6 ?_ | refine z7 ?_ | refine z8 ?_ | refine z9 ?_ | refine za ?_ | refine zb ?_ | refine zc ?_ | refine zd ?_ | refine zf ?_ | refine zg ?_ | refine zh ?_ | refine zi ?_ | refine zj ?_ | refine zl ?_ | (refine zo ?_ ?_ <;> intro hc <;> try (exfalso; omega)) | (refine zp ?_ ?_ <;> intro hc <;> try (exfalso; omega)) | (refine zq ?_ ?_ <;> intro hc <;> try (exfalso; omega)) | refine wg_nil ?_ | refine wc_seq ?_ | refine wc_reg ?_ | refine wc_dreg ?_ | refine wc_block ?_ | refine zu ?_ | refine zv ?_ | refine wc_skip ?_ | refine wc_exit ?_ | refine wc_ret ?_ | refine then_ret ?_ | refine then_exit ?_ | refine out_go ?_ | refine out_ret ?_ | refine zA ?_ | refine zB ?_ | refine zw ?_ | refine zx ?_ | refine zy ?_ | refine wd_nil ?_)
    refine then_go ?_
    refine wc_seqM (ι := Unit) (fun _ => [(2, lv), (3, .sl lid2 0 n 3 cap2), (5, .ptr h.n 0), (6, .ptr h1.n 0), (12, .int .i64 (nI ns (ob os (i : Int)))), (19, ov), (20, .int .i64 a), (21, .int .i64 ((n : Int) + ((d + 1 : Nat) : Int))), (22, .ptr g.n 0), (23, .int .i64 (if 0 < d then kdIx ns (ob os (fr st (n + d)).2).f 4 else nI ns (ob os (i : Int))))]) (fun _ q => Grew k1 q ∧ q.n ≤ k1.n + 3) ?_ ?_
    · by_cases hd0 : 0 < d
      · rw [if_pos hd0]
        repeat' (first | refine z0 ?_ | refine z1 ?_ | refine z2 ?_ | refine z3 ?_ | refine z6 ?_ | refine z7 ?_ | refine z8 ?_ | refine z9 ?_ | refine za ?_ | refine zb ?_ | refine zc ?_ | refine zd ?_ | refine zf ?_ | refine zg ?_ | refine zh ?_ | refine zi ?_ | refine zj ?_ | refine zl ?_ | (refine zo ?_ ?_ <;> intro hc <;> try (exfalso; omega)) | (refine zp ?_ ?_ <;> intro hc <;> try (exfalso; omega)) | (refine zq ?_ ?_ <;> intro hc <;> try (exfalso; omega)) | refine wg_nil ?_ | refine then_go ?_ | refine wc_seq ?_ | refine wc_reg ?_ | refine wc_dreg ?_ | refine wc_block ?_ | refine zu ?_ | refine zv ?_ | refine wc_skip ?_ | refine wc_exit ?_ | refine wc_ret ?_ | refine then_ret ?_ | refine then_exit ?_ | refine out_go ?_ | refine out_ret ?_ | refine zA ?_ | refine zB ?_ | refine zw ?_ | refine zx ?_ | refine zy ?_ | refine wd_nil ?_)
        refine wo_call rfl rfl (Exit_ev (hcx.mono hg_k1.le) hN_k1 (by omega) hsN hl (by omega) fun k2 hk2 hk2n => ?_)
        repeat' (first | refine z0 ?_ | refine z1 ?_ | refine z2 ?_ | refine z3 ?_ | refine z6 ?_ | refine z7 ?_ | refine z8 ?_ | refine z9 ?_ | refine za ?_ | refine zb ?_ | refine zc ?_ | refine zd ?_ | refine zf ?_ | refine zg ?_ | refine zh ?_ | refine zi ?_ | refine zj ?_ | refine zl ?_ | (refine zo ?_ ?_ <;> intro hc <;> try (exfalso; omega)) | (refine zp ?_ ?_ <;> intro hc <;> try (exfalso; omega)) | (refine zq ?_ ?_ <;> intro hc <;> try (exfalso; omega)) | refine wg_nil ?_ | refine then_go ?_ | refine wc_seq ?_ | refine wc_reg ?_ | refine wc_dreg ?_ | refine wc_block ?_ | refine zu ?_ | refine zv ?_ | refine wc_skip ?_ | refine wc_exit ?_ | refine wc_ret ?_ | refine then_ret ?_ | refine then_exit ?_ | refine out_go ?_ | refine out_ret ?_ | refine zA ?_ | refine zB ?_ | refine zw ?_ | refine zx ?_ | refine zy ?_ | refine wd_nil ?_)
        exact ⟨(), (Sub'.cons rfl (Sub'.cons rfl (Sub'.cons rfl (Sub'.cons rfl (Sub'.cons rfl (Sub'.cons rfl (Sub'.cons rfl (Sub'.cons rfl (Sub'.cons rfl (Sub'.cons rfl (Sub'.nil _))))))))))), hk2, hk2n⟩
      · rw [if_neg hd0]
        repeat' (first | refine z0 ?_ | refine z1 ?_ | refine z2 ?_ | refine z3 ?_ | refine z6 ?_ | refine z7 ?_ | refine z8 ?_ | refine z9 ?_ | refine za ?_ | refine zb ?_ | refine zc ?_ | refine zd ?_ | refine zf ?_ | refine zg ?_ | refine zh ?_ | refine zi ?_ | refine zj ?_ | refine zl ?_ | (refine zo ?_ ?_ <;> intro hc <;> try (exfalso; omega)) | (refine zp ?_ ?_ <;> intro hc <;> try (exfalso; omega)) | (refine zq ?_ ?_ <;> intro hc <;> try (exfalso; omega)) | refine wg_nil ?_ | refine then_go ?_ | refine wc_seq ?_ | refine wc_reg ?_ | refine wc_dreg ?_ | refine wc_block ?_ | refine zu ?_ | refine zv ?_ | refine wc_skip ?_ | refine wc_exit ?_ | refine wc_ret ?_ | refine then_ret ?_ | refine then_exit ?_ | refine out_go ?_ | refine out_ret ?_ | refine zA ?_ | refine zB ?_ | refine zw ?_ | refine zx ?_ | refine zy ?_ | refine wd_nil ?_)
        exact ⟨(), (Sub'.cons rfl (Sub'.cons rfl (Sub'.cons rfl (Sub'.cons rfl (Sub'.cons rfl (Sub'.cons rfl (Sub'.cons rfl (Sub'.cons rfl (Sub'.cons rfl (Sub'.cons rfl (Sub'.nil _))))))))))), Grew.refl _, by omega⟩
    generalize (if 0 < d then kdIx ns (ob os (fr st (n + d)).2).f 4 else nI ns (ob os (i : Int))) = nx at hz ⊢
    rintro _ k2 ⟨hk2', hk2n⟩
    have hk2 := hk1.trans hk2'
    have hk2m := hk2'.le
    have hk2l := hk2.le
    have hb1_k2 := (hk2.get h.n (by omega)).trans hb12
    have hb2_k2 := (hk2.get h1.n (by omega)).trans hb2
    have hg_k2 := hgA.trans hk2
    have hN_k2 := hN.grew hg_k2
    have hE_k2 := hE.grew hg_k2
    have hO_k2 := hO.grew hg_k2
    have hgO_k2 := (hk2.get idO (by omega)).trans hgO
    have hL_k2 := hL.grew hg_k2
    clear hb1_k1 hb2_k1 hN_k1 hE_k1 hO_k1 hgO_k1 hL_k1 hg_k1
    have hA2 := hA1.grew hk2'
    have hk2b := (hk2'.get g.n (by omega)).trans hk1b
    repeat' (first | refine z0 ?_ | refine z1 ?_ | refine z2 ?_ | refine z3 ?_ | refine z6 ?_ | refine z7 ?_ | refine z8 ?_ | refine z9 ?_ | refine za ?_ | refine zb ?_ | refine zc ?_ | refine zd ?_ | refine zf ?_ | refine zg ?_ | refine zh ?_ | refine zi ?_ | refine zj ?_ | refine zl ?_ | (refine zo ?_ ?_ <;> intro hc <;> try (exfalso; omega)) | (refine zp ?_ ?_ <;> intro hc <;> try (exfalso; omega)) | (refine zq ?_ ?_ <;> intro hc <;> try (exfalso; omega)) | refine wg_nil ?_ | refine then_go ?_ | refine wc_seq ?_ | refine wc_reg ?_ | refine wc_dreg ?_ | refine wc_block ?_ | refine zu ?_ | refine zv ?_ | refine wc_skip ?_ | refine wc_exit ?_ | refine wc_ret ?_ | refine then_ret ?_ | refine then_exit ?_ | refine out_go ?_ | refine out_ret ?_ | refine zA ?_ | refine zB ?_ | refine zw ?_ | refine zx ?_ | refine zy ?_ | refine wd_nil ?_)
    refine rd_bar hnt rfl rfl (wo_call rfl rfl (node_ev (o := ob os (fr st (n + d)).2) (Cx.mem (by omega)) hN_k2 (by omega) (seen_old (by repeat (first | exact rs_nil | refine rs_add (by omega) ?_)) (by omega) (by omega) (by assumption)) hl (by omega) fun k3 hk3' hk3n => ⟨(by repeat (first | exact unchF_nil | refine unchF_cons (by decide) ?_ | refine unchF_same (by assumption) ((hk3'.get _ (by omega)).trans (by assumption)) ?_)), ?_⟩))
    have hk3 := hk2.trans hk3'
    have hk3m := hk3'.le
    have hk3l := hk3.le
    have hb1_k3 := (hk3.get h.n (by omega)).trans hb12
    have hb2_k3 := (hk3.get h1.n (by omega)).trans hb2
    have hg_k3 := hgA.trans hk3
    have hN_k3 := hN.grew hg_k3
    have hE_k3 := hE.grew hg_k3
    have hO_k3 := hO.grew hg_k3
    have hgO_k3 := (hk3.get idO (by omega)).trans hgO
    have hL_k3 := hL.grew hg_k3
    have hA3 := hA2.grew hk3'
    repeat' (first | refine z0 ?_ | refine z1 ?_ | refine z2 ?_ | refine z3 ?_ | refine z6 ?_ | refine z7 ?_ | refine z8 ?_ | refine z9 ?_ | refine za ?_ | refine zb ?_ | refine zc ?_ | refine zd ?_ | refine zf ?_ | refine zg ?_ | refine zh ?_ | refine zi ?_ | refine zj ?_ | refine zl ?_ | (refine zo ?_ ?_ <;> intro hc <;> try (exfalso; omega)) | (refine zp ?_ ?_ <;> intro hc <;> try (exfalso; omega)) | (refine zq ?_ ?_ <;> intro hc <;> try (exfalso; omega)) | refine wg_nil ?_ | refine then_go ?_ | refine wc_seq ?_ | refine wc_reg ?_ | refine wc_dreg ?_ | refine wc_block ?_ | refine zu ?_ | refine zv ?_ | refine wc_skip ?_ | refine wc_exit ?_ | refine wc_ret ?_ | refine then_ret ?_ | refine then_exit ?_ | refine out_go ?_ | refine out_ret ?_ | refine zA ?_ | refine zB ?_ | refine zw ?_ | refine zx ?_ | refine zy ?_ | refine wd_nil ?_)
    refine rd_bar hnt rfl rfl (wo_call rfl rfl (edge_ev (n := ⟨a, nx, 4, nI ns (ob os (fr st (n + d)).2)⟩) (Cx.mem (by omega)) hE_k3 (by omega) (seen_old (by repeat (first | exact rs_nil | refine rs_add (by omega) ?_)) (by omega) (by omega) (by assumption)) hle (by omega) fun k4 hk4' hk4n => ⟨(by repeat (first | exact unchF_nil | refine unchF_cons (by decide) ?_)), ?_⟩))
    have hk4 := hk3.trans hk4'
    have hk4m := hk4'.le
    have hk4l := hk4.le
    have hb1_k4 := (hk4.get h.n (by omega)).trans hb12
    have hb2_k4 := (hk4.get h1.n (by omega)).trans hb2
    have hg_k4 := hgA.trans hk4
    have hN_k4 := hN.grew hg_k4
    have hE_k4 := hE.grew hg_k4
    have hO_k4 := hO.grew hg_k4
    have hgO_k4 := (hk4.get idO (by omega)).trans hgO
    have hL_k4 := hL.grew hg_k4
    have hA4 := hA3.grew hk4'
    repeat' (first | refine z0 ?_ | refine z1 ?_ | refine z2 ?_ | refine z3 ?_ | refine z6 ?_ | refine z7 ?_ | refine z8 ?_ | refine z9 ?_ | refine za ?_ | refine zb ?_ | refine zc ?_ | refine zd ?_ | refine zf ?_ | refine zg ?_ | refine zh ?_ | refine zi ?_ | refine zj ?_ | refine zl ?_ | (refine zo ?_ ?_ <;> intro hc <;> try (exfalso; omega)) | (refine zp ?_ ?_ <;> intro hc <;> try (exfalso; omega)) | (refine zq ?_ ?_ <;> intro hc <;> try (exfalso; omega)) | refine wg_nil ?_ | refine then_go ?_ | refine wc_seq ?_ | refine wc_reg ?_ | refine wc_dreg ?_ | refine wc_block ?_ | refine zu ?_ | refine zv ?_ | refine wc_skip ?_ | refine wc_exit ?_ | refine wc_ret ?_ | refine then_ret ?_ | refine then_exit ?_ | refine out_go ?_ | refine out_ret ?_ | refine zA ?_ | refine zB ?_ | refine zw ?_ | refine zx ?_ | refine zy ?_ | refine wd_nil ?_)
    refine wo_bsliceA rfl (by omega) fun k5 hk5n hk5b hk5' => ?_
    have hk5 := hk4.trans hk5'
    have hA5 := hA4.grew hk5'
    have hX5 : Arr k5 (.sl k4.n 0 1 1 (some 1)) 1 ([edIx es ⟨a, nx, 4, nI ns (ob os (fr st (n + d)).2)⟩].map rI) k4.n := Arr.mkN rfl (by omega) (by omega) hk5b rfl (by simp [rI])
    refine rd_bar hnt rfl rfl (wo_appArr rfl rfl hA5 (Or.inl (by simpa using hLn)) hX5 (by simp) (by repeat (first | exact seen_hit (by decide) (by omega) (by omega) (by omega) | refine seen_skip (by omega) ?_ (by omega))) (by rfl) (fun _ => ⟨(seen_old (by repeat (first | exact rs_nil | refine rs_add (by omega) ?_)) (by omega) (by omega) (by assumption)), by show c.floor ≤ _; omega⟩) (by simp; omega) (by omega) fun k6 ov6 hA6 hk6n hk6 => ⟨(by repeat (first | exact unchF_nil | refine unchF_cons (by decide) ?_)), ?_⟩)
    rw [← List.map_append] at hA6
    have hk6' : Grew h2 k6 := ⟨by omega, fun id q => (hk6 id (by omega) (fun _ => by omega)).trans (hk5.get id q)⟩
    repeat' (first | refine z0 ?_ | refine z1 ?_ | refine z2 ?_ | refine z3 ?_ | refine z6 ?_ | refine z7 ?_ | refine z8 ?_ | refine z9 ?_ | refine za ?_ | refine zb ?_ | refine zc ?_ | refine zd ?_ | refine zf ?_ | refine zg ?_ | refine zh ?_ | refine zi ?_ | refine zj ?_ | refine zl ?_ | (refine zo ?_ ?_ <;> intro hc <;> try (exfalso; omega)) | (refine zp ?_ ?_ <;> intro hc <;> try (exfalso; omega)) | (refine zq ?_ ?_ <;> intro hc <;> try (exfalso; omega)) | refine wg_nil ?_ | refine then_go ?_ | refine wc_seq ?_ | refine wc_reg ?_ | refine wc_dreg ?_ | refine wc_block ?_ | refine zu ?_ | refine zv ?_ | refine wc_skip ?_ | refine wc_exit ?_ | refine wc_ret ?_ | refine then_ret ?_ | refine then_exit ?_ | refine out_go ?_ | refine out_ret ?_ | refine zA ?_ | refine zB ?_ | refine zw ?_ | refine zx ?_ | refine zy ?_ | refine wd_nil ?_)
    exact ⟨(d, nx, ov6), by simp, Sub'.cons rfl (Sub'.cons rfl (Sub'.cons rfl (Sub'.cons rfl (Sub'.cons rfl (Sub'.cons rfl (Sub'.cons rfl (Sub'.cons (by simp only [look]; show some _ = some _; congr 2; omega) (Sub'.nil _)))))))), hk6', by simp only; omega, by simp only; omega, k5.n, _, by omega, by omega, by simp, by simp only [List.length_append, List.length_singleton]; omega, hA6, by simpa using hz⟩
end Go.Proofs.YtlocnfaeiacphaaGreatDoor.Ev
