/- Contracts of the reference: Path. -/
import Derived.Test.YtlocnfaeiacphaaGreatDoorSyH
import Derived.Test.YtlocnfaeiacphaaGreatDoorCpG
import Derived.Test.YtlocnfaeiacphaaGreatDoorCpJ
import Derived.KernelRfl
set_option linter.unusedVariables false
set_option linter.unusedSimpArgs false
set_option maxHeartbeats 4000000
namespace Go.Proofs.YtlocnfaeiacphaaGreatDoor.Ev
open Go

variable {c : C} {h : H} {nsv esv obv env_ : AV} {ns : List Nd} {es : List Ed} {os : List Ob} {idN idE idO lid : Nat} {mn : Int} {K : AV → H → Prop} {lv : AV} {st : List Fr}
set_option maxRecDepth 20000
set_option maxHeartbeats 40000000
theorem stepE_okR {p : List Fr × List Ed} {i : Nat} (hok : OkSt st i) (h : stepE ns es os st i = some p) : OkSt p.1 (i + 1) := by
  unfold stepE at h
  by_cases h1 : (ob os (i : Int)).c = (i : Int) - 1
  · rw [if_pos h1] at h; cases h
    exact hok.push _
  · rw [if_neg h1] at h
    by_cases h2 : frN st ((ob os (i : Int)).fr, (ob os (i : Int)).c) st.length = 0
    · rw [if_pos h2] at h; cases h
    · rw [if_neg h2] at h
      by_cases h3 : frN st ((ob os (i : Int)).fr, (ob os (i : Int)).c) st.length = st.length
      · rw [if_pos h3] at h; cases h
        exact hok.next
      · rw [if_neg h3] at h; cases h
        exact hok.take (by omega) (frN_le _ _ _)
theorem raise_lenR (to : Int) (n : Nat) : ∀ (d : Nat) (a : Int), (raiseE ns os st to n d a).length = d
  | 0, a => rfl
  | d + 1, a => by rw [raiseE, List.length_cons, raise_lenR]
theorem leaveE_len (n : Nat) (i : Int) : 0 < (leaveE ns es os st n i).length ∧ (leaveE ns es os st n i).length ≤ st.length + 2 := by
  unfold leaveE
  split
  · simp
  · rw [List.length_cons, raise_lenR]; omega
theorem pathR_bad (h : errR ns es mn ≠ 0) : pathR ns es os mn = ([], errR ns es mn) := by unfold pathR; rw [if_pos h]
theorem pathR_nil (h : errR ns es mn = 0) (h2 : os.length = 0) : pathR ns es os mn = ([], 0) := by unfold pathR; rw [if_neg (by simpa using h), if_pos h2]
theorem pathR_go (h : errR ns es mn = 0) (h2 : os.length ≠ 0) : pathR ns es os mn = if badO ns os mn then ([], 20) else ends (onlyOk (goR ns es os (os.length - 1) 1 [(0, -1)] [edIx es (first_ ns es os mn)])) := by
  unfold pathR; rw [if_neg (by simpa using h), if_neg h2]
theorem errR_main (h : errR ns es mn = 0) : 0 ≤ mn ∧ mn < ns.length := by
  unfold errR at h
  by_cases h1 : errNs ns mn ≠ 0
  · rw [if_pos h1] at h; exact absurd h h1
  · have h2 : errNs ns mn = 0 := by simpa using h1
    unfold errNs at h2
    by_cases h3 : errN ns 0 ≠ 0
    · rw [if_pos h3] at h2; exact absurd h2 h3
    · rw [if_neg h3] at h2
      by_cases h4 : threeR ns = false
      · rw [if_pos h4] at h2; omega
      · rw [if_neg h4] at h2
        by_cases h5 : mn < 0 ∨ (ns.length : Int) ≤ mn ∨ (nd ns mn).k ≠ 1
        · rw [if_pos h5] at h2; omega
        · omega
theorem okL_drop {l : List Int} {j : Nat} (h : j < l.length) : okL (l.drop j) = (decide (0 ≤ iv l j) && okL (l.drop (j + 1))) := by
  have e : iv l j = l[j] := by simp [iv, h]
  rw [List.drop_eq_getElem_cons h, e]
  simp only [okL, List.all_cons]
theorem RPath_ev (hcx : Cx c h) (hN : Arr h nsv 3 (ns.map Nd.row) idN) (hE : Arr h esv 4 (es.map Ed.row) idE) (hO : Arr h obv 5 (os.map Ob.row) idO) (hidN : idN < h.n) (hidE : idE < h.n) (hidO : idO < h.n) (hsN : seen c.vis idN = true) (hsE : seen c.vis idE = true) (hsO : seen c.vis idO = true) (hl : ns.length ≤ 100) (hle : es.length ≤ 100) (hlo : os.length ≤ 100) (hov : ∀ x : Int, 0 ≤ x → x < os.length → one (ob os x).v = true) (hn : h.n < 5000000)
    (hK : ∀ h' ov oid, Grew h h' → h'.n ≤ h.n + 300000 → ((pathR ns es os mn).1 ≠ [] → h.n ≤ oid ∧ oid < h'.n) → Arr h' ov 1 ((pathR ns es os mn).1.map rI) oid → K (.tup [ov, .int .i64 (pathR ns es os mn).2]) h') :
    Gv Tryz.prog X0 Mx c 6 [.agg [nsv, esv, .int .i64 mn], .agg [env_, obv]] h K := by
  have hnt : (163 : Nat) ≤ 1000000 := by decide
  have hlN : (ns.map Nd.row).length = ns.length := List.length_map ..
  have hlO : (os.map Ob.row).length = os.length := List.length_map ..
  have hlow := hcx.low
  have hKn : ∀ {v : Int}, pathR ns es os mn = ([], v) → ∀ h', Grew h h' → h'.n ≤ h.n + 300000 → K (.tup [.nils, .int .i64 v]) h' := fun q h' g1 g3 => by
    have := hK h' .nils 0 g1 g3
    rw [q] at this
    exact this (fun q => absurd rfl q) ⟨Or.inl ⟨rfl, Or.inl rfl⟩⟩
  refine gv_fn x_RPath (MK_other rfl _ _ _) (by simp) hnt ?_
  unfold s_RPath
  refine wc_seq (wc_reg (rg_go hnt rfl rfl (wo_boxA rfl rfl (by omega) fun h1 hn1 hb1 hgr => ?_)))
  refine rg_go hnt rfl rfl (wo_boxA rfl rfl (by omega) fun h2 hn2 hb2 hgr2 => ?_)
  have hb12 := (hgr2.get h.n (by omega)).trans hb1
  have hsb : seen c.vis h.n = true := hcx.new (Nat.le_refl _) (by omega)
  have hsb2 : seen c.vis h1.n = true := hcx.new (by omega) (by omega)
  have hgA := hgr.trans hgr2
  have hN2 := hN.grew hgA
  have hE2 := hE.grew hgA
  repeat' (first | refine z0 ?_ | refine z1 ?_ | refine z2 ?_ | refine z3 ?_ | refine z6 ?_ | refine z7 ?_ | refine z8 ?_ | refine z9 ?_ | refine za ?_ | refine zb ?_ | refine zc ?_ | refine zd ?_ | refine ze ?_ | refine zf ?_ | refine zg ?_ | refine zh ?_ | refine zi ?_ | refine zj ?_ | refine zk ?_ | refine zl ?_ | (refine zm ?_ ?_ <;> intro hc <;> try (exfalso; omega)) | (refine zo ?_ ?_ <;> intro hc <;> try (exfalso; omega)) | (refine zq ?_ ?_ <;> intro hc <;> try (exfalso; omega)) | refine wg_nil ?_ | refine then_go ?_ | refine wc_seq ?_ | refine wc_reg ?_ | refine wc_dreg ?_ | refine wc_block ?_ | refine zu ?_ | refine zv ?_ | refine wc_skip ?_ | refine wc_exit ?_ | refine wc_ret ?_ | refine then_ret ?_ | refine then_exit ?_ | refine out_go ?_ | refine out_ret ?_ | refine zA ?_ | refine zB ?_ | refine zw ?_ | refine zx ?_ | refine zy ?_ | refine wd_nil ?_)
  refine wo_call rfl rfl (RCheck_ev (hcx.mono hgA.le) hN2 hE2 (by omega) (by omega) hsN hsE hl hle (by omega) fun h3 hg3 hn3 => ?_)
  have hg3l := hg3.le
  have hb13 := (hg3.get h.n (by omega)).trans hb12
  have hb23 := (hg3.get h1.n (by omega)).trans hb2
  have hgB := hgA.trans hg3
  have hO3 := hO.grew hgB
  by_cases herr : errR ns es mn = 0
  case neg =>
    repeat' (first | refine z0 ?_ | refine z1 ?_ | refine z2 ?_ | refine z3 ?_ | refine z6 ?_ | refine z7 ?_ | refine z8 ?_ | refine z9 ?_ | refine za ?_ | refine zb ?_ | refine zc ?_ | refine zd ?_ | refine ze ?_ | refine zf ?_ | refine zg ?_ | refine zh ?_ | refine zi ?_ | refine zj ?_ | refine zk ?_ | refine zl ?_ | (refine zm ?_ ?_ <;> intro hc <;> try (exfalso; omega)) | (refine zo ?_ ?_ <;> intro hc <;> try (exfalso; omega)) | (refine zq ?_ ?_ <;> intro hc <;> try (exfalso; omega)) | refine wg_nil ?_ | refine then_go ?_ | refine wc_seq ?_ | refine wc_reg ?_ | refine wc_dreg ?_ | refine wc_block ?_ | refine zu ?_ | refine zv ?_ | refine wc_skip ?_ | refine wc_exit ?_ | refine wc_ret ?_ | refine then_ret ?_ | refine then_exit ?_ | refine out_go ?_ | refine out_ret ?_ | refine zA ?_ | refine zB ?_ | refine zw ?_ | refine zx ?_ | refine zy ?_ | refine wd_nil ?_)
    all_goals first
      | exact ⟨Or.inr rfl, _, rfl, hKn (pathR_bad herr) _ hgB (by omega)⟩
      | exact absurd (by assumption) herr
  obtain ⟨hm0, hm1⟩ := errR_main herr
  by_cases ho0 : os.length = 0
  · repeat' (first | refine z0 ?_ | refine z1 ?_ | refine z2 ?_ | refine z3 ?_ | refine z6 ?_ | refine z7 ?_ | refine z8 ?_ | refine z9 ?_ | refine za ?_ | refine zb ?_ | refine zc ?_ | refine zd ?_ | refine ze ?_ | refine zf ?_ | refine zg ?_ | refine zh ?_ | refine zi ?_ | refine zj ?_ | refine zk ?_ | refine zl ?_ | (refine zm ?_ ?_ <;> intro hc <;> try (exfalso; omega)) | (refine zo ?_ ?_ <;> intro hc <;> try (exfalso; omega)) | (refine zq ?_ ?_ <;> intro hc <;> try (exfalso; omega)) | refine wg_nil ?_ | refine then_go ?_ | refine wc_seq ?_ | refine wc_reg ?_ | refine wc_dreg ?_ | refine wc_block ?_ | refine zu ?_ | refine zv ?_ | refine wc_skip ?_ | refine wc_exit ?_ | refine wc_ret ?_ | refine then_ret ?_ | refine then_exit ?_ | refine out_go ?_ | refine out_ret ?_ | refine zA ?_ | refine zB ?_ | refine zw ?_ | refine zx ?_ | refine zy ?_ | refine wd_nil ?_)
    all_goals first
      | exact absurd herr (by assumption)
      | exact ⟨Or.inr rfl, _, rfl, hKn (pathR_nil herr ho0) _ hgB (by omega)⟩
  have hgo := pathR_go (os := os) herr ho0
  repeat' (first | refine z0 ?_ | refine z1 ?_ | refine z2 ?_ | refine z3 ?_ | refine z6 ?_ | refine z7 ?_ | refine z8 ?_ | refine z9 ?_ | refine za ?_ | refine zb ?_ | refine zc ?_ | refine zd ?_ | refine ze ?_ | refine zf ?_ | refine zg ?_ | refine zh ?_ | refine zi ?_ | refine zj ?_ | refine zk ?_ | refine zl ?_ | (refine zm ?_ ?_ <;> intro hc <;> try (exfalso; omega)) | (refine zo ?_ ?_ <;> intro hc <;> try (exfalso; omega)) | (refine zq ?_ ?_ <;> intro hc <;> try (exfalso; omega)) | refine wg_nil ?_ | refine then_go ?_ | refine wc_seq ?_ | refine wc_reg ?_ | refine wc_dreg ?_ | refine wc_block ?_ | refine zu ?_ | refine zv ?_ | refine wc_skip ?_ | refine wc_exit ?_ | refine wc_ret ?_ | refine then_ret ?_ | refine then_exit ?_ | refine out_go ?_ | refine out_ret ?_ | refine zA ?_ | refine zB ?_ | refine zw ?_ | refine zx ?_ | refine zy ?_ | refine wd_nil ?_)
  all_goals first
    | exact absurd herr (by assumption)
    | skip
  refine rg_bs hnt (hcx.mono hgB.le) (by omega) rfl rfl (by rfl) (by rfl) (by rfl) (ones_ob' (hov _ (by omega) (by omega))) fun h4 hn4 hb4 hg4 => ?_
  have hgD := hgB.trans hg4
  have hb14 := (hg4.get h.n (by omega)).trans hb13
  have hb24 := (hg4.get h1.n (by omega)).trans hb23
  have hN4 := hN.grew hgD
  have hE4 := hE.grew hgD
  have hO4 := hO.grew hgD
  have hsb4 : seen c.vis h3.n = true := hcx.new (by omega) (by omega)
  obtain ⟨-, -, ⟨vsO, hgO, -⟩, -⟩ := hO4.full (by omega)
  refine wg_nil (then_go ?_)
  refine wc_seqM (ι := Unit) (fun _ => [(2, .ptr h.n 0), (3, .ptr h1.n 0), (7, .ptr h3.n 0)]) (fun _ g => h4 = g ∧ ¬ badO ns os mn) ?_ ?_
  · repeat' (first | refine z0 ?_ | refine z1 ?_ | refine z2 ?_ | refine z3 ?_ | refine z6 ?_ | refine z7 ?_ | refine z8 ?_ | refine z9 ?_ | refine za ?_ | refine zb ?_ | refine zc ?_ | refine zd ?_ | refine ze ?_ | refine zf ?_ | refine zg ?_ | refine zh ?_ | refine zi ?_ | refine zj ?_ | refine zk ?_ | refine zl ?_ | (refine zm ?_ ?_ <;> intro hc <;> try (exfalso; omega)) | (refine zo ?_ ?_ <;> intro hc <;> try (exfalso; omega)) | (refine zq ?_ ?_ <;> intro hc <;> try (exfalso; omega)) | refine wg_nil ?_ | refine then_go ?_ | refine wc_seq ?_ | refine wc_reg ?_ | refine wc_dreg ?_ | refine wc_block ?_ | refine zu ?_ | refine zv ?_ | refine wc_skip ?_ | refine wc_exit ?_ | refine wc_ret ?_ | refine then_ret ?_ | refine then_exit ?_ | refine out_go ?_ | refine out_ret ?_ | refine zA ?_ | refine zB ?_ | refine zw ?_ | refine zx ?_ | refine zy ?_ | refine wd_nil ?_)
    all_goals first
      | (have hb : badO ns os mn := by (unfold badO; omega)
         exact ⟨Or.inr rfl, _, rfl, hKn (by rw [hgo, if_pos hb]) _ hgD (by omega)⟩)
      | exact ⟨(), (Sub'.cons rfl (Sub'.cons rfl (Sub'.cons rfl (Sub'.nil _)))), rfl, by (unfold badO; omega)⟩
  rintro _ _ ⟨rfl, hnb⟩
  rw [if_neg hnb] at hgo
  repeat' (first | refine z0 ?_ | refine z1 ?_ | refine z2 ?_ | refine z3 ?_ | refine z6 ?_ | refine z7 ?_ | refine z8 ?_ | refine z9 ?_ | refine za ?_ | refine zb ?_ | refine zc ?_ | refine zd ?_ | refine ze ?_ | refine zf ?_ | refine zg ?_ | refine zh ?_ | refine zi ?_ | refine zj ?_ | refine zk ?_ | refine zl ?_ | (refine zm ?_ ?_ <;> intro hc <;> try (exfalso; omega)) | (refine zo ?_ ?_ <;> intro hc <;> try (exfalso; omega)) | (refine zq ?_ ?_ <;> intro hc <;> try (exfalso; omega)) | refine wg_nil ?_ | refine wc_seq ?_ | refine wc_reg ?_ | refine wc_dreg ?_ | refine wc_block ?_ | refine zu ?_ | refine zv ?_ | refine wc_skip ?_ | refine wc_exit ?_ | refine wc_ret ?_ | refine then_ret ?_ | refine then_exit ?_ | refine out_go ?_ | refine out_ret ?_ | refine zA ?_ | refine zB ?_ | refine zw ?_ | refine zx ?_ | refine zy ?_ | refine wd_nil ?_)
  refine rd_bar hnt rfl rfl (wo_call rfl rfl (node_ev (o := ob os 0) (Cx.mem (by omega)) hN4 (by omega) (seen_old (by repeat (first | exact rs_nil | refine rs_add (by first | exact Nat.le_refl _ | omega) ?_)) (by omega) (by omega) (by assumption)) hl (by omega) fun k1 hk1 hk1n => ⟨(by repeat (first | exact unchF_nil | refine unchF_cons (by decide) ?_ | refine unchF_same (by assumption) ((hk1.get _ (by omega)).trans (by assumption)) ?_)), ?_⟩))
  have hk1l := hk1.le
  have hb1_k1 := (hk1.get h.n (by omega)).trans hb14
  have hb2_k1 := (hk1.get h1.n (by omega)).trans hb24
  have hg_k1 := hgD.trans hk1
  have hN_k1 := hN.grew hg_k1
  have hE_k1 := hE.grew hg_k1
  have hO_k1 := hO.grew hg_k1
  have hgO_k1 := (hk1.get idO (by omega)).trans hgO
  repeat' (first | refine z0 ?_ | refine z1 ?_ | refine z2 ?_ | refine z3 ?_ | refine z6 ?_ | refine z7 ?_ | refine z8 ?_ | refine z9 ?_ | refine za ?_ | refine zb ?_ | refine zc ?_ | refine zd ?_ | refine ze ?_ | refine zf ?_ | refine zg ?_ | refine zh ?_ | refine zi ?_ | refine zj ?_ | refine zk ?_ | refine zl ?_ | (refine zm ?_ ?_ <;> intro hc <;> try (exfalso; omega)) | (refine zo ?_ ?_ <;> intro hc <;> try (exfalso; omega)) | (refine zq ?_ ?_ <;> intro hc <;> try (exfalso; omega)) | refine wg_nil ?_ | refine wc_seq ?_ | refine wc_reg ?_ | refine wc_dreg ?_ | refine wc_block ?_ | refine zu ?_ | refine zv ?_ | refine wc_skip ?_ | refine wc_exit ?_ | refine wc_ret ?_ | refine then_ret ?_ | refine then_exit ?_ | refine out_go ?_ | refine out_ret ?_ | refine zA ?_ | refine zB ?_ | refine zw ?_ | refine zx ?_ | refine zy ?_ | refine wd_nil ?_)
  refine rd_bar hnt rfl rfl (wo_call rfl rfl (edge_ev (n := first_ ns es os mn) (Cx.mem (by omega)) hE_k1 (by omega) (seen_old (by repeat (first | exact rs_nil | refine rs_add (by first | exact Nat.le_refl _ | omega) ?_)) (by omega) (by omega) (by assumption)) hle (by omega) fun k2 hk2' hk2n => ⟨(by repeat (first | exact unchF_nil | refine unchF_cons (by decide) ?_)), ?_⟩))
  have hk2 := hk1.trans hk2'
  have hk2l := hk2.le
  have hb1_k2 := (hk2.get h.n (by omega)).trans hb14
  have hb2_k2 := (hk2.get h1.n (by omega)).trans hb24
  have hg_k2 := hgD.trans hk2
  have hN_k2 := hN.grew hg_k2
  have hE_k2 := hE.grew hg_k2
  have hO_k2 := hO.grew hg_k2
  have hgO_k2 := (hk2.get idO (by omega)).trans hgO
  repeat' (first | refine z0 ?_ | refine z1 ?_ | refine z2 ?_ | refine z3 ?_ | refine z6 ?_ | refine z7 ?_ | refine z8 ?_ | refine z9 ?_ | refine za ?_ | refine zb ?_ | refine zc ?_ | refine zd ?_ | refine ze ?_ | refine zf ?_ | refine zg ?_ | refine zh ?_ | refine zi ?_ | refine zj ?_ | refine zk ?_ | refine zl ?_ | (refine zm ?_ ?_ <;> intro hc <;> try (exfalso; omega)) | (refine zo ?_ ?_ <;> intro hc <;> try (exfalso; omega)) | (refine zq ?_ ?_ <;> intro hc <;> try (exfalso; omega)) | refine wg_nil ?_ | refine wc_seq ?_ | refine wc_reg ?_ | refine wc_dreg ?_ | refine wc_block ?_ | refine zu ?_ | refine zv ?_ | refine wc_skip ?_ | refine wc_exit ?_ | refine wc_ret ?_ | refine then_ret ?_ | refine then_exit ?_ | refine out_go ?_ | refine out_ret ?_ | refine zA ?_ | refine zB ?_ | refine zw ?_ | refine zx ?_ | refine zy ?_ | refine wd_nil ?_)
  refine wo_bsliceA rfl (by omega) fun k3 hk3n hk3b hk3' => ?_
  have hk3 := hk2.trans hk3'
  have hk3l := hk3.le
  have hb1_k3 := (hk3.get h.n (by omega)).trans hb14
  have hb2_k3 := (hk3.get h1.n (by omega)).trans hb24
  have hg_k3 := hgD.trans hk3
  have hN_k3 := hN.grew hg_k3
  have hE_k3 := hE.grew hg_k3
  have hO_k3 := hO.grew hg_k3
  have hgO_k3 := (hk3.get idO (by omega)).trans hgO
  have hX : Arr k3 (.sl k2.n 0 1 1 (some 1)) 1 ([edIx es (first_ ns es os mn)].map rI) k2.n := Arr.mkN rfl (by omega) (by omega) hk3b rfl (by simp [rI])
  repeat' (first | refine z0 ?_ | refine z1 ?_ | refine z2 ?_ | refine z3 ?_ | refine z6 ?_ | refine z7 ?_ | refine z8 ?_ | refine z9 ?_ | refine za ?_ | refine zb ?_ | refine zc ?_ | refine zd ?_ | refine ze ?_ | refine zf ?_ | refine zg ?_ | refine zh ?_ | refine zi ?_ | refine zj ?_ | refine zk ?_ | refine zl ?_ | (refine zm ?_ ?_ <;> intro hc <;> try (exfalso; omega)) | (refine zo ?_ ?_ <;> intro hc <;> try (exfalso; omega)) | (refine zq ?_ ?_ <;> intro hc <;> try (exfalso; omega)) | refine wg_nil ?_ | refine then_go ?_ | refine wc_seq ?_ | refine wc_reg ?_ | refine wc_dreg ?_ | refine wc_block ?_ | refine zu ?_ | refine zv ?_ | refine wc_skip ?_ | refine wc_exit ?_ | refine wc_ret ?_ | refine then_ret ?_ | refine then_exit ?_ | refine out_go ?_ | refine out_ret ?_ | refine zA ?_ | refine zB ?_ | refine zw ?_ | refine zx ?_ | refine zy ?_ | refine wd_nil ?_)
  refine wo_bsliceA rfl (by omega) fun k4 hk4n hk4b hk4' => ?_
  have hk4 := hk3.trans hk4'
  have hk4l := hk4.le
  have hb1_k4 := (hk4.get h.n (by omega)).trans hb14
  have hb2_k4 := (hk4.get h1.n (by omega)).trans hb24
  have hg_k4 := hgD.trans hk4
  have hN_k4 := hN.grew hg_k4
  have hE_k4 := hE.grew hg_k4
  have hO_k4 := hO.grew hg_k4
  have hgO_k4 := (hk4.get idO (by omega)).trans hgO
  have hX4 := hX.grew hk4'
  have hL4 : Arr k4 (.sl k3.n 0 1 3 (some 1)) 3 ([((0 : Int), (-1 : Int))].map rF) k3.n := Arr.mkN rfl (by omega) (by omega) hk4b rfl (by simp [rF])
  repeat' (first | refine z0 ?_ | refine z1 ?_ | refine z2 ?_ | refine z3 ?_ | refine z6 ?_ | refine z7 ?_ | refine z8 ?_ | refine z9 ?_ | refine za ?_ | refine zb ?_ | refine zc ?_ | refine zd ?_ | refine ze ?_ | refine zf ?_ | refine zg ?_ | refine zh ?_ | refine zi ?_ | refine zj ?_ | refine zk ?_ | refine zl ?_ | (refine zm ?_ ?_ <;> intro hc <;> try (exfalso; omega)) | (refine zo ?_ ?_ <;> intro hc <;> try (exfalso; omega)) | (refine zq ?_ ?_ <;> intro hc <;> try (exfalso; omega)) | refine wg_nil ?_ | refine then_go ?_ | refine wc_seq ?_ | refine wc_reg ?_ | refine wc_dreg ?_ | refine wc_block ?_ | refine zu ?_ | refine zv ?_ | refine wc_skip ?_ | refine wc_exit ?_ | refine wc_ret ?_ | refine then_ret ?_ | refine then_exit ?_ | refine out_go ?_ | refine out_ret ?_ | refine zA ?_ | refine zB ?_ | refine zw ?_ | refine zx ?_ | refine zy ?_ | refine wd_nil ?_)
  refine wc_loopE (ι := Nat × AV × AV) (fun x => [(2, .ptr h.n 0), (3, .ptr h1.n 0), (8, x.2.1), (9, x.2.2), (10, .int .i64 (x.1 : Int))])
    (fun x g => Grew h4 g ∧ g.n ≤ h4.n + 20 + 2100 * x.1 ∧ 1 ≤ x.1 ∧ x.1 ≤ os.length ∧ ∃ oid lid st out, h4.n ≤ oid ∧ oid < g.n ∧ h4.n ≤ lid ∧ lid < g.n ∧ oid ≠ lid ∧ OkSt st x.1 ∧ out ≠ [] ∧ out.length ≤ 300 * x.1 ∧ Arr g x.2.2 3 (st.map rF) lid ∧ Arr g x.2.1 1 (out.map rI) oid ∧ goR ns es os (os.length - 1) 1 [(0, -1)] [edIx es (first_ ns es os mn)] = goR ns es os (os.length - x.1) x.1 st out) (fun x => os.length - x.1) ?_
    (1, _, _) ⟨hk4, by simp only; omega, Nat.le_refl _, by simp only; omega, k2.n, k3.n, _, _, by omega, by omega, by omega, by omega, by omega, ⟨by simp, by simp, fun m q1 q2 => by simp at q2; omega⟩, by simp, by simp, hL4, hX4, rfl⟩ (Sub'.cons rfl (Sub'.cons rfl (Sub'.cons rfl (Sub'.cons rfl (Sub'.cons rfl (Sub'.nil _))))))
  rintro ⟨i, ov, lv⟩ g ⟨hgg, hgn, hi1, hi2, oid, lid, st, out, ho1, ho2, hl1, hl2, hol, hok, hon, hol2, hL, hA, hgoR⟩
  try simp only at hgn hi1 hi2 hok hol2 hL hA hgoR ⊢
  have hB1 : h4.n ≤ h.n + 13010 := by omega
  have hB2 : h.n + 2 < h4.n := by omega
  have hB3 : h1.n < h4.n := by omega
  have hB4 : h1.n < 6000000 := by omega
  clear hb1_k1 hb2_k1 hN_k1 hE_k1 hO_k1 hgO_k1 hg_k1 hb1_k2 hb2_k2 hN_k2 hE_k2 hO_k2 hgO_k2 hg_k2 hb1_k3 hb2_k3 hN_k3 hE_k3 hO_k3 hgO_k3 hg_k3 hb1_k4 hb2_k4 hN_k4 hE_k4 hO_k4 hgO_k4 hg_k4
  clear hX4 hL4 hX hk4 hk4' hk4l hk4n hk4b hk3 hk3' hk3l hk3n hk3b hk2 hk2' hk2l hk2n hk1 hk1l hk1n hN4 hE4 hO4 hb4 hb13 hb23 hgB hO3 hN2 hE2 hb12 hgA hb2 hb1 hgr hgr2 hg3 hg4 hg3l hn3 hn4 hn2
  have hggl := hgg.le
  have hb1_g := (hgg.get h.n (by omega)).trans hb14
  have hb2_g := (hgg.get h1.n (by omega)).trans hb24
  have hg_g := hgD.trans hgg
  have hN_g := hN.grew hg_g
  have hE_g := hE.grew hg_g
  have hO_g := hO.grew hg_g
  have hgO_g := (hgg.get idO (by omega)).trans hgO
  have hsi := hok.le
  have hspos := hok.pos
  have hlS : (st.map rF).length = st.length := List.length_map ..
  have hsl : seen c.vis lid = true := hcx.new (by omega) (by omega)
  have hso : seen c.vis oid = true := hcx.new (by omega) (by omega)
  by_cases hlt : i < os.length
  · rw [show os.length - i = (os.length - (i + 1)) + 1 by omega, goR] at hgoR
    repeat' (first | refine z0 ?_ | refine z1 ?_ | refine z2 ?_ | refine z3 ?_ | refine z6 ?_ | refine z7 ?_ | refine z8 ?_ | refine z9 ?_ | refine za ?_ | refine zb ?_ | refine zc ?_ | refine zd ?_ | refine ze ?_ | refine zf ?_ | refine zg ?_ | refine zh ?_ | refine zi ?_ | refine zj ?_ | refine zk ?_ | refine zl ?_ | (refine zm ?_ ?_ <;> intro hc <;> try (exfalso; omega)) | (refine zo ?_ ?_ <;> intro hc <;> try (exfalso; omega)) | (refine zq ?_ ?_ <;> intro hc <;> try (exfalso; omega)) | refine wg_nil ?_ | refine then_go ?_ | refine wc_seq ?_ | refine wc_reg ?_ | refine wc_dreg ?_ | refine wc_block ?_ | refine zu ?_ | refine zv ?_ | refine wc_skip ?_ | refine wc_exit ?_ | refine wc_ret ?_ | refine then_ret ?_ | refine then_exit ?_ | refine out_go ?_ | refine out_ret ?_ | refine zA ?_ | refine zB ?_ | refine zw ?_ | refine zx ?_ | refine zy ?_ | refine wd_nil ?_)
    refine wo_call rfl rfl (frames_ev (i := i) (hcx.mono hg_g.le) hL (by omega) (by omega) (by omega) hsl hO_g (by omega) hsO hov hi1 hlt hlo (by omega) (fun hp k1 lv1 lid1 hk1' hk1n hll1 hll2 hL1 => ?_) (fun hp hz k1 hk1' hk1n => ?_) (fun hp n hz k1 cap hk1' hk1n => ?_))
    · -- a call
      have hk1 := hgg.trans hk1'
      have hk1m := hk1'.le
      have hk1l := hk1.le
      have hb1_k1 := (hk1.get h.n (by omega)).trans hb14
      have hb2_k1 := (hk1.get h1.n (by omega)).trans hb24
      have hg_k1 := hgD.trans hk1
      have hN_k1 := hN.grew hg_k1
      have hE_k1 := hE.grew hg_k1
      have hO_k1 := hO.grew hg_k1
      have hgO_k1 := (hk1.get idO (by omega)).trans hgO
      have hA1 := hA.grew hk1'
      have hst : stepE ns es os st i = some (st ++ [((ob os (i : Int)).fr, (i : Int) - 1)], [⟨nI ns (ob os ((i : Int) - 1)), kdIx ns (ob os (i : Int)).f 1, 2, nI ns (ob os ((i : Int) - 1))⟩, ⟨kdIx ns (ob os (i : Int)).f 1, nI ns (ob os (i : Int)), 1, -1⟩]) := by unfold stepE; rw [if_pos hp]
      rw [hst] at hgoR
      simp only at hgoR
      have hok' := stepE_okR hok hst
      have hlS1 : ((st ++ [((ob os (i : Int)).fr, (i : Int) - 1)]).map rF).length = st.length + 1 := by simp
      repeat' (first | refine z0 ?_ | refine z1 ?_ | refine z2 ?_ | refine z3 ?_ | refine z6 ?_ | refine z7 ?_ | refine z8 ?_ | refine z9 ?_ | refine za ?_ | refine zb ?_ | refine zc ?_ | refine zd ?_ | refine ze ?_ | refine zf ?_ | refine zg ?_ | refine zh ?_ | refine zi ?_ | refine zj ?_ | refine zk ?_ | refine zl ?_ | (refine zm ?_ ?_ <;> intro hc <;> try (exfalso; omega)) | (refine zo ?_ ?_ <;> intro hc <;> try (exfalso; omega)) | (refine zq ?_ ?_ <;> intro hc <;> try (exfalso; omega)) | refine wg_nil ?_ | refine wc_seq ?_ | refine wc_reg ?_ | refine wc_dreg ?_ | refine wc_block ?_ | refine zu ?_ | refine zv ?_ | refine wc_skip ?_ | refine wc_exit ?_ | refine wc_ret ?_ | refine then_ret ?_ | refine then_exit ?_ | refine out_go ?_ | refine out_ret ?_ | refine zA ?_ | refine zB ?_ | refine zw ?_ | refine zx ?_ | refine zy ?_ | refine wd_nil ?_)
      refine then_go ?_
      repeat' (first | refine z0 ?_ | refine z1 ?_ | refine z2 ?_ | refine z3 ?_ | refine z6 ?_ | refine z7 ?_ | refine z8 ?_ | refine z9 ?_ | refine za ?_ | refine zb ?_ | refine zc ?_ | refine zd ?_ | refine ze ?_ | refine zf ?_ | refine zg ?_ | refine zh ?_ | refine zi ?_ | refine zj ?_ | refine zk ?_ | refine zl ?_ | (refine zm ?_ ?_ <;> intro hc <;> try (exfalso; omega)) | (refine zo ?_ ?_ <;> intro hc <;> try (exfalso; omega)) | (refine zq ?_ ?_ <;> intro hc <;> try (exfalso; omega)) | refine wg_nil ?_ | refine wc_seq ?_ | refine wc_reg ?_ | refine wc_dreg ?_ | refine wc_block ?_ | refine zu ?_ | refine zv ?_ | refine wc_skip ?_ | refine wc_exit ?_ | refine wc_ret ?_ | refine then_ret ?_ | refine then_exit ?_ | refine out_go ?_ | refine out_ret ?_ | refine zA ?_ | refine zB ?_ | refine zw ?_ | refine zx ?_ | refine zy ?_ | refine wd_nil ?_)
      refine then_go (wc_f rfl (wc_skip ?_))
      refine then_go ?_
      repeat' (first | refine z0 ?_ | refine z1 ?_ | refine z2 ?_ | refine z3 ?_ | refine z6 ?_ | refine z7 ?_ | refine z8 ?_ | refine z9 ?_ | refine za ?_ | refine zb ?_ | refine zc ?_ | refine zd ?_ | refine ze ?_ | refine zf ?_ | refine zg ?_ | refine zh ?_ | refine zi ?_ | refine zj ?_ | refine zk ?_ | refine zl ?_ | (refine zm ?_ ?_ <;> intro hc <;> try (exfalso; omega)) | (refine zo ?_ ?_ <;> intro hc <;> try (exfalso; omega)) | (refine zq ?_ ?_ <;> intro hc <;> try (exfalso; omega)) | refine wg_nil ?_ | refine wc_seq ?_ | refine wc_reg ?_ | refine wc_dreg ?_ | refine wc_block ?_ | refine zu ?_ | refine zv ?_ | refine wc_skip ?_ | refine wc_exit ?_ | refine wc_ret ?_ | refine then_ret ?_ | refine then_exit ?_ | refine out_go ?_ | refine out_ret ?_ | refine zA ?_ | refine zB ?_ | refine zw ?_ | refine zx ?_ | refine zy ?_ | refine wd_nil ?_)
      refine rd_bar hnt rfl rfl (wo_call rfl rfl (node_ev (Cx.mem (by omega)) hN_k1 (by omega) (seen_old (by repeat (first | exact rs_nil | refine rs_add (by first | exact Nat.le_refl _ | omega) ?_)) (by omega) (by omega) (by assumption)) hl (by omega) fun k2 hk2' hk2n => ⟨(by repeat (first | exact unchF_nil | refine unchF_cons (by decide) ?_)), ?_⟩))
      have hk2 := hk1.trans hk2'
      have hk2m := hk2'.le
      have hk2l := hk2.le
      have hb1_k2 := (hk2.get h.n (by omega)).trans hb14
      have hb2_k2 := (hk2.get h1.n (by omega)).trans hb24
      have hg_k2 := hgD.trans hk2
      have hN_k2 := hN.grew hg_k2
      have hE_k2 := hE.grew hg_k2
      have hO_k2 := hO.grew hg_k2
      have hgO_k2 := (hk2.get idO (by omega)).trans hgO
      repeat' (first | refine z0 ?_ | refine z1 ?_ | refine z2 ?_ | refine z3 ?_ | refine z6 ?_ | refine z7 ?_ | refine z8 ?_ | refine z9 ?_ | refine za ?_ | refine zb ?_ | refine zc ?_ | refine zd ?_ | refine ze ?_ | refine zf ?_ | refine zg ?_ | refine zh ?_ | refine zi ?_ | refine zj ?_ | refine zk ?_ | refine zl ?_ | (refine zm ?_ ?_ <;> intro hc <;> try (exfalso; omega)) | (refine zo ?_ ?_ <;> intro hc <;> try (exfalso; omega)) | (refine zq ?_ ?_ <;> intro hc <;> try (exfalso; omega)) | refine wg_nil ?_ | refine wc_seq ?_ | refine wc_reg ?_ | refine wc_dreg ?_ | refine wc_block ?_ | refine zu ?_ | refine zv ?_ | refine wc_skip ?_ | refine wc_exit ?_ | refine wc_ret ?_ | refine then_ret ?_ | refine then_exit ?_ | refine out_go ?_ | refine out_ret ?_ | refine zA ?_ | refine zB ?_ | refine zw ?_ | refine zx ?_ | refine zy ?_ | refine wd_nil ?_)
      refine rd_bar hnt rfl rfl (wo_call rfl rfl (node_ev (Cx.mem (by omega)) hN_k2 (by omega) (seen_old (by repeat (first | exact rs_nil | refine rs_add (by first | exact Nat.le_refl _ | omega) ?_)) (by omega) (by omega) (by assumption)) hl (by omega) fun k3 hk3' hk3n => ⟨(by repeat (first | exact unchF_nil | refine unchF_cons (by decide) ?_)), ?_⟩))
      have hk3 := hk2.trans hk3'
      have hk3m := hk3'.le
      have hk3l := hk3.le
      have hb1_k3 := (hk3.get h.n (by omega)).trans hb14
      have hb2_k3 := (hk3.get h1.n (by omega)).trans hb24
      have hg_k3 := hgD.trans hk3
      have hN_k3 := hN.grew hg_k3
      have hE_k3 := hE.grew hg_k3
      have hO_k3 := hO.grew hg_k3
      have hgO_k3 := (hk3.get idO (by omega)).trans hgO
      clear hb1_k1 hb2_k1 hN_k1 hE_k1 hO_k1 hgO_k1 hg_k1 hb1_k2 hb2_k2 hN_k2 hE_k2 hO_k2 hgO_k2 hg_k2
      repeat' (first | refine z0 ?_ | refine z1 ?_ | refine z2 ?_ | refine z3 ?_ | refine z6 ?_ | refine z7 ?_ | refine z8 ?_ | refine z9 ?_ | refine za ?_ | refine zb ?_ | refine zc ?_ | refine zd ?_ | refine ze ?_ | refine zf ?_ | refine zg ?_ | refine zh ?_ | refine zi ?_ | refine zj ?_ | refine zk ?_ | refine zl ?_ | (refine zm ?_ ?_ <;> intro hc <;> try (exfalso; omega)) | (refine zo ?_ ?_ <;> intro hc <;> try (exfalso; omega)) | (refine zq ?_ ?_ <;> intro hc <;> try (exfalso; omega)) | refine wg_nil ?_ | refine then_go ?_ | refine wc_seq ?_ | refine wc_reg ?_ | refine wc_dreg ?_ | refine wc_block ?_ | refine zu ?_ | refine zv ?_ | refine wc_skip ?_ | refine wc_exit ?_ | refine wc_ret ?_ | refine then_ret ?_ | refine then_exit ?_ | refine out_go ?_ | refine out_ret ?_ | refine zA ?_ | refine zB ?_ | refine zw ?_ | refine zx ?_ | refine zy ?_ | refine wd_nil ?_)
      refine rd_bar hnt rfl rfl (wo_call rfl rfl (Start_ev (Cx.mem (by omega)) hN_k3 (seen_old (by repeat (first | exact rs_nil | refine rs_add (by first | exact Nat.le_refl _ | omega) ?_)) (by omega) (by omega) (by assumption)) hl (by omega) fun k4 hk4' hk4n => ⟨(by repeat (first | exact unchF_nil | refine unchF_cons (by decide) ?_)), ?_⟩))
      have hk4 := hk3.trans hk4'
      have hk4m := hk4'.le
      have hk4l := hk4.le
      have hb1_k4 := (hk4.get h.n (by omega)).trans hb14
      have hb2_k4 := (hk4.get h1.n (by omega)).trans hb24
      have hg_k4 := hgD.trans hk4
      have hN_k4 := hN.grew hg_k4
      have hE_k4 := hE.grew hg_k4
      have hO_k4 := hO.grew hg_k4
      have hgO_k4 := (hk4.get idO (by omega)).trans hgO
      repeat' (first | refine z0 ?_ | refine z1 ?_ | refine z2 ?_ | refine z3 ?_ | refine z6 ?_ | refine z7 ?_ | refine z8 ?_ | refine z9 ?_ | refine za ?_ | refine zb ?_ | refine zc ?_ | refine zd ?_ | refine ze ?_ | refine zf ?_ | refine zg ?_ | refine zh ?_ | refine zi ?_ | refine zj ?_ | refine zk ?_ | refine zl ?_ | (refine zm ?_ ?_ <;> intro hc <;> try (exfalso; omega)) | (refine zo ?_ ?_ <;> intro hc <;> try (exfalso; omega)) | (refine zq ?_ ?_ <;> intro hc <;> try (exfalso; omega)) | refine wg_nil ?_ | refine then_go ?_ | refine wc_seq ?_ | refine wc_reg ?_ | refine wc_dreg ?_ | refine wc_block ?_ | refine zu ?_ | refine zv ?_ | refine wc_skip ?_ | refine wc_exit ?_ | refine wc_ret ?_ | refine then_ret ?_ | refine then_exit ?_ | refine out_go ?_ | refine out_ret ?_ | refine zA ?_ | refine zB ?_ | refine zw ?_ | refine zx ?_ | refine zy ?_ | refine wd_nil ?_)
      refine rd_bar hnt rfl rfl (wo_call rfl rfl (edge_ev (n := ⟨nI ns (ob os ((i : Int) - 1)), kdIx ns (ob os (i : Int)).f 1, 2, nI ns (ob os ((i : Int) - 1))⟩) (Cx.mem (by omega)) hE_k4 (by omega) (seen_old (by repeat (first | exact rs_nil | refine rs_add (by first | exact Nat.le_refl _ | omega) ?_)) (by omega) (by omega) (by assumption)) hle (by omega) fun k5 hk5' hk5n => ⟨(by repeat (first | exact unchF_nil | refine unchF_cons (by decide) ?_)), ?_⟩))
      have hk5 := hk4.trans hk5'
      have hk5m := hk5'.le
      have hk5l := hk5.le
      have hb1_k5 := (hk5.get h.n (by omega)).trans hb14
      have hb2_k5 := (hk5.get h1.n (by omega)).trans hb24
      have hg_k5 := hgD.trans hk5
      have hN_k5 := hN.grew hg_k5
      have hE_k5 := hE.grew hg_k5
      have hO_k5 := hO.grew hg_k5
      have hgO_k5 := (hk5.get idO (by omega)).trans hgO
      repeat' (first | refine z0 ?_ | refine z1 ?_ | refine z2 ?_ | refine z3 ?_ | refine z6 ?_ | refine z7 ?_ | refine z8 ?_ | refine z9 ?_ | refine za ?_ | refine zb ?_ | refine zc ?_ | refine zd ?_ | refine ze ?_ | refine zf ?_ | refine zg ?_ | refine zh ?_ | refine zi ?_ | refine zj ?_ | refine zk ?_ | refine zl ?_ | (refine zm ?_ ?_ <;> intro hc <;> try (exfalso; omega)) | (refine zo ?_ ?_ <;> intro hc <;> try (exfalso; omega)) | (refine zq ?_ ?_ <;> intro hc <;> try (exfalso; omega)) | refine wg_nil ?_ | refine then_go ?_ | refine wc_seq ?_ | refine wc_reg ?_ | refine wc_dreg ?_ | refine wc_block ?_ | refine zu ?_ | refine zv ?_ | refine wc_skip ?_ | refine wc_exit ?_ | refine wc_ret ?_ | refine then_ret ?_ | refine then_exit ?_ | refine out_go ?_ | refine out_ret ?_ | refine zA ?_ | refine zB ?_ | refine zw ?_ | refine zx ?_ | refine zy ?_ | refine wd_nil ?_)
      refine rd_bar hnt rfl rfl (wo_call rfl rfl (edge_ev (n := ⟨kdIx ns (ob os (i : Int)).f 1, nI ns (ob os (i : Int)), 1, -1⟩) (Cx.mem (by omega)) hE_k5 (by omega) (seen_old (by repeat (first | exact rs_nil | refine rs_add (by first | exact Nat.le_refl _ | omega) ?_)) (by omega) (by omega) (by assumption)) hle (by omega) fun k6 hk6' hk6n => ⟨(by repeat (first | exact unchF_nil | refine unchF_cons (by decide) ?_)), ?_⟩))
      have hk6 := hk5.trans hk6'
      have hk6m := hk6'.le
      repeat' (first | refine z0 ?_ | refine z1 ?_ | refine z2 ?_ | refine z3 ?_ | refine z6 ?_ | refine z7 ?_ | refine z8 ?_ | refine z9 ?_ | refine za ?_ | refine zb ?_ | refine zc ?_ | refine zd ?_ | refine ze ?_ | refine zf ?_ | refine zg ?_ | refine zh ?_ | refine zi ?_ | refine zj ?_ | refine zk ?_ | refine zl ?_ | (refine zm ?_ ?_ <;> intro hc <;> try (exfalso; omega)) | (refine zo ?_ ?_ <;> intro hc <;> try (exfalso; omega)) | (refine zq ?_ ?_ <;> intro hc <;> try (exfalso; omega)) | refine wg_nil ?_ | refine then_go ?_ | refine wc_seq ?_ | refine wc_reg ?_ | refine wc_dreg ?_ | refine wc_block ?_ | refine zu ?_ | refine zv ?_ | refine wc_skip ?_ | refine wc_exit ?_ | refine wc_ret ?_ | refine then_ret ?_ | refine then_exit ?_ | refine out_go ?_ | refine out_ret ?_ | refine zA ?_ | refine zB ?_ | refine zw ?_ | refine zx ?_ | refine zy ?_ | refine wd_nil ?_)
      refine wo_bsliceA rfl (by omega) fun k7 hk7n hk7b hk7' => ?_
      have hk7 := hk6.trans hk7'
      have hg17 := ((((hk2'.trans hk3').trans hk4').trans hk5').trans hk6').trans hk7'
      have hA7 := hA1.grew hg17
      have hL7 := hL1.grew hg17
      have hX7 : Arr k7 (.sl k6.n 0 2 1 (some 2)) 1 (([⟨nI ns (ob os ((i : Int) - 1)), kdIx ns (ob os (i : Int)).f 1, 2, nI ns (ob os ((i : Int) - 1))⟩, ⟨kdIx ns (ob os (i : Int)).f 1, nI ns (ob os (i : Int)), 1, -1⟩].map (edIx es)).map rI) k6.n := Arr.mkN rfl (by omega) (by omega) hk7b rfl (by simp [rI])
      refine rd_bar hnt rfl rfl (wo_appArr rfl rfl hA7 (Or.inl (by simpa using hon)) hX7 (by simp) (by repeat (first | exact seen_hit (by decide) (by omega) (by omega) (by omega) | refine seen_skip (by omega) ?_ (by omega))) (ones_rI _) (fun _ => ⟨(seen_old (by repeat (first | exact rs_nil | refine rs_add (by first | exact Nat.le_refl _ | omega) ?_)) (by omega) (by omega) (by assumption)), by show c.floor ≤ _; omega⟩) (by simp; omega) (by omega) fun k8 ov8 hA8 hk8n hk8 => ⟨(by repeat (first | exact unchF_nil | refine unchF_cons (by decide) ?_)), ?_⟩)
      rw [← List.map_append] at hA8
      repeat' (first | refine z0 ?_ | refine z1 ?_ | refine z2 ?_ | refine z3 ?_ | refine z6 ?_ | refine z7 ?_ | refine z8 ?_ | refine z9 ?_ | refine za ?_ | refine zb ?_ | refine zc ?_ | refine zd ?_ | refine ze ?_ | refine zf ?_ | refine zg ?_ | refine zh ?_ | refine zi ?_ | refine zj ?_ | refine zk ?_ | refine zl ?_ | (refine zm ?_ ?_ <;> intro hc <;> try (exfalso; omega)) | (refine zo ?_ ?_ <;> intro hc <;> try (exfalso; omega)) | (refine zq ?_ ?_ <;> intro hc <;> try (exfalso; omega)) | refine wg_nil ?_ | refine then_go ?_ | refine wc_seq ?_ | refine wc_reg ?_ | refine wc_dreg ?_ | refine wc_block ?_ | refine zu ?_ | refine zv ?_ | refine wc_skip ?_ | refine wc_exit ?_ | refine wc_ret ?_ | refine then_ret ?_ | refine then_exit ?_ | refine out_go ?_ | refine out_ret ?_ | refine zA ?_ | refine zB ?_ | refine zw ?_ | refine zx ?_ | refine zy ?_ | refine wd_nil ?_)
      refine ⟨(i + 1, ov8, lv1), by simp; omega, (Sub'.cons rfl (Sub'.cons rfl (Sub'.cons rfl (Sub'.cons rfl (Sub'.cons rfl (Sub'.nil _)))))), ⟨by omega, fun id q => (hk8 id (by omega) (fun _ => by omega)).trans (hk7.get id q)⟩, by simp only; omega, by simp only; omega, by simp only; omega, k7.n, lid1, _, _, by omega, by omega, by omega, by omega, by omega, hok', by simp [hon], by simp; omega, hL7.keep (by omega) (fun _ => hk8 lid1 (by omega) (fun _ => by omega)), hA8, hgoR⟩
    · -- no such frame
      have hk1 := hgg.trans hk1'
      have hst : stepE ns es os st i = none := by unfold stepE; rw [if_neg hp, if_pos hz]
      rw [hst] at hgoR
      repeat' (first | refine z0 ?_ | refine z1 ?_ | refine z2 ?_ | refine z3 ?_ | refine z6 ?_ | refine z7 ?_ | refine z8 ?_ | refine z9 ?_ | refine za ?_ | refine zb ?_ | refine zc ?_ | refine zd ?_ | refine ze ?_ | refine zf ?_ | refine zg ?_ | refine zh ?_ | refine zi ?_ | refine zj ?_ | refine zk ?_ | refine zl ?_ | (refine zm ?_ ?_ <;> intro hc <;> try (exfalso; omega)) | (refine zo ?_ ?_ <;> intro hc <;> try (exfalso; omega)) | (refine zq ?_ ?_ <;> intro hc <;> try (exfalso; omega)) | refine wg_nil ?_ | refine then_go ?_ | refine wc_seq ?_ | refine wc_reg ?_ | refine wc_dreg ?_ | refine wc_block ?_ | refine zu ?_ | refine zv ?_ | refine wc_skip ?_ | refine wc_exit ?_ | refine wc_ret ?_ | refine then_ret ?_ | refine then_exit ?_ | refine out_go ?_ | refine out_ret ?_ | refine zA ?_ | refine zB ?_ | refine zw ?_ | refine zx ?_ | refine zy ?_ | refine wd_nil ?_)
      exact ⟨Or.inr rfl, _, rfl, hKn (by rw [hgo, hgoR]; rfl) _ (hgD.trans hk1) (by omega)⟩
    · -- within the frame, or to one below
      have hk1 := hgg.trans hk1'
      have hk1m := hk1'.le
      have hk1l := hk1.le
      have hb1_k1 := (hk1.get h.n (by omega)).trans hb14
      have hb2_k1 := (hk1.get h1.n (by omega)).trans hb24
      have hg_k1 := hgD.trans hk1
      have hN_k1 := hN.grew hg_k1
      have hE_k1 := hE.grew hg_k1
      have hO_k1 := hO.grew hg_k1
      have hgO_k1 := (hk1.get idO (by omega)).trans hgO
      have hA1 := hA.grew hk1'
      have hL1 := hL.grew hk1'
      have hnl : n + 1 ≤ st.length := by rw [← hz]; exact frN_le _ _ _
      have hstn : stepE ns es os st i = if n + 1 = st.length then some (st, [⟨nI ns (ob os ((i : Int) - 1)), nI ns (ob os (i : Int)), 1, -1⟩]) else some (st.take (n + 1), leaveE ns es os st (n + 1) i) := by
        unfold stepE; rw [if_neg hp, hz, if_neg (by omega)]
      repeat' (first | refine z0 ?_ | refine z1 ?_ | refine z2 ?_ | refine z3 ?_ | refine z6 ?_ | refine z7 ?_ | refine z8 ?_ | refine z9 ?_ | refine za ?_ | refine zb ?_ | refine zc ?_ | refine zd ?_ | refine ze ?_ | refine zf ?_ | refine zg ?_ | refine zh ?_ | refine zi ?_ | refine zj ?_ | refine zk ?_ | refine zl ?_ | (refine zm ?_ ?_ <;> intro hc <;> try (exfalso; omega)) | (refine zo ?_ ?_ <;> intro hc <;> try (exfalso; omega)) | (refine zq ?_ ?_ <;> intro hc <;> try (exfalso; omega)) | refine wg_nil ?_ | refine wc_seq ?_ | refine wc_reg ?_ | refine wc_dreg ?_ | refine wc_block ?_ | refine zu ?_ | refine zv ?_ | refine wc_skip ?_ | refine wc_exit ?_ | refine wc_ret ?_ | refine then_ret ?_ | refine then_exit ?_ | refine out_go ?_ | refine out_ret ?_ | refine zA ?_ | refine zB ?_ | refine zw ?_ | refine zx ?_ | refine zy ?_ | refine wd_nil ?_)
      refine then_go ?_
      repeat' (first | refine z0 ?_ | refine z1 ?_ | refine z2 ?_ | refine z3 ?_ | refine z6 ?_ | refine z7 ?_ | refine z8 ?_ | refine z9 ?_ | refine za ?_ | refine zb ?_ | refine zc ?_ | refine zd ?_ | refine ze ?_ | refine zf ?_ | refine zg ?_ | refine zh ?_ | refine zi ?_ | refine zj ?_ | refine zk ?_ | refine zl ?_ | (refine zm ?_ ?_ <;> intro hc <;> try (exfalso; omega)) | (refine zo ?_ ?_ <;> intro hc <;> try (exfalso; omega)) | (refine zq ?_ ?_ <;> intro hc <;> try (exfalso; omega)) | refine wg_nil ?_ | refine wc_seq ?_ | refine wc_reg ?_ | refine wc_dreg ?_ | refine wc_block ?_ | refine zu ?_ | refine zv ?_ | refine wc_skip ?_ | refine wc_exit ?_ | refine wc_ret ?_ | refine then_ret ?_ | refine then_exit ?_ | refine out_go ?_ | refine out_ret ?_ | refine zA ?_ | refine zB ?_ | refine zw ?_ | refine zx ?_ | refine zy ?_ | refine wd_nil ?_)
      refine then_go (wc_f rfl (wc_skip ?_))
      refine then_go ?_
      repeat' (first | refine z0 ?_ | refine z1 ?_ | refine z2 ?_ | refine z3 ?_ | refine z6 ?_ | refine z7 ?_ | refine z8 ?_ | refine z9 ?_ | refine za ?_ | refine zb ?_ | refine zc ?_ | refine zd ?_ | refine ze ?_ | refine zf ?_ | refine zg ?_ | refine zh ?_ | refine zi ?_ | refine zj ?_ | refine zk ?_ | refine zl ?_ | (refine zm ?_ ?_ <;> intro hc <;> try (exfalso; omega)) | (refine zo ?_ ?_ <;> intro hc <;> try (exfalso; omega)) | (refine zq ?_ ?_ <;> intro hc <;> try (exfalso; omega)) | refine wg_nil ?_ | refine wc_seq ?_ | refine wc_reg ?_ | refine wc_dreg ?_ | refine wc_block ?_ | refine zu ?_ | refine zv ?_ | refine wc_skip ?_ | refine wc_exit ?_ | refine wc_ret ?_ | refine then_ret ?_ | refine then_exit ?_ | refine out_go ?_ | refine out_ret ?_ | refine zA ?_ | refine zB ?_ | refine zw ?_ | refine zx ?_ | refine zy ?_ | refine wd_nil ?_)
      refine rd_bar hnt rfl rfl (wo_call rfl rfl (node_ev (Cx.mem (by omega)) hN_k1 (by omega) (seen_old (by repeat (first | exact rs_nil | refine rs_add (by first | exact Nat.le_refl _ | omega) ?_)) (by omega) (by omega) (by assumption)) hl (by omega) fun k2 hk2' hk2n => ⟨(by repeat (first | exact unchF_nil | refine unchF_cons (by decide) ?_)), ?_⟩))
      have hk2 := hk1.trans hk2'
      have hk2m := hk2'.le
      have hk2l := hk2.le
      have hb1_k2 := (hk2.get h.n (by omega)).trans hb14
      have hb2_k2 := (hk2.get h1.n (by omega)).trans hb24
      have hg_k2 := hgD.trans hk2
      have hN_k2 := hN.grew hg_k2
      have hE_k2 := hE.grew hg_k2
      have hO_k2 := hO.grew hg_k2
      have hgO_k2 := (hk2.get idO (by omega)).trans hgO
      repeat' (first | refine z0 ?_ | refine z1 ?_ | refine z2 ?_ | refine z3 ?_ | refine z6 ?_ | refine z7 ?_ | refine z8 ?_ | refine z9 ?_ | refine za ?_ | refine zb ?_ | refine zc ?_ | refine zd ?_ | refine ze ?_ | refine zf ?_ | refine zg ?_ | refine zh ?_ | refine zi ?_ | refine zj ?_ | refine zk ?_ | refine zl ?_ | (refine zm ?_ ?_ <;> intro hc <;> try (exfalso; omega)) | (refine zo ?_ ?_ <;> intro hc <;> try (exfalso; omega)) | (refine zq ?_ ?_ <;> intro hc <;> try (exfalso; omega)) | refine wg_nil ?_ | refine wc_seq ?_ | refine wc_reg ?_ | refine wc_dreg ?_ | refine wc_block ?_ | refine zu ?_ | refine zv ?_ | refine wc_skip ?_ | refine wc_exit ?_ | refine wc_ret ?_ | refine then_ret ?_ | refine then_exit ?_ | refine out_go ?_ | refine out_ret ?_ | refine zA ?_ | refine zB ?_ | refine zw ?_ | refine zx ?_ | refine zy ?_ | refine wd_nil ?_)
      refine rd_bar hnt rfl rfl (wo_call rfl rfl (node_ev (Cx.mem (by omega)) hN_k2 (by omega) (seen_old (by repeat (first | exact rs_nil | refine rs_add (by first | exact Nat.le_refl _ | omega) ?_)) (by omega) (by omega) (by assumption)) hl (by omega) fun k3 hk3' hk3n => ⟨(by repeat (first | exact unchF_nil | refine unchF_cons (by decide) ?_)), ?_⟩))
      have hk3 := hk2.trans hk3'
      have hk3m := hk3'.le
      have hk3l := hk3.le
      have hb1_k3 := (hk3.get h.n (by omega)).trans hb14
      have hb2_k3 := (hk3.get h1.n (by omega)).trans hb24
      have hg_k3 := hgD.trans hk3
      have hN_k3 := hN.grew hg_k3
      have hE_k3 := hE.grew hg_k3
      have hO_k3 := hO.grew hg_k3
      have hgO_k3 := (hk3.get idO (by omega)).trans hgO
      clear hb1_k1 hb2_k1 hN_k1 hE_k1 hO_k1 hgO_k1 hg_k1 hb1_k2 hb2_k2 hN_k2 hE_k2 hO_k2 hgO_k2 hg_k2
      have hg13 := hk2'.trans hk3'
      have hA3 := hA1.grew hg13
      have hL3 := hL1.grew hg13
      by_cases hnn : n + 1 = st.length
      · rw [if_pos hnn] at hstn
        rw [hstn] at hgoR
        simp only at hgoR
        repeat' (first | refine z0 ?_ | refine z1 ?_ | refine z2 ?_ | refine z3 ?_ | refine z6 ?_ | refine z7 ?_ | refine z8 ?_ | refine z9 ?_ | refine za ?_ | refine zb ?_ | refine zc ?_ | refine zd ?_ | refine ze ?_ | refine zf ?_ | refine zg ?_ | refine zh ?_ | refine zi ?_ | refine zj ?_ | refine zk ?_ | refine zl ?_ | (refine zm ?_ ?_ <;> intro hc <;> try (exfalso; omega)) | (refine zo ?_ ?_ <;> intro hc <;> try (exfalso; omega)) | (refine zq ?_ ?_ <;> intro hc <;> try (exfalso; omega)) | refine wg_nil ?_ | refine then_go ?_ | refine wc_seq ?_ | refine wc_reg ?_ | refine wc_dreg ?_ | refine wc_block ?_ | refine zu ?_ | refine zv ?_ | refine wc_skip ?_ | refine wc_exit ?_ | refine wc_ret ?_ | refine then_ret ?_ | refine then_exit ?_ | refine out_go ?_ | refine out_ret ?_ | refine zA ?_ | refine zB ?_ | refine zw ?_ | refine zx ?_ | refine zy ?_ | refine wd_nil ?_)
        all_goals first
          | (exfalso; omega)
          | skip
        refine wo_call rfl rfl (edge_ev (n := ⟨nI ns (ob os ((i : Int) - 1)), nI ns (ob os (i : Int)), 1, -1⟩) (hcx.mono hg_k3.le) hE_k3 (by omega) hsE hle (by omega) fun k4 hk4' hk4n => ?_)
        have hk4 := hk3.trans hk4'
        have hk4m := hk4'.le
        repeat' (first | refine z0 ?_ | refine z1 ?_ | refine z2 ?_ | refine z3 ?_ | refine z6 ?_ | refine z7 ?_ | refine z8 ?_ | refine z9 ?_ | refine za ?_ | refine zb ?_ | refine zc ?_ | refine zd ?_ | refine ze ?_ | refine zf ?_ | refine zg ?_ | refine zh ?_ | refine zi ?_ | refine zj ?_ | refine zk ?_ | refine zl ?_ | (refine zm ?_ ?_ <;> intro hc <;> try (exfalso; omega)) | (refine zo ?_ ?_ <;> intro hc <;> try (exfalso; omega)) | (refine zq ?_ ?_ <;> intro hc <;> try (exfalso; omega)) | refine wg_nil ?_ | refine then_go ?_ | refine wc_seq ?_ | refine wc_reg ?_ | refine wc_dreg ?_ | refine wc_block ?_ | refine zu ?_ | refine zv ?_ | refine wc_skip ?_ | refine wc_exit ?_ | refine wc_ret ?_ | refine then_ret ?_ | refine then_exit ?_ | refine out_go ?_ | refine out_ret ?_ | refine zA ?_ | refine zB ?_ | refine zw ?_ | refine zx ?_ | refine zy ?_ | refine wd_nil ?_)
        refine wo_bsliceA rfl (by omega) fun k5 hk5n hk5b hk5' => ?_
        have hk5 := hk4.trans hk5'
        have hA5 := hA3.grew (hk4'.trans hk5')
        have hL5 := hL3.grew (hk4'.trans hk5')
        have hX5 : Arr k5 (.sl k4.n 0 1 1 (some 1)) 1 (([⟨nI ns (ob os ((i : Int) - 1)), nI ns (ob os (i : Int)), 1, -1⟩].map (edIx es)).map rI) k4.n := Arr.mkN rfl (by omega) (by omega) hk5b rfl (by simp [rI])
        refine rg_go hnt rfl rfl (wo_appArr rfl rfl hA5 (Or.inl (by simpa using hon)) hX5 (by simp) (hcx.new (by omega) (by omega)) (ones_rI _) (fun _ => ⟨hso, by omega⟩) (by simp; omega) (by omega) fun k8 ov8 hA8 hk8n hk8 => ?_)
        rw [← List.map_append] at hA8
        repeat' (first | refine z0 ?_ | refine z1 ?_ | refine z2 ?_ | refine z3 ?_ | refine z6 ?_ | refine z7 ?_ | refine z8 ?_ | refine z9 ?_ | refine za ?_ | refine zb ?_ | refine zc ?_ | refine zd ?_ | refine ze ?_ | refine zf ?_ | refine zg ?_ | refine zh ?_ | refine zi ?_ | refine zj ?_ | refine zk ?_ | refine zl ?_ | (refine zm ?_ ?_ <;> intro hc <;> try (exfalso; omega)) | (refine zo ?_ ?_ <;> intro hc <;> try (exfalso; omega)) | (refine zq ?_ ?_ <;> intro hc <;> try (exfalso; omega)) | refine wg_nil ?_ | refine then_go ?_ | refine wc_seq ?_ | refine wc_reg ?_ | refine wc_dreg ?_ | refine wc_block ?_ | refine zu ?_ | refine zv ?_ | refine wc_skip ?_ | refine wc_exit ?_ | refine wc_ret ?_ | refine then_ret ?_ | refine then_exit ?_ | refine out_go ?_ | refine out_ret ?_ | refine zA ?_ | refine zB ?_ | refine zw ?_ | refine zx ?_ | refine zy ?_ | refine wd_nil ?_)
        have hLt : Arr k8 (.sl lid 0 (n + 1) 3 cap) 3 (st.map rF) lid := by
          have := (hL5.keep (h' := k8) (by omega) (fun _ => hk8 lid (by omega) (fun _ => by omega))).take (m := n + 1) (by omega) (by omega) (cap := cap)
          rwa [List.take_of_length_le (by omega)] at this
        refine ⟨(i + 1, ov8, _), by simp; omega, (Sub'.cons rfl (Sub'.cons rfl (Sub'.cons rfl (Sub'.cons rfl (Sub'.cons rfl (Sub'.nil _)))))), ⟨by omega, fun id q => (hk8 id (by omega) (fun _ => by omega)).trans (hk5.get id q)⟩, by simp only; omega, by simp only; omega, by simp only; omega, k5.n, lid, _, _, by omega, by omega, by omega, by omega, by omega, hok.next, by simp [hon], by simp; omega, hLt, hA8, hgoR⟩
      · rw [if_neg hnn] at hstn
        rw [hstn] at hgoR
        simp only at hgoR
        have hlv := leaveE_len (ns := ns) (es := es) (os := os) (st := st) (n + 1) i
        repeat' (first | refine z0 ?_ | refine z1 ?_ | refine z2 ?_ | refine z3 ?_ | refine z6 ?_ | refine z7 ?_ | refine z8 ?_ | refine z9 ?_ | refine za ?_ | refine zb ?_ | refine zc ?_ | refine zd ?_ | refine ze ?_ | refine zf ?_ | refine zg ?_ | refine zh ?_ | refine zi ?_ | refine zj ?_ | refine zk ?_ | refine zl ?_ | (refine zm ?_ ?_ <;> intro hc <;> try (exfalso; omega)) | (refine zo ?_ ?_ <;> intro hc <;> try (exfalso; omega)) | (refine zq ?_ ?_ <;> intro hc <;> try (exfalso; omega)) | refine wg_nil ?_ | refine then_go ?_ | refine wc_seq ?_ | refine wc_reg ?_ | refine wc_dreg ?_ | refine wc_block ?_ | refine zu ?_ | refine zv ?_ | refine wc_skip ?_ | refine wc_exit ?_ | refine wc_ret ?_ | refine then_ret ?_ | refine then_exit ?_ | refine out_go ?_ | refine out_ret ?_ | refine zA ?_ | refine zB ?_ | refine zw ?_ | refine zx ?_ | refine zy ?_ | refine wd_nil ?_)
        all_goals first
          | (exfalso; omega)
          | skip
        refine wo_call rfl rfl (leave_ev (i := i) (n := n + 1) (hcx.mono hg_k3.le) hN_k3 hE_k3 (by omega) (by omega) hsN hsE hl hle hL3 (by omega) (by omega) hsl hO_k3 (by omega) hsO hov hi1 hlt hlo hok (by omega) (by omega) (by omega) fun k5 xv xid hk5' hk5n hx1 hx2 hX5 => ?_)
        have hk5 := hk3.trans hk5'
        have hk5m := hk5'.le
        have hA5 := hA3.grew hk5'
        have hL5 := hL3.grew hk5'
        refine rg_go hnt rfl rfl (wo_appArr rfl rfl hA5 (Or.inl (by simpa using hon)) hX5 (by simp; omega) (hcx.new (by omega) (by omega)) (ones_rI _) (fun _ => ⟨hso, by omega⟩) (by simp; omega) (by omega) fun k8 ov8 hA8 hk8n hk8 => ?_)
        rw [← List.map_append] at hA8
        repeat' (first | refine z0 ?_ | refine z1 ?_ | refine z2 ?_ | refine z3 ?_ | refine z6 ?_ | refine z7 ?_ | refine z8 ?_ | refine z9 ?_ | refine za ?_ | refine zb ?_ | refine zc ?_ | refine zd ?_ | refine ze ?_ | refine zf ?_ | refine zg ?_ | refine zh ?_ | refine zi ?_ | refine zj ?_ | refine zk ?_ | refine zl ?_ | (refine zm ?_ ?_ <;> intro hc <;> try (exfalso; omega)) | (refine zo ?_ ?_ <;> intro hc <;> try (exfalso; omega)) | (refine zq ?_ ?_ <;> intro hc <;> try (exfalso; omega)) | refine wg_nil ?_ | refine then_go ?_ | refine wc_seq ?_ | refine wc_reg ?_ | refine wc_dreg ?_ | refine wc_block ?_ | refine zu ?_ | refine zv ?_ | refine wc_skip ?_ | refine wc_exit ?_ | refine wc_ret ?_ | refine then_ret ?_ | refine then_exit ?_ | refine out_go ?_ | refine out_ret ?_ | refine zA ?_ | refine zB ?_ | refine zw ?_ | refine zx ?_ | refine zy ?_ | refine wd_nil ?_)
        have hLt : Arr k8 (.sl lid 0 (n + 1) 3 cap) 3 ((st.take (n + 1)).map rF) lid := by
          rw [List.map_take]
          exact (hL5.keep (h' := k8) (by omega) (fun _ => hk8 lid (by omega) (fun _ => by omega))).take (m := n + 1) (by omega) (by omega) (cap := cap)
        refine ⟨(i + 1, ov8, _), by simp; omega, (Sub'.cons rfl (Sub'.cons rfl (Sub'.cons rfl (Sub'.cons rfl (Sub'.cons rfl (Sub'.nil _)))))), ⟨by omega, fun id q => (hk8 id (by omega) (fun _ => by omega)).trans (hk5.get id q)⟩, by simp only; omega, by simp only; omega, by simp only; omega, k5.n, lid, _, _, by omega, by omega, by omega, by omega, by omega, hok.take (by omega) (by omega), by simp [hon], by simp; omega, hLt, hA8, hgoR⟩
  · rw [show os.length - i = 0 by omega, goR] at hgoR
    rw [hgoR] at hgo
    have hlA : (out.map rI).length = out.length := List.length_map ..
    repeat' (first | refine z0 ?_ | refine z1 ?_ | refine z2 ?_ | refine z3 ?_ | refine z6 ?_ | refine z7 ?_ | refine z8 ?_ | refine z9 ?_ | refine za ?_ | refine zb ?_ | refine zc ?_ | refine zd ?_ | refine ze ?_ | refine zf ?_ | refine zg ?_ | refine zh ?_ | refine zi ?_ | refine zj ?_ | refine zk ?_ | refine zl ?_ | (refine zm ?_ ?_ <;> intro hc <;> try (exfalso; omega)) | (refine zo ?_ ?_ <;> intro hc <;> try (exfalso; omega)) | (refine zq ?_ ?_ <;> intro hc <;> try (exfalso; omega)) | refine wg_nil ?_ | refine then_go ?_ | refine wc_seq ?_ | refine wc_reg ?_ | refine wc_dreg ?_ | refine wc_block ?_ | refine zu ?_ | refine zv ?_ | refine wc_skip ?_ | refine wc_exit ?_ | refine wc_ret ?_ | refine then_ret ?_ | refine then_exit ?_ | refine out_go ?_ | refine out_ret ?_ | refine zA ?_ | refine zB ?_ | refine zw ?_ | refine zx ?_ | refine zy ?_ | refine wd_nil ?_)
    refine wc_loopE (ι := Nat) (fun k => [(8, ov), (16, .int .i64 (k : Int))]) (fun k q => g = q ∧ k ≤ out.length ∧ okL out = okL (out.drop k)) (fun k => out.length - k) ?_ 0 ⟨rfl, Nat.zero_le _, by simp⟩ (Sub'.cons rfl (Sub'.cons rfl (Sub'.nil _)))
    rintro k q ⟨rfl, hk, hz⟩
    try simp only at hk hz ⊢
    by_cases hlk : k < out.length
    · rw [okL_drop hlk] at hz
      repeat' (first | refine z0 ?_ | refine z1 ?_ | refine z2 ?_ | refine z3 ?_ | refine z6 ?_ | refine z7 ?_ | refine z8 ?_ | refine z9 ?_ | refine za ?_ | refine zb ?_ | refine zc ?_ | refine zd ?_ | refine ze ?_ | refine zf ?_ | refine zg ?_ | refine zh ?_ | refine zi ?_ | refine zj ?_ | refine zk ?_ | refine zl ?_ | (refine zm ?_ ?_ <;> intro hc <;> try (exfalso; omega)) | (refine zo ?_ ?_ <;> intro hc <;> try (exfalso; omega)) | (refine zq ?_ ?_ <;> intro hc <;> try (exfalso; omega)) | refine wg_nil ?_ | refine then_go ?_ | refine wc_seq ?_ | refine wc_reg ?_ | refine wc_dreg ?_ | refine wc_block ?_ | refine zu ?_ | refine zv ?_ | refine wc_skip ?_ | refine wc_exit ?_ | refine wc_ret ?_ | refine then_ret ?_ | refine then_exit ?_ | refine out_go ?_ | refine out_ret ?_ | refine zA ?_ | refine zB ?_ | refine zw ?_ | refine zx ?_ | refine zy ?_ | refine wd_nil ?_)
      all_goals first
        | (rw [decide_eq_false (by omega), Bool.false_and] at hz
           rw [onlyOk, if_neg (by rw [hz]; simp)] at hgo
           exact ⟨Or.inr rfl, _, rfl, hKn hgo _ hg_g (by omega)⟩)
        | (rw [decide_eq_true (by omega), Bool.true_and] at hz
           exact ⟨k + 1, by simp; omega, (Sub'.cons rfl (Sub'.cons rfl (Sub'.nil _))), rfl, hlk, hz⟩)
    · rw [List.drop_eq_nil_of_le (by omega)] at hz
      have hz' : okL out = true := hz
      rw [onlyOk, if_pos hz', ends] at hgo
      repeat' (first | refine z0 ?_ | refine z1 ?_ | refine z2 ?_ | refine z3 ?_ | refine z6 ?_ | refine z7 ?_ | refine z8 ?_ | refine z9 ?_ | refine za ?_ | refine zb ?_ | refine zc ?_ | refine zd ?_ | refine ze ?_ | refine zf ?_ | refine zg ?_ | refine zh ?_ | refine zi ?_ | refine zj ?_ | refine zk ?_ | refine zl ?_ | (refine zm ?_ ?_ <;> intro hc <;> try (exfalso; omega)) | (refine zo ?_ ?_ <;> intro hc <;> try (exfalso; omega)) | (refine zq ?_ ?_ <;> intro hc <;> try (exfalso; omega)) | refine wg_nil ?_ | refine then_go ?_ | refine wc_seq ?_ | refine wc_reg ?_ | refine wc_dreg ?_ | refine wc_block ?_ | refine zu ?_ | refine zv ?_ | refine wc_skip ?_ | refine wc_exit ?_ | refine wc_ret ?_ | refine then_ret ?_ | refine then_exit ?_ | refine out_go ?_ | refine out_ret ?_ | refine zA ?_ | refine zB ?_ | refine zw ?_ | refine zx ?_ | refine zy ?_ | refine wd_nil ?_)
      all_goals first
        | (rw [if_pos (by omega)] at hgo
           exact ⟨Or.inr rfl, _, rfl, hKn hgo _ hg_g (by omega)⟩)
        | (rw [if_neg (by omega)] at hgo
           rw [hgo] at hK
           exact ⟨Or.inr rfl, _, rfl, hK g ov oid hg_g (by omega) (fun _ => ⟨by omega, ho2⟩) hA⟩)
end Go.Proofs.YtlocnfaeiacphaaGreatDoor.Ev
