/- Contracts of the reference: frames. -/
import Derived.Test.YtlocnfaeiacphaaGreatDoorSyH
import Derived.KernelRfl
set_option linter.unusedVariables false
set_option linter.unusedSimpArgs false
set_option maxHeartbeats 4000000
namespace Go.Proofs.YtlocnfaeiacphaaGreatDoor.Ev
open Go

variable {c : C} {h : H} {nsv esv obv env_ : AV} {ns : List Nd} {es : List Ed} {os : List Ob} {idN idE idO lid : Nat} {mn : Int} {K : AV → H → Prop} {lv : AV} {st : List Fr}
theorem ones_ob' {a b e d : Int} {v : AV} (hv : one v = true) : ones [.int .i64 a, .int .i64 b, .int .i64 e, .int .i64 d, v] = true := by
  show (bif one v then true else false) = true
  rw [hv]; rfl

theorem wo_sliceY {P : Program} {X : Exts} {M : Mf} {env : Env'} {esz : Nat} {x y : XV} {id n es u : Nat} {cap : Option Nat} {p : IntKind} {z : Int} (hx : evE env x = some (.sl id 0 n es cap)) (hy : evE env y = some (.int p z)) (hz : z = (u : Int)) (h2 : u ≤ n) (h3 : es = esz)
    (hk : ∀ cap', K (.sl id 0 u es cap') h) : WO P X M c (.slice esz x none (some y)) env h K := by
  subst hz
  refine wo_slice (l := 0) (u := u) hx rfl ?_ (Nat.zero_le _) h2 h3 ?_
  · simp only [optE, hy]
  · rw [Nat.zero_mul, Nat.sub_zero]; exact hk _
theorem frames_ev {i : Nat} (hcx : Cx c h) (hL : Arr h lv 3 (st.map rF) lid) (hs0 : 0 < st.length) (hs1 : st.length ≤ 100) (hlid : lid < h.n) (hsl : seen c.vis lid = true) (hO : Arr h obv 5 (os.map Ob.row) idO) (hidO : idO < h.n) (hsO : seen c.vis idO = true) (hov : ∀ x : Int, 0 ≤ x → x < os.length → one (ob os x).v = true) (hi1 : 1 ≤ i) (hi2 : i < os.length) (hlo : os.length ≤ 100) (hn : h.n < 8000000)
    (hK1 : (ob os (i : Int)).c = (i : Int) - 1 → ∀ h' lv' lid', Grew h h' → h'.n ≤ h.n + 6 → h.n ≤ lid' → lid' < h'.n → Arr h' lv' 3 ((st ++ [((ob os (i : Int)).fr, (i : Int) - 1)]).map rF) lid' → K (.tup [lv', .bool true]) h')
    (hK2 : (ob os (i : Int)).c ≠ (i : Int) - 1 → frN st ((ob os (i : Int)).fr, (ob os (i : Int)).c) st.length = 0 → ∀ h', Grew h h' → h'.n ≤ h.n + 6 → K (.tup [.nils, .bool false]) h')
    (hK3 : (ob os (i : Int)).c ≠ (i : Int) - 1 → ∀ n, frN st ((ob os (i : Int)).fr, (ob os (i : Int)).c) st.length = n + 1 → ∀ h' cap, Grew h h' → h'.n ≤ h.n + 6 → K (.tup [.sl lid 0 (n + 1) 3 cap, .bool true]) h') :
    Gv Tryz.prog X0 Mx c 16 [lv, .agg [env_, obv], .int .i64 (i : Int)] h K := by
  have hnt : (59 : Nat) ≤ 1000000 := by decide
  have hlO : (os.map Ob.row).length = os.length := List.length_map ..
  have hlS : (st.map rF).length = st.length := List.length_map ..
  have hlow := hcx.low
  refine gv_fn x_frames (MK_other rfl _ _ _) (by simp) hnt ?_
  unfold s_frames
  refine wc_seq (wc_reg (rg_go hnt rfl rfl (wo_boxA rfl rfl (by omega) fun h1 hn1 hb1 hgr => ?_)))
  have hsb : seen c.vis h.n = true := hcx.new (Nat.le_refl _) (by omega)
  have hO1 := hO.grew hgr
  repeat' (first | refine z0 ?_ | refine z1 ?_ | refine z2 ?_ | refine z3 ?_ | refine z6 ?_ | refine z7 ?_ | refine z8 ?_ | refine z9 ?_ | refine zb ?_ | refine zc ?_ | refine zd ?_ | refine zg ?_ | refine zh ?_ | refine zi ?_ | refine zj ?_ | refine zl ?_ | (refine zo ?_ ?_ <;> intro hc <;> try (exfalso; omega)) | (refine zq ?_ ?_ <;> intro hc <;> try (exfalso; omega)) | refine wg_nil ?_ | refine then_go ?_ | refine wc_seq ?_ | refine wc_reg ?_ | refine wc_dreg ?_ | refine wc_block ?_ | refine zu ?_ | refine zv ?_ | refine wc_skip ?_ | refine wc_exit ?_ | refine wc_ret ?_ | refine then_ret ?_ | refine then_exit ?_ | refine out_go ?_ | refine out_ret ?_ | refine zA ?_ | refine zB ?_ | refine zw ?_ | refine zx ?_ | refine zy ?_ | refine wd_nil ?_)
  refine rg_bs hnt (hcx.mono hgr.le) (by omega) rfl rfl (by rfl) (by rfl) (by rfl) (ones_ob' (hov _ (by omega) (by omega))) fun h2 hn2 hb2 hg2 => ?_
  have hsb2 : seen c.vis h1.n = true := hcx.new (by omega) (by omega)
  have hgA := hgr.trans hg2
  have hL2 := hL.grew hgA
  by_cases hp : (ob os (i : Int)).c = (i : Int) - 1
  · repeat' (first | refine z0 ?_ | refine z1 ?_ | refine z2 ?_ | refine z3 ?_ | refine z6 ?_ | refine z7 ?_ | refine z8 ?_ | refine z9 ?_ | refine zb ?_ | refine zc ?_ | refine zd ?_ | refine zg ?_ | refine zh ?_ | refine zi ?_ | refine zj ?_ | refine zl ?_ | (refine zo ?_ ?_ <;> intro hc <;> try (exfalso; omega)) | (refine zq ?_ ?_ <;> intro hc <;> try (exfalso; omega)) | refine wg_nil ?_ | refine then_go ?_ | refine wc_seq ?_ | refine wc_reg ?_ | refine wc_dreg ?_ | refine wc_block ?_ | refine zu ?_ | refine zv ?_ | refine wc_skip ?_ | refine wc_exit ?_ | refine wc_ret ?_ | refine then_ret ?_ | refine then_exit ?_ | refine out_go ?_ | refine out_ret ?_ | refine zA ?_ | refine zB ?_ | refine zw ?_ | refine zx ?_ | refine zy ?_ | refine wd_nil ?_)
    refine wo_bsliceA rfl (by omega) fun h3 hn3 hb3 hg3 => ?_
    have hL3 := hL2.grew hg3
    have hb23 := (hg3.get h1.n (by omega)).trans hb2
    repeat' (first | refine z0 ?_ | refine z1 ?_ | refine z2 ?_ | refine z3 ?_ | refine z6 ?_ | refine z7 ?_ | refine z8 ?_ | refine z9 ?_ | refine zb ?_ | refine zc ?_ | refine zd ?_ | refine zg ?_ | refine zh ?_ | refine zi ?_ | refine zj ?_ | refine zl ?_ | (refine zo ?_ ?_ <;> intro hc <;> try (exfalso; omega)) | (refine zq ?_ ?_ <;> intro hc <;> try (exfalso; omega)) | refine wg_nil ?_ | refine then_go ?_ | refine wc_seq ?_ | refine wc_reg ?_ | refine wc_dreg ?_ | refine wc_block ?_ | refine zu ?_ | refine zv ?_ | refine wc_skip ?_ | refine wc_exit ?_ | refine wc_ret ?_ | refine then_ret ?_ | refine then_exit ?_ | refine out_go ?_ | refine out_ret ?_ | refine zA ?_ | refine zB ?_ | refine zw ?_ | refine zx ?_ | refine zy ?_ | refine wd_nil ?_)
    refine rd_bar hnt rfl rfl (wo_appE rfl hb3 (by repeat (first | exact seen_hit (by decide) (by omega) (by omega) (by omega) | refine seen_skip (by omega) ?_ (by omega))) rfl hL3 (by omega) (seen_old (by repeat (first | exact rs_nil | refine rs_add (by omega) ?_)) (by omega) (by omega) (by assumption)) (ones_rF _) (by omega) (by omega) fun h4 lv4 hL4 hn4 hg4 => ⟨(by repeat (first | exact unchF_nil | refine unchF_cons (by decide) ?_)), ?_⟩)
    have hb24 := (hg4.get h1.n (by omega)).trans hb23
    obtain ⟨⟨cap4, rfl⟩, -⟩ := hL4.full (by omega)
    repeat' (first | refine z0 ?_ | refine z1 ?_ | refine z2 ?_ | refine z3 ?_ | refine z6 ?_ | refine z7 ?_ | refine z8 ?_ | refine z9 ?_ | refine zb ?_ | refine zc ?_ | refine zd ?_ | refine zg ?_ | refine zh ?_ | refine zi ?_ | refine zj ?_ | refine zl ?_ | (refine zo ?_ ?_ <;> intro hc <;> try (exfalso; omega)) | (refine zq ?_ ?_ <;> intro hc <;> try (exfalso; omega)) | refine wg_nil ?_ | refine then_go ?_ | refine wc_seq ?_ | refine wc_reg ?_ | refine wc_dreg ?_ | refine wc_block ?_ | refine zu ?_ | refine zv ?_ | refine wc_skip ?_ | refine wc_exit ?_ | refine wc_ret ?_ | refine then_ret ?_ | refine then_exit ?_ | refine out_go ?_ | refine out_ret ?_ | refine zA ?_ | refine zB ?_ | refine zw ?_ | refine zx ?_ | refine zy ?_ | refine wd_nil ?_)
    refine wo_bsliceA rfl (by omega) fun h5 hn5 hb5 hg5 => ?_
    have hX : Arr h5 (.sl h4.n 0 1 3 (some 1)) 3 ([((ob os (i : Int)).fr, (i : Int) - 1)].map rF) h4.n := Arr.mkN rfl (by omega) (by omega) hb5 rfl (by simp [rF])
    have hL5 := hL4.grew hg5
    refine rd_bar hnt rfl rfl (wo_appArr rfl rfl hL5 (Or.inl (by intro q; rw [q] at hlS; simp at hlS; omega)) hX (by simp) (by repeat (first | exact seen_hit (by decide) (by omega) (by omega) (by omega) | refine seen_skip (by omega) ?_ (by omega))) (by rfl) (fun _ => ⟨(by repeat (first | exact seen_hit (by decide) (by omega) (by omega) (by omega) | refine seen_skip (by omega) ?_ (by omega))), by show c.floor ≤ _; omega⟩) (by simp; omega) (by omega) fun h6 lv6 hL6 hn6 hk6 => ⟨(by repeat (first | exact unchF_nil | refine unchF_cons (by decide) ?_)), ?_⟩)
    rw [← List.map_append] at hL6
    repeat' (first | refine z0 ?_ | refine z1 ?_ | refine z2 ?_ | refine z3 ?_ | refine z6 ?_ | refine z7 ?_ | refine z8 ?_ | refine z9 ?_ | refine zb ?_ | refine zc ?_ | refine zd ?_ | refine zg ?_ | refine zh ?_ | refine zi ?_ | refine zj ?_ | refine zl ?_ | (refine zo ?_ ?_ <;> intro hc <;> try (exfalso; omega)) | (refine zq ?_ ?_ <;> intro hc <;> try (exfalso; omega)) | refine wg_nil ?_ | refine then_go ?_ | refine wc_seq ?_ | refine wc_reg ?_ | refine wc_dreg ?_ | refine wc_block ?_ | refine zu ?_ | refine zv ?_ | refine wc_skip ?_ | refine wc_exit ?_ | refine wc_ret ?_ | refine then_ret ?_ | refine then_exit ?_ | refine out_go ?_ | refine out_ret ?_ | refine zA ?_ | refine zB ?_ | refine zw ?_ | refine zx ?_ | refine zy ?_ | refine wd_nil ?_)
    exact ⟨Or.inr rfl, _, rfl, hK1 hp h6 lv6 h5.n ⟨by omega, fun id q => (hk6 id (by omega) (fun _ => by omega)).trans ((hg5.get id (by omega)).trans ((hg4.get id (by omega)).trans ((hg3.get id (by omega)).trans (hgA.get id q))))⟩ (by omega) (by omega) (by omega) hL6⟩
  · repeat' (first | refine z0 ?_ | refine z1 ?_ | refine z2 ?_ | refine z3 ?_ | refine z6 ?_ | refine z7 ?_ | refine z8 ?_ | refine z9 ?_ | refine zb ?_ | refine zc ?_ | refine zd ?_ | refine zg ?_ | refine zh ?_ | refine zi ?_ | refine zj ?_ | refine zl ?_ | (refine zo ?_ ?_ <;> intro hc <;> try (exfalso; omega)) | (refine zq ?_ ?_ <;> intro hc <;> try (exfalso; omega)) | refine wg_nil ?_ | refine then_go ?_ | refine wc_seq ?_ | refine wc_reg ?_ | refine wc_dreg ?_ | refine wc_block ?_ | refine zu ?_ | refine zv ?_ | refine wc_skip ?_ | refine wc_exit ?_ | refine wc_ret ?_ | refine then_ret ?_ | refine then_exit ?_ | refine out_go ?_ | refine out_ret ?_ | refine zA ?_ | refine zB ?_ | refine zw ?_ | refine zx ?_ | refine zy ?_ | refine wd_nil ?_)
    refine wc_loopE (ι := Nat) (fun n => [(0, lv), (8, .ptr h1.n 0), (9, .int .i64 (n : Int))]) (fun n g => h2 = g ∧ n ≤ st.length ∧ frN st ((ob os (i : Int)).fr, (ob os (i : Int)).c) st.length = frN st ((ob os (i : Int)).fr, (ob os (i : Int)).c) n) (fun n => n) ?_ st.length ⟨rfl, Nat.le_refl _, rfl⟩ (Sub'.cons rfl (Sub'.cons rfl (Sub'.cons (by simp only [look]; show some _ = some _; congr 2; omega) (Sub'.nil _))))
    rintro n g ⟨rfl, hnl, hz⟩
    try simp only at hnl hz ⊢
    cases n with
    | zero =>
      repeat' (first | refine z0 ?_ | refine z1 ?_ | refine z2 ?_ | refine z3 ?_ | refine z6 ?_ | refine z7 ?_ | refine z8 ?_ | refine z9 ?_ | refine zb ?_ | refine zc ?_ | refine zd ?_ | refine zg ?_ | refine zh ?_ | refine zi ?_ | refine zj ?_ | refine zl ?_ | (refine zo ?_ ?_ <;> intro hc <;> try (exfalso; omega)) | (refine zq ?_ ?_ <;> intro hc <;> try (exfalso; omega)) | refine wg_nil ?_ | refine then_go ?_ | refine wc_seq ?_ | refine wc_reg ?_ | refine wc_dreg ?_ | refine wc_block ?_ | refine zu ?_ | refine zv ?_ | refine wc_skip ?_ | refine wc_exit ?_ | refine wc_ret ?_ | refine then_ret ?_ | refine then_exit ?_ | refine out_go ?_ | refine out_ret ?_ | refine zA ?_ | refine zB ?_ | refine zw ?_ | refine zx ?_ | refine zy ?_ | refine wd_nil ?_)
      exact ⟨Or.inr rfl, _, rfl, hK2 hp hz _ hgA (by omega)⟩
    | succ n =>
      have hrow : (st.map rF)[(((n + 1 : Nat) : Int) - 1).toNat]? = some [.int .i64 (fr st n).1, .int .i64 (fr st n).2, .nils] := by
        have e : (((n + 1 : Nat) : Int) - 1).toNat = n := by omega
        rw [e]; exact rF_row (by omega)
      rw [frN] at hz
      repeat' (first | refine z0 ?_ | refine z1 ?_ | refine z2 ?_ | refine z3 ?_ | refine z6 ?_ | refine z7 ?_ | refine z8 ?_ | refine z9 ?_ | refine zb ?_ | refine zc ?_ | refine zd ?_ | refine zg ?_ | refine zh ?_ | refine zi ?_ | refine zj ?_ | refine zl ?_ | (refine zo ?_ ?_ <;> intro hc <;> try (exfalso; omega)) | (refine zq ?_ ?_ <;> intro hc <;> try (exfalso; omega)) | refine wg_nil ?_ | refine then_go ?_ | refine wc_seq ?_ | refine wc_reg ?_ | refine wc_dreg ?_ | refine wc_block ?_ | refine zu ?_ | refine zv ?_ | refine wc_skip ?_ | refine wc_exit ?_ | refine wc_ret ?_ | refine then_ret ?_ | refine then_exit ?_ | refine out_go ?_ | refine out_ret ?_ | refine zA ?_ | refine zB ?_ | refine zw ?_ | refine zx ?_ | refine zy ?_ | refine wd_nil ?_)
      all_goals first
        | (rw [if_neg (fun q => by (have q1 := congrArg Prod.fst q; have q2 := congrArg Prod.snd q; simp only at q1 q2; omega))] at hz
           exact ⟨n, by simp, Sub'.cons rfl (Sub'.cons rfl (Sub'.cons (by simp only [look]; show some _ = some _; congr 2; omega) (Sub'.nil _))), rfl, by omega, hz⟩)
        | skip
      rw [if_pos (by apply Prod.ext <;> assumption)] at hz
      obtain ⟨⟨cap, hlv⟩, -⟩ := hL2.full (by omega)
      subst hlv
      refine wo_sliceY (u := n + 1) rfl rfl (by omega) (by omega) rfl fun cap' => ?_
      repeat' (first | refine z0 ?_ | refine z1 ?_ | refine z2 ?_ | refine z3 ?_ | refine z6 ?_ | refine z7 ?_ | refine z8 ?_ | refine z9 ?_ | refine zb ?_ | refine zc ?_ | refine zd ?_ | refine zg ?_ | refine zh ?_ | refine zi ?_ | refine zj ?_ | refine zl ?_ | (refine zo ?_ ?_ <;> intro hc <;> try (exfalso; omega)) | (refine zq ?_ ?_ <;> intro hc <;> try (exfalso; omega)) | refine wg_nil ?_ | refine then_go ?_ | refine wc_seq ?_ | refine wc_reg ?_ | refine wc_dreg ?_ | refine wc_block ?_ | refine zu ?_ | refine zv ?_ | refine wc_skip ?_ | refine wc_exit ?_ | refine wc_ret ?_ | refine then_ret ?_ | refine then_exit ?_ | refine out_go ?_ | refine out_ret ?_ | refine zA ?_ | refine zB ?_ | refine zw ?_ | refine zx ?_ | refine zy ?_ | refine wd_nil ?_)
      exact ⟨Or.inr rfl, _, rfl, hK3 hp n hz _ cap' hgA (by omega)⟩
end Go.Proofs.YtlocnfaeiacphaaGreatDoor.Ev
