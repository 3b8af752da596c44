/- The tracer: step. -/
import Derived.Test.YtlocnfaeiacphaaGreatDoorSyH
import Derived.Test.YtlocnfaeiacphaaGreatDoorCpX
import Derived.KernelRfl
set_option linter.unusedVariables false
set_option linter.unusedSimpArgs false
set_option maxHeartbeats 4000000
namespace Go.Proofs.YtlocnfaeiacphaaGreatDoor.Ev
open Go

variable {c : C} {h h' : H} {nsv esv obv : AV} {ns : List Nd} {es : List Ed} {os : List Ob} {idN idE idO m : Nat} {mn : Int} {K : AV → H → Prop} {sv pv : AV} {sid pid : Nat} {st : List Fr} {pa : List Int} {fl : Bool}

theorem ones_ob {a b e d : Int} {v : AV} (hv : one v = true) : ones [.int .i64 a, .int .i64 b, .int .i64 e, .int .i64 d, v] = true := by
  show (bif one v then true else false) = true
  rw [hv]; rfl
theorem tstep0_ev (hcx : Cx c h) (hT : Tc h m nsv esv mn obv ns es sv pv sid pid st pa fl) (hst0 : st = []) (hpa0 : pa = []) (hfl0 : fl = false) (hx : Tx c m) (hN : Arr h nsv 3 (ns.map Nd.row) idN) (hidN : idN < m) (hsN : seen c.vis idN = true) (hO : Arr h obv 5 (os.map Ob.row) idO) (hidO : idO < m) (hsO : seen c.vis idO = true) (hm0 : 0 ≤ mn) (hm1 : mn < ns.length) (ho0 : 0 < os.length) (hlo : os.length ≤ 100) (hov : ∀ x : Int, 0 ≤ x → x < os.length → one (ob os x).v = true) (hn : h.n < 7000000)
    (hK1 : badO ns os mn → ∀ h', h.n ≤ h'.n → h'.n ≤ h.n + 300 → (∀ id, id < m → h'.get id = h.get id) → Tc h' m nsv esv mn obv ns es sv pv sid pid st pa true → K (.tup []) h')
    (hK2 : ¬ badO ns os mn → ∀ h' sv' pv' sid' pid', h.n ≤ h'.n → h'.n ≤ h.n + 300 → (∀ id, id < m → h'.get id = h.get id) → Tc h' m nsv esv mn obv ns es sv' pv' sid' pid' [((ob os 0).fr, (ob os 0).c)] (takeS es ([], false) (first_ ns es os mn)).1 (takeS es ([], false) (first_ ns es os mn)).2 → K (.tup []) h') :
    Gv Tryz.prog X0 Mx c 12 [.ptr (m + 2) 0, .int .i64 0] h K := by
  have hnt : (171 : Nat) ≤ 1000000 := by decide
  have hlO : (os.map Ob.row).length = os.length := List.length_map ..
  have hlS : (st.map rL).length = st.length := List.length_map ..
  have hlN : (ns.map Nd.row).length = ns.length := List.length_map ..
  have hlow := hx.low
  have hlt := hT.lt
  have hst : seen c.vis (m + 2) = true := hx.vis _ (by omega) (by omega)
  have hsm : seen c.vis m = true := hx.vis _ (by omega) (by omega)
  have hsm1 : seen c.vis (m + 1) = true := hx.vis _ (by omega) (by omega)
  have hcell := hT.cell
  refine gv_fn x_tstep (MK_other rfl _ _ _) (by simp) hnt ?_
  unfold s_tstep
  repeat' (first | refine z0 ?_ | refine z1 ?_ | refine z2 ?_ | refine z3 ?_ | refine z4 ?_ | refine z6 ?_ | refine z7 ?_ | refine z8 ?_ | refine z9 ?_ | refine za ?_ | refine zb ?_ | refine zc ?_ | refine zd ?_ | refine zg ?_ | refine zh ?_ | refine zi ?_ | refine zj ?_ | refine zl ?_ | (refine zm ?_ ?_ <;> intro hc <;> try (exfalso; omega)) | (refine zp ?_ ?_ <;> intro hc <;> try (exfalso; omega)) | (refine zq ?_ ?_ <;> intro hc <;> try (exfalso; omega)) | (refine zr ?_ ?_ <;> intro hc <;> try (exfalso; omega)) | refine wg_nil ?_ | refine then_go ?_ | refine wc_seq ?_ | refine wc_reg ?_ | refine wc_dreg ?_ | refine wc_block ?_ | refine zu ?_ | refine zv ?_ | refine wc_skip ?_ | refine wc_exit ?_ | refine wc_ret ?_ | refine then_ret ?_ | refine then_exit ?_ | refine out_go ?_ | refine out_ret ?_ | refine zA ?_ | refine zB ?_ | refine zw ?_ | refine zx ?_ | refine zy ?_ | refine wd_nil ?_)
  refine rg_bs hnt (hcx.mono (by omega)) (by omega) rfl rfl (by rfl) (by rfl) (by rfl) (ones_ob (hov _ (by omega) (by omega))) fun h1 hn1 hb1 hg1 => ?_
  have hT1 := hT.grew hg1
  have hcell1 := hT1.cell
  have hO1 := hO.grew hg1
  have hsb : seen c.vis h.n = true := hx.vis _ (by omega) (by omega)
  repeat' (first | refine z0 ?_ | refine z1 ?_ | refine z2 ?_ | refine z3 ?_ | refine z4 ?_ | refine z6 ?_ | refine z7 ?_ | refine z8 ?_ | refine z9 ?_ | refine za ?_ | refine zb ?_ | refine zc ?_ | refine zd ?_ | refine zg ?_ | refine zh ?_ | refine zi ?_ | refine zj ?_ | refine zl ?_ | (refine zm ?_ ?_ <;> intro hc <;> try (exfalso; omega)) | (refine zp ?_ ?_ <;> intro hc <;> try (exfalso; omega)) | (refine zq ?_ ?_ <;> intro hc <;> try (exfalso; omega)) | (refine zr ?_ ?_ <;> intro hc <;> try (exfalso; omega)) | refine wg_nil ?_ | refine then_go ?_ | refine wc_seq ?_ | refine wc_reg ?_ | refine wc_dreg ?_ | refine wc_block ?_ | refine zu ?_ | refine zv ?_ | refine wc_skip ?_ | refine wc_exit ?_ | refine wc_ret ?_ | refine then_ret ?_ | refine then_exit ?_ | refine out_go ?_ | refine out_ret ?_ | refine zA ?_ | refine zB ?_ | refine zw ?_ | refine zx ?_ | refine zy ?_ | refine wd_nil ?_)
  refine wo_call rfl rfl (tat_ev hcell1 (by omega) (by omega) hT1.mN hO1 (by omega) hst hsm hsO (by omega) (by omega) (by omega) ?_)
  have hN1 := hN.grew hg1
  have hsl : st.length ≤ 100 := by rw [hst0]; simp
  repeat' (first | refine z0 ?_ | refine z1 ?_ | refine z2 ?_ | refine z3 ?_ | refine z4 ?_ | refine z6 ?_ | refine z7 ?_ | refine z8 ?_ | refine z9 ?_ | refine za ?_ | refine zb ?_ | refine zc ?_ | refine zd ?_ | refine zg ?_ | refine zh ?_ | refine zi ?_ | refine zj ?_ | refine zl ?_ | (refine zm ?_ ?_ <;> intro hc <;> try (exfalso; omega)) | (refine zp ?_ ?_ <;> intro hc <;> try (exfalso; omega)) | (refine zq ?_ ?_ <;> intro hc <;> try (exfalso; omega)) | (refine zr ?_ ?_ <;> intro hc <;> try (exfalso; omega)) | refine wg_nil ?_ | refine then_go ?_ | refine wc_seq ?_ | refine wc_reg ?_ | refine wc_dreg ?_ | refine wc_block ?_ | refine zu ?_ | refine zv ?_ | refine wc_skip ?_ | refine wc_exit ?_ | refine wc_ret ?_ | refine then_ret ?_ | refine then_exit ?_ | refine out_go ?_ | refine out_ret ?_ | refine zA ?_ | refine zB ?_ | refine zw ?_ | refine zx ?_ | refine zy ?_ | refine wd_nil ?_)
  all_goals first
    | (have hb : badO ns os mn := by (unfold badO; omega)
       refine rg_go0 hnt rfl (wo_storeA rfl rfl (by omega) hst hcell1 (by rfl) (by rfl) (by simp) (by omega) (by rfl) fun h3 hn3 hb3 hk3 => ?_)
       repeat' (first | refine z0 ?_ | refine z1 ?_ | refine z2 ?_ | refine z3 ?_ | refine z4 ?_ | refine z6 ?_ | refine z7 ?_ | refine z8 ?_ | refine z9 ?_ | refine za ?_ | refine zb ?_ | refine zc ?_ | refine zd ?_ | refine zg ?_ | refine zh ?_ | refine zi ?_ | refine zj ?_ | refine zl ?_ | (refine zm ?_ ?_ <;> intro hc <;> try (exfalso; omega)) | (refine zp ?_ ?_ <;> intro hc <;> try (exfalso; omega)) | (refine zq ?_ ?_ <;> intro hc <;> try (exfalso; omega)) | (refine zr ?_ ?_ <;> intro hc <;> try (exfalso; omega)) | refine wg_nil ?_ | refine then_go ?_ | refine wc_seq ?_ | refine wc_reg ?_ | refine wc_dreg ?_ | refine wc_block ?_ | refine zu ?_ | refine zv ?_ | refine wc_skip ?_ | refine wc_exit ?_ | refine wc_ret ?_ | refine then_ret ?_ | refine then_exit ?_ | refine out_go ?_ | refine out_ret ?_ | refine zA ?_ | refine zB ?_ | refine zw ?_ | refine zx ?_ | refine zy ?_ | refine wd_nil ?_)
       refine ⟨Or.inr rfl, _, rfl, hK1 hb h3 (by omega) (by omega) (fun id q => (hk3 id (by omega)).trans (hg1.get id (by omega))) ⟨hb3, by omega, hT1.mN.keep (hk3 m (by omega)), hT1.mE.keep (hk3 (m + 1) (by omega)), ?_, hT1.snil, fun q => absurd hst0 q, ?_, hT1.pnil, fun q => absurd hpa0 q, hT1.two⟩⟩
       · rw [hst0, hT1.snil hst0]; exact ⟨Or.inl ⟨rfl, Or.inl rfl⟩⟩
       · rw [hpa0, hT1.pnil hpa0]; exact ⟨Or.inl ⟨rfl, Or.inl rfl⟩⟩)
    | skip
  have hnb : ¬ badO ns os mn := by (unfold badO; omega)
  refine wo_call rfl rfl (ttake_ev (e := first_ ns es os mn) hT1 hx (by rw [hpa0]; simp) (by omega) fun h2 pv2 pid2 hT2 hF2 hn2' => ?_)
  have hF2l := hF2.le
  have hb2 := (hF2.get h.n (by omega) (by omega) (fun q => absurd hpa0 q)).trans hb1
  have hcell2 := hT2.cell
  repeat' (first | refine z0 ?_ | refine z1 ?_ | refine z2 ?_ | refine z3 ?_ | refine z4 ?_ | refine z6 ?_ | refine z7 ?_ | refine z8 ?_ | refine z9 ?_ | refine za ?_ | refine zb ?_ | refine zc ?_ | refine zd ?_ | refine zg ?_ | refine zh ?_ | refine zi ?_ | refine zj ?_ | refine zl ?_ | (refine zm ?_ ?_ <;> intro hc <;> try (exfalso; omega)) | (refine zp ?_ ?_ <;> intro hc <;> try (exfalso; omega)) | (refine zq ?_ ?_ <;> intro hc <;> try (exfalso; omega)) | (refine zr ?_ ?_ <;> intro hc <;> try (exfalso; omega)) | refine wg_nil ?_ | refine then_go ?_ | refine wc_seq ?_ | refine wc_reg ?_ | refine wc_dreg ?_ | refine wc_block ?_ | refine zu ?_ | refine zv ?_ | refine wc_skip ?_ | refine wc_exit ?_ | refine wc_ret ?_ | refine then_ret ?_ | refine then_exit ?_ | refine out_go ?_ | refine out_ret ?_ | refine zA ?_ | refine zB ?_ | refine zw ?_ | refine zx ?_ | refine zy ?_ | refine wd_nil ?_)
  refine wo_bsliceA rfl (by omega) fun h3 hn3 hb3 hg3 => ?_
  have hX : Arr h3 (.sl h2.n 0 1 2 (some 1)) 2 ([((ob os 0).fr, (ob os 0).c)].map rL) h2.n := Arr.mkN rfl (by omega) (by omega) hb3 rfl (by simp [rL])
  have hT3 := hT2.grew hg3
  have hmn : ∀ q : st.map rL ≠ [], st ≠ [] := fun q q' => q (by rw [q']; rfl)
  have hg3l := hg3.le
  have hsind : ∀ q : st ≠ [], m + 3 ≤ sid ∧ sid < h1.n := fun q => ⟨(hT1.sin q).1, (hT1.sin q).2⟩
  refine rd_bar hnt rfl rfl (wo_appArr rfl rfl hT3.stk ?_ hX (by simp) (by repeat (first | exact seen_hit (by decide) (by omega) (by omega) (by omega) | refine seen_skip (by omega) ?_ (by omega))) (by rfl) (fun q => ⟨seen_old (by repeat (first | exact rs_nil | refine rs_add (by omega) ?_)) (by omega) (by have := hsind (hmn q); omega) (hx.vis _ (by have := hsind (hmn q); omega) (by have := hsind (hmn q); omega)), by have := hsind (hmn q); show c.floor ≤ _; omega⟩) (by simp; omega) (by omega) fun h4 sv' hA4 hn4 hk4 => ⟨(by repeat (first | exact unchF_nil | refine unchF_cons (by decide) ?_)), ?_⟩)
  · by_cases q : st = []
    · exact Or.inr (hT.snil q)
    · exact Or.inl (by simpa using q)
  obtain ⟨⟨cap, rfl⟩, -⟩ := hA4.full (by simp)
  have hk4' : ∀ j, j < h2.n → (st ≠ [] → j ≠ sid) → h4.get j = h2.get j := fun j q1 q2 => (hk4 j (by omega) (fun q => q2 (hmn q))).trans (hg3.get j q1)
  have hcell4 := (hk4' (m + 2) (by omega) (fun q => by have := hsind q; omega)).trans hT2.cell
  repeat' (first | refine z0 ?_ | refine z1 ?_ | refine z2 ?_ | refine z3 ?_ | refine z4 ?_ | refine z6 ?_ | refine z7 ?_ | refine z8 ?_ | refine z9 ?_ | refine za ?_ | refine zb ?_ | refine zc ?_ | refine zd ?_ | refine zg ?_ | refine zh ?_ | refine zi ?_ | refine zj ?_ | refine zl ?_ | (refine zm ?_ ?_ <;> intro hc <;> try (exfalso; omega)) | (refine zp ?_ ?_ <;> intro hc <;> try (exfalso; omega)) | (refine zq ?_ ?_ <;> intro hc <;> try (exfalso; omega)) | (refine zr ?_ ?_ <;> intro hc <;> try (exfalso; omega)) | refine wg_nil ?_ | refine then_go ?_ | refine wc_seq ?_ | refine wc_reg ?_ | refine wc_dreg ?_ | refine wc_block ?_ | refine zu ?_ | refine zv ?_ | refine wc_skip ?_ | refine wc_exit ?_ | refine wc_ret ?_ | refine then_ret ?_ | refine then_exit ?_ | refine out_go ?_ | refine out_ret ?_ | refine zA ?_ | refine zB ?_ | refine zw ?_ | refine zx ?_ | refine zy ?_ | refine wd_nil ?_)
  refine rd_bar0 hnt rfl (wo_storeA rfl rfl (by show c.floor ≤ _; omega) (seen_old (by repeat (first | exact rs_nil | refine rs_add (by omega) ?_)) (by omega) (by omega) hst) hcell4 (by rfl) (by rfl) (by simp) (by omega) (by rfl) fun h5 hn5 hb5 hk5 => ⟨(by repeat (first | exact unchF_nil | refine unchF_cons (by decide) ?_)), ?_⟩)
  repeat' (first | refine z0 ?_ | refine z1 ?_ | refine z2 ?_ | refine z3 ?_ | refine z4 ?_ | refine z6 ?_ | refine z7 ?_ | refine z8 ?_ | refine z9 ?_ | refine za ?_ | refine zb ?_ | refine zc ?_ | refine zd ?_ | refine zg ?_ | refine zh ?_ | refine zi ?_ | refine zj ?_ | refine zl ?_ | (refine zm ?_ ?_ <;> intro hc <;> try (exfalso; omega)) | (refine zp ?_ ?_ <;> intro hc <;> try (exfalso; omega)) | (refine zq ?_ ?_ <;> intro hc <;> try (exfalso; omega)) | (refine zr ?_ ?_ <;> intro hc <;> try (exfalso; omega)) | refine wg_nil ?_ | refine then_go ?_ | refine wc_seq ?_ | refine wc_reg ?_ | refine wc_dreg ?_ | refine wc_block ?_ | refine zu ?_ | refine zv ?_ | refine wc_skip ?_ | refine wc_exit ?_ | refine wc_ret ?_ | refine then_ret ?_ | refine then_exit ?_ | refine out_go ?_ | refine out_ret ?_ | refine zA ?_ | refine zB ?_ | refine zw ?_ | refine zx ?_ | refine zy ?_ | refine wd_nil ?_)
  have hk5' : ∀ j, j < h2.n → j ≠ m + 2 → (st ≠ [] → j ≠ sid) → h5.get j = h2.get j := fun j q1 q2 q3 => (hk5 j q2).trans (hk4' j q1 q3)
  have hT5 : Tc h5 m nsv esv mn obv ns es (.sl h3.n 0 (st.map rL ++ [((ob os 0).fr, (ob os 0).c)].map rL).length 2 cap) pv2 h3.n pid2 (st ++ [((ob os 0).fr, (ob os 0).c)]) (takeS es (pa, fl) (first_ ns es os mn)).1 (takeS es (pa, fl) (first_ ns es os mn)).2 := by
    refine ⟨hb5, by omega, hT2.mN.keep (hk5' m (by omega) (by omega) (fun q => by have := hsind q; omega)), hT2.mE.keep (hk5' (m + 1) (by omega) (by omega) (fun q => by have := hsind q; omega)), ?_, fun q => by simp at q, fun _ => ⟨?_, ?_⟩, ?_, hT2.pnil, fun q => ?_, fun _ q => ?_⟩
    · rw [List.map_append]
      exact hA4.keep (by omega) (fun _ => hk5 _ (by omega))
    · omega
    · omega
    · by_cases q : (takeS es (pa, fl) (first_ ns es os mn)).1 = []
      · rw [q, hT2.pnil q]; exact ⟨Or.inl ⟨rfl, Or.inl rfl⟩⟩
      · have hp := hT2.pin q
        exact hT2.pth.keep (by omega) (fun _ => hk5' pid2 hp.2 (by omega) (fun q3 => Ne.symm (hT2.two q3 q)))
    · have := hT2.pin q; exact ⟨this.1, by omega⟩
    · have := hT2.pin q; omega
  rw [hst0, hpa0, hfl0] at hT5
  exact ⟨Or.inr rfl, _, rfl, hK2 hnb h5 _ _ _ _ (by omega) (by omega) (fun id q => (hk5' id (by omega) (by omega) (fun q' => by have := hsind q'; omega)).trans ((hF2.get id (by omega) (by omega) (fun q => absurd hpa0 q)).trans (hg1.get id (by omega)))) hT5⟩
theorem tstepN_ev {i : Nat} (hcx : Cx c h) (hT : Tc h m nsv esv mn obv ns es sv pv sid pid st pa fl) (hx : Tx c m) (hkd : ∀ f k, k ≠ 2 → ndIx ns ⟨f, k, -1⟩ = kdIx ns f k) (hO : Arr h obv 5 (os.map Ob.row) idO) (hidO : idO < m) (hsO : seen c.vis idO = true) (hi1 : 1 ≤ i) (hi2 : i < os.length) (hlo : os.length ≤ 100) (hov : ∀ x : Int, 0 ≤ x → x < os.length → one (ob os x).v = true) (hok : OkSt st i) (hpl : pa.length ≤ 700000) (hn : h.n < 7000000)
    (hK1 : stepE ns es os st i = none → ∀ h', h.n ≤ h'.n → h'.n ≤ h.n + 300 → (∀ id, id < m → h'.get id = h.get id) → Tc h' m nsv esv mn obv ns es sv pv sid pid st pa true → K (.tup []) h')
    (hK2 : ∀ p, stepE ns es os st i = some p → ∀ h' sv' pv' sid' pid', h.n ≤ h'.n → h'.n ≤ h.n + 300 → (∀ id, id < m → h'.get id = h.get id) → Tc h' m nsv esv mn obv ns es sv' pv' sid' pid' p.1 (takes es p.2 (pa, fl)).1 (takes es p.2 (pa, fl)).2 → K (.tup []) h') :
    Gv Tryz.prog X0 Mx c 12 [.ptr (m + 2) 0, .int .i64 (i : Int)] h K := by
  have hnt : (171 : Nat) ≤ 1000000 := by decide
  have hlO : (os.map Ob.row).length = os.length := List.length_map ..
  have hlS : (st.map rL).length = st.length := List.length_map ..
  have hlN : (ns.map Nd.row).length = ns.length := List.length_map ..
  have hlow := hx.low
  have hlt := hT.lt
  have hst : seen c.vis (m + 2) = true := hx.vis _ (by omega) (by omega)
  have hsm : seen c.vis m = true := hx.vis _ (by omega) (by omega)
  have hsm1 : seen c.vis (m + 1) = true := hx.vis _ (by omega) (by omega)
  have hcell := hT.cell
  refine gv_fn x_tstep (MK_other rfl _ _ _) (by simp) hnt ?_
  unfold s_tstep
  repeat' (first | refine z0 ?_ | refine z1 ?_ | refine z2 ?_ | refine z3 ?_ | refine z4 ?_ | refine z6 ?_ | refine z7 ?_ | refine z8 ?_ | refine z9 ?_ | refine za ?_ | refine zb ?_ | refine zc ?_ | refine zd ?_ | refine zg ?_ | refine zh ?_ | refine zi ?_ | refine zj ?_ | refine zl ?_ | (refine zm ?_ ?_ <;> intro hc <;> try (exfalso; omega)) | (refine zp ?_ ?_ <;> intro hc <;> try (exfalso; omega)) | (refine zq ?_ ?_ <;> intro hc <;> try (exfalso; omega)) | (refine zr ?_ ?_ <;> intro hc <;> try (exfalso; omega)) | refine wg_nil ?_ | refine then_go ?_ | refine wc_seq ?_ | refine wc_reg ?_ | refine wc_dreg ?_ | refine wc_block ?_ | refine zu ?_ | refine zv ?_ | refine wc_skip ?_ | refine wc_exit ?_ | refine wc_ret ?_ | refine then_ret ?_ | refine then_exit ?_ | refine out_go ?_ | refine out_ret ?_ | refine zA ?_ | refine zB ?_ | refine zw ?_ | refine zx ?_ | refine zy ?_ | refine wd_nil ?_)
  refine rg_bs hnt (hcx.mono (by omega)) (by omega) rfl rfl (by rfl) (by rfl) (by rfl) (ones_ob (hov _ (by omega) (by omega))) fun h1 hn1 hb1 hg1 => ?_
  have hT1 := hT.grew hg1
  have hcell1 := hT1.cell
  have hO1 := hO.grew hg1
  have hsb : seen c.vis h.n = true := hx.vis _ (by omega) (by omega)
  repeat' (first | refine z0 ?_ | refine z1 ?_ | refine z2 ?_ | refine z3 ?_ | refine z4 ?_ | refine z6 ?_ | refine z7 ?_ | refine z8 ?_ | refine z9 ?_ | refine za ?_ | refine zb ?_ | refine zc ?_ | refine zd ?_ | refine zg ?_ | refine zh ?_ | refine zi ?_ | refine zj ?_ | refine zl ?_ | (refine zm ?_ ?_ <;> intro hc <;> try (exfalso; omega)) | (refine zp ?_ ?_ <;> intro hc <;> try (exfalso; omega)) | (refine zq ?_ ?_ <;> intro hc <;> try (exfalso; omega)) | (refine zr ?_ ?_ <;> intro hc <;> try (exfalso; omega)) | refine wg_nil ?_ | refine then_go ?_ | refine wc_seq ?_ | refine wc_reg ?_ | refine wc_dreg ?_ | refine wc_block ?_ | refine zu ?_ | refine zv ?_ | refine wc_skip ?_ | refine wc_exit ?_ | refine wc_ret ?_ | refine then_ret ?_ | refine then_exit ?_ | refine out_go ?_ | refine out_ret ?_ | refine zA ?_ | refine zB ?_ | refine zw ?_ | refine zx ?_ | refine zy ?_ | refine wd_nil ?_)
  refine wo_call rfl rfl (tat_ev hcell1 (by omega) (by omega) hT1.mN hO1 (by omega) hst hsm hsO (by omega) (by omega) (by omega) ?_)
  have hsne : st ≠ [] := fun q => by have := hok.pos; rw [q] at this; simp at this
  have hsin := hT.sin hsne
  have hss : seen c.vis sid = true := hx.vis _ (by omega) (by omega)
  have hsi := hok.le
  have hsl : st.length ≤ 100 := by omega
  repeat' (first | refine z0 ?_ | refine z1 ?_ | refine z2 ?_ | refine z3 ?_ | refine z4 ?_ | refine z6 ?_ | refine z7 ?_ | refine z8 ?_ | refine z9 ?_ | refine za ?_ | refine zb ?_ | refine zc ?_ | refine zd ?_ | refine zg ?_ | refine zh ?_ | refine zi ?_ | refine zj ?_ | refine zl ?_ | (refine zm ?_ ?_ <;> intro hc <;> try (exfalso; omega)) | (refine zp ?_ ?_ <;> intro hc <;> try (exfalso; omega)) | (refine zq ?_ ?_ <;> intro hc <;> try (exfalso; omega)) | (refine zr ?_ ?_ <;> intro hc <;> try (exfalso; omega)) | refine wg_nil ?_ | refine then_go ?_ | refine wc_seq ?_ | refine wc_reg ?_ | refine wc_dreg ?_ | refine wc_block ?_ | refine zu ?_ | refine zv ?_ | refine wc_skip ?_ | refine wc_exit ?_ | refine wc_ret ?_ | refine then_ret ?_ | refine then_exit ?_ | refine out_go ?_ | refine out_ret ?_ | refine zA ?_ | refine zB ?_ | refine zw ?_ | refine zx ?_ | refine zy ?_ | refine wd_nil ?_)
  refine wo_call rfl rfl (tat_ev hcell1 (by omega) (by omega) hT1.mN hO1 (by omega) hst hsm hsO (by omega) (by omega) (by omega) ?_)
  by_cases hpush : (ob os (i : Int)).c = (i : Int) - 1
  · have hst' : stepE ns es os st i = some (st ++ [((ob os (i : Int)).fr, (ob os (i : Int)).c)], [⟨nI ns (ob os ((i : Int) - 1)), kdIx ns (ob os (i : Int)).f 1, 2, nI ns (ob os ((i : Int) - 1))⟩, ⟨kdIx ns (ob os (i : Int)).f 1, nI ns (ob os (i : Int)), 1, -1⟩]) := by unfold stepE; rw [if_pos hpush, hpush]
    have hK := hK2 _ hst'
    simp only [takes_cons] at hK
    have hlen := takeS_len es (pa, fl) ⟨nI ns (ob os ((i : Int) - 1)), kdIx ns (ob os (i : Int)).f 1, 2, nI ns (ob os ((i : Int) - 1))⟩
    simp only at hlen
    repeat' (first | refine z0 ?_ | refine z1 ?_ | refine z2 ?_ | refine z3 ?_ | refine z4 ?_ | refine z6 ?_ | refine z7 ?_ | refine z8 ?_ | refine z9 ?_ | refine za ?_ | refine zb ?_ | refine zc ?_ | refine zd ?_ | refine zg ?_ | refine zh ?_ | refine zi ?_ | refine zj ?_ | refine zl ?_ | (refine zm ?_ ?_ <;> intro hc <;> try (exfalso; omega)) | (refine zp ?_ ?_ <;> intro hc <;> try (exfalso; omega)) | (refine zq ?_ ?_ <;> intro hc <;> try (exfalso; omega)) | (refine zr ?_ ?_ <;> intro hc <;> try (exfalso; omega)) | refine wg_nil ?_ | refine then_go ?_ | refine wc_seq ?_ | refine wc_reg ?_ | refine wc_dreg ?_ | refine wc_block ?_ | refine zu ?_ | refine zv ?_ | refine wc_skip ?_ | refine wc_exit ?_ | refine wc_ret ?_ | refine then_ret ?_ | refine then_exit ?_ | refine out_go ?_ | refine out_ret ?_ | refine zA ?_ | refine zB ?_ | refine zw ?_ | refine zx ?_ | refine zy ?_ | refine wd_nil ?_)
    refine wo_call rfl rfl (tnode_ev hcell1 hT1.mN hst hsm ?_)
    rw [hkd _ _ (by decide)]
    repeat' (first | refine z0 ?_ | refine z1 ?_ | refine z2 ?_ | refine z3 ?_ | refine z4 ?_ | refine z6 ?_ | refine z7 ?_ | refine z8 ?_ | refine z9 ?_ | refine za ?_ | refine zb ?_ | refine zc ?_ | refine zd ?_ | refine zg ?_ | refine zh ?_ | refine zi ?_ | refine zj ?_ | refine zl ?_ | (refine zm ?_ ?_ <;> intro hc <;> try (exfalso; omega)) | (refine zp ?_ ?_ <;> intro hc <;> try (exfalso; omega)) | (refine zq ?_ ?_ <;> intro hc <;> try (exfalso; omega)) | (refine zr ?_ ?_ <;> intro hc <;> try (exfalso; omega)) | refine wg_nil ?_ | refine then_go ?_ | refine wc_seq ?_ | refine wc_reg ?_ | refine wc_dreg ?_ | refine wc_block ?_ | refine zu ?_ | refine zv ?_ | refine wc_skip ?_ | refine wc_exit ?_ | refine wc_ret ?_ | refine then_ret ?_ | refine then_exit ?_ | refine out_go ?_ | refine out_ret ?_ | refine zA ?_ | refine zB ?_ | refine zw ?_ | refine zx ?_ | refine zy ?_ | refine wd_nil ?_)
    refine wo_call rfl rfl (ttake_ev (e := ⟨nI ns (ob os ((i : Int) - 1)), kdIx ns (ob os (i : Int)).f 1, 2, nI ns (ob os ((i : Int) - 1))⟩) hT1 hx (by omega) (by omega) fun h6 pv6 pid6 hT6 hF6 hn6' => ?_)
    repeat' (first | refine z0 ?_ | refine z1 ?_ | refine z2 ?_ | refine z3 ?_ | refine z4 ?_ | refine z6 ?_ | refine z7 ?_ | refine z8 ?_ | refine z9 ?_ | refine za ?_ | refine zb ?_ | refine zc ?_ | refine zd ?_ | refine zg ?_ | refine zh ?_ | refine zi ?_ | refine zj ?_ | refine zl ?_ | (refine zm ?_ ?_ <;> intro hc <;> try (exfalso; omega)) | (refine zp ?_ ?_ <;> intro hc <;> try (exfalso; omega)) | (refine zq ?_ ?_ <;> intro hc <;> try (exfalso; omega)) | (refine zr ?_ ?_ <;> intro hc <;> try (exfalso; omega)) | refine wg_nil ?_ | refine then_go ?_ | refine wc_seq ?_ | refine wc_reg ?_ | refine wc_dreg ?_ | refine wc_block ?_ | refine zu ?_ | refine zv ?_ | refine wc_skip ?_ | refine wc_exit ?_ | refine wc_ret ?_ | refine then_ret ?_ | refine then_exit ?_ | refine out_go ?_ | refine out_ret ?_ | refine zA ?_ | refine zB ?_ | refine zw ?_ | refine zx ?_ | refine zy ?_ | refine wd_nil ?_)
    refine wo_call rfl rfl (ttake_ev (e := ⟨kdIx ns (ob os (i : Int)).f 1, nI ns (ob os (i : Int)), 1, -1⟩) hT6 hx (by omega) (by omega) fun h2 pv2 pid2 hT2 hF2' hn2' => ?_)
    have hF2 := hF6.trans hF2'
    have hF2l := hF2.le
    have hF6l := hF6.le
    have hb2 := (hF2.get h.n (by omega) (by omega) (fun q => by have := hT.pin q; omega)).trans hb1
    have hcell2 := hT2.cell
    repeat' (first | refine z0 ?_ | refine z1 ?_ | refine z2 ?_ | refine z3 ?_ | refine z4 ?_ | refine z6 ?_ | refine z7 ?_ | refine z8 ?_ | refine z9 ?_ | refine za ?_ | refine zb ?_ | refine zc ?_ | refine zd ?_ | refine zg ?_ | refine zh ?_ | refine zi ?_ | refine zj ?_ | refine zl ?_ | (refine zm ?_ ?_ <;> intro hc <;> try (exfalso; omega)) | (refine zp ?_ ?_ <;> intro hc <;> try (exfalso; omega)) | (refine zq ?_ ?_ <;> intro hc <;> try (exfalso; omega)) | (refine zr ?_ ?_ <;> intro hc <;> try (exfalso; omega)) | refine wg_nil ?_ | refine then_go ?_ | refine wc_seq ?_ | refine wc_reg ?_ | refine wc_dreg ?_ | refine wc_block ?_ | refine zu ?_ | refine zv ?_ | refine wc_skip ?_ | refine wc_exit ?_ | refine wc_ret ?_ | refine then_ret ?_ | refine then_exit ?_ | refine out_go ?_ | refine out_ret ?_ | refine zA ?_ | refine zB ?_ | refine zw ?_ | refine zx ?_ | refine zy ?_ | refine wd_nil ?_)
    refine wo_bsliceA rfl (by omega) fun h3 hn3 hb3 hg3 => ?_
    have hX : Arr h3 (.sl h2.n 0 1 2 (some 1)) 2 ([((ob os (i : Int)).fr, (ob os (i : Int)).c)].map rL) h2.n := Arr.mkN rfl (by omega) (by omega) hb3 rfl (by simp [rL])
    have hT3 := hT2.grew hg3
    have hmn : ∀ q : st.map rL ≠ [], st ≠ [] := fun q q' => q (by rw [q']; rfl)
    have hg3l := hg3.le
    have hsind : ∀ q : st ≠ [], m + 3 ≤ sid ∧ sid < h1.n := fun q => ⟨(hT1.sin q).1, (hT1.sin q).2⟩
    refine rd_bar hnt rfl rfl (wo_appArr rfl rfl hT3.stk ?_ hX (by simp) (by repeat (first | exact seen_hit (by decide) (by omega) (by omega) (by omega) | refine seen_skip (by omega) ?_ (by omega))) (by rfl) (fun q => ⟨seen_old (by repeat (first | exact rs_nil | refine rs_add (by omega) ?_)) (by omega) (by have := hsind (hmn q); omega) (hx.vis _ (by have := hsind (hmn q); omega) (by have := hsind (hmn q); omega)), by have := hsind (hmn q); show c.floor ≤ _; omega⟩) (by simp; omega) (by omega) fun h4 sv' hA4 hn4 hk4 => ⟨(by repeat (first | exact unchF_nil | refine unchF_cons (by decide) ?_)), ?_⟩)
    · by_cases q : st = []
      · exact Or.inr (hT.snil q)
      · exact Or.inl (by simpa using q)
    obtain ⟨⟨cap, rfl⟩, -⟩ := hA4.full (by simp)
    have hk4' : ∀ j, j < h2.n → (st ≠ [] → j ≠ sid) → h4.get j = h2.get j := fun j q1 q2 => (hk4 j (by omega) (fun q => q2 (hmn q))).trans (hg3.get j q1)
    have hcell4 := (hk4' (m + 2) (by omega) (fun q => by have := hsind q; omega)).trans hT2.cell
    repeat' (first | refine z0 ?_ | refine z1 ?_ | refine z2 ?_ | refine z3 ?_ | refine z4 ?_ | refine z6 ?_ | refine z7 ?_ | refine z8 ?_ | refine z9 ?_ | refine za ?_ | refine zb ?_ | refine zc ?_ | refine zd ?_ | refine zg ?_ | refine zh ?_ | refine zi ?_ | refine zj ?_ | refine zl ?_ | (refine zm ?_ ?_ <;> intro hc <;> try (exfalso; omega)) | (refine zp ?_ ?_ <;> intro hc <;> try (exfalso; omega)) | (refine zq ?_ ?_ <;> intro hc <;> try (exfalso; omega)) | (refine zr ?_ ?_ <;> intro hc <;> try (exfalso; omega)) | refine wg_nil ?_ | refine then_go ?_ | refine wc_seq ?_ | refine wc_reg ?_ | refine wc_dreg ?_ | refine wc_block ?_ | refine zu ?_ | refine zv ?_ | refine wc_skip ?_ | refine wc_exit ?_ | refine wc_ret ?_ | refine then_ret ?_ | refine then_exit ?_ | refine out_go ?_ | refine out_ret ?_ | refine zA ?_ | refine zB ?_ | refine zw ?_ | refine zx ?_ | refine zy ?_ | refine wd_nil ?_)
    refine rd_bar0 hnt rfl (wo_storeA rfl rfl (by show c.floor ≤ _; omega) (seen_old (by repeat (first | exact rs_nil | refine rs_add (by omega) ?_)) (by omega) (by omega) hst) hcell4 (by rfl) (by rfl) (by simp) (by omega) (by rfl) fun h5 hn5 hb5 hk5 => ⟨(by repeat (first | exact unchF_nil | refine unchF_cons (by decide) ?_)), ?_⟩)
    repeat' (first | refine z0 ?_ | refine z1 ?_ | refine z2 ?_ | refine z3 ?_ | refine z4 ?_ | refine z6 ?_ | refine z7 ?_ | refine z8 ?_ | refine z9 ?_ | refine za ?_ | refine zb ?_ | refine zc ?_ | refine zd ?_ | refine zg ?_ | refine zh ?_ | refine zi ?_ | refine zj ?_ | refine zl ?_ | (refine zm ?_ ?_ <;> intro hc <;> try (exfalso; omega)) | (refine zp ?_ ?_ <;> intro hc <;> try (exfalso; omega)) | (refine zq ?_ ?_ <;> intro hc <;> try (exfalso; omega)) | (refine zr ?_ ?_ <;> intro hc <;> try (exfalso; omega)) | refine wg_nil ?_ | refine then_go ?_ | refine wc_seq ?_ | refine wc_reg ?_ | refine wc_dreg ?_ | refine wc_block ?_ | refine zu ?_ | refine zv ?_ | refine wc_skip ?_ | refine wc_exit ?_ | refine wc_ret ?_ | refine then_ret ?_ | refine then_exit ?_ | refine out_go ?_ | refine out_ret ?_ | refine zA ?_ | refine zB ?_ | refine zw ?_ | refine zx ?_ | refine zy ?_ | refine wd_nil ?_)
    have hk5' : ∀ j, j < h2.n → j ≠ m + 2 → (st ≠ [] → j ≠ sid) → h5.get j = h2.get j := fun j q1 q2 q3 => (hk5 j q2).trans (hk4' j q1 q3)
    have hT5 : Tc h5 m nsv esv mn obv ns es (.sl h3.n 0 (st.map rL ++ [((ob os (i : Int)).fr, (ob os (i : Int)).c)].map rL).length 2 cap) pv2 h3.n pid2 (st ++ [((ob os (i : Int)).fr, (ob os (i : Int)).c)]) (takeS es (takeS es (pa, fl) ⟨nI ns (ob os ((i : Int) - 1)), kdIx ns (ob os (i : Int)).f 1, 2, nI ns (ob os ((i : Int) - 1))⟩) ⟨kdIx ns (ob os (i : Int)).f 1, nI ns (ob os (i : Int)), 1, -1⟩).1 (takeS es (takeS es (pa, fl) ⟨nI ns (ob os ((i : Int) - 1)), kdIx ns (ob os (i : Int)).f 1, 2, nI ns (ob os ((i : Int) - 1))⟩) ⟨kdIx ns (ob os (i : Int)).f 1, nI ns (ob os (i : Int)), 1, -1⟩).2 := by
      refine ⟨hb5, by omega, hT2.mN.keep (hk5' m (by omega) (by omega) (fun q => by have := hsind q; omega)), hT2.mE.keep (hk5' (m + 1) (by omega) (by omega) (fun q => by have := hsind q; omega)), ?_, fun q => by simp at q, fun _ => ⟨?_, ?_⟩, ?_, hT2.pnil, fun q => ?_, fun _ q => ?_⟩
      · rw [List.map_append]
        exact hA4.keep (by omega) (fun _ => hk5 _ (by omega))
      · omega
      · omega
      · by_cases q : (takeS es (takeS es (pa, fl) ⟨nI ns (ob os ((i : Int) - 1)), kdIx ns (ob os (i : Int)).f 1, 2, nI ns (ob os ((i : Int) - 1))⟩) ⟨kdIx ns (ob os (i : Int)).f 1, nI ns (ob os (i : Int)), 1, -1⟩).1 = []
        · rw [q, hT2.pnil q]; exact ⟨Or.inl ⟨rfl, Or.inl rfl⟩⟩
        · have hp := hT2.pin q
          exact hT2.pth.keep (by omega) (fun _ => hk5' pid2 hp.2 (by omega) (fun q3 => Ne.symm (hT2.two q3 q)))
      · have := hT2.pin q; exact ⟨this.1, by omega⟩
      · have := hT2.pin q; omega

    exact ⟨Or.inr rfl, _, rfl, hK h5 _ _ _ _ (by omega) (by omega) (fun id q => (hk5' id (by omega) (by omega) (fun q' => by have := hsind q'; omega)).trans ((hF2.get id (by omega) (by omega) (fun q => by have := hT.pin q; omega)).trans (hg1.get id (by omega)))) hT5⟩
  · have hstk1 := hT1.stk
    repeat' (first | refine z0 ?_ | refine z1 ?_ | refine z2 ?_ | refine z3 ?_ | refine z4 ?_ | refine z6 ?_ | refine z7 ?_ | refine z8 ?_ | refine z9 ?_ | refine za ?_ | refine zb ?_ | refine zc ?_ | refine zd ?_ | refine zg ?_ | refine zh ?_ | refine zi ?_ | refine zj ?_ | refine zl ?_ | (refine zm ?_ ?_ <;> intro hc <;> try (exfalso; omega)) | (refine zp ?_ ?_ <;> intro hc <;> try (exfalso; omega)) | (refine zq ?_ ?_ <;> intro hc <;> try (exfalso; omega)) | (refine zr ?_ ?_ <;> intro hc <;> try (exfalso; omega)) | refine wg_nil ?_ | refine wc_seq ?_ | refine wc_reg ?_ | refine wc_dreg ?_ | refine wc_block ?_ | refine zu ?_ | refine zv ?_ | refine wc_skip ?_ | refine wc_exit ?_ | refine wc_ret ?_ | refine then_ret ?_ | refine then_exit ?_ | refine out_go ?_ | refine out_ret ?_ | refine zA ?_ | refine zB ?_ | refine zw ?_ | refine zx ?_ | refine zy ?_ | refine wd_nil ?_)
    refine then_go ?_
    refine wc_seqM (ι := Unit) (fun _ => [(0, .ptr (m + 2) 0), (1, .int .i64 (i : Int)), (4, .ptr h.n 0), (5, .int .i64 (nI ns (ob os (i : Int)))), (6, .int .i64 (nI ns (ob os ((i : Int) - 1))))]) (fun _ g => h1 = g) ?_ ?_
    · repeat' (first | refine z0 ?_ | refine z1 ?_ | refine z2 ?_ | refine z3 ?_ | refine z4 ?_ | refine z6 ?_ | refine z7 ?_ | refine z8 ?_ | refine z9 ?_ | refine za ?_ | refine zb ?_ | refine zc ?_ | refine zd ?_ | refine zg ?_ | refine zh ?_ | refine zi ?_ | refine zj ?_ | refine zl ?_ | (refine zm ?_ ?_ <;> intro hc <;> try (exfalso; omega)) | (refine zp ?_ ?_ <;> intro hc <;> try (exfalso; omega)) | (refine zq ?_ ?_ <;> intro hc <;> try (exfalso; omega)) | (refine zr ?_ ?_ <;> intro hc <;> try (exfalso; omega)) | refine wg_nil ?_ | refine then_go ?_ | refine wc_seq ?_ | refine wc_reg ?_ | refine wc_dreg ?_ | refine wc_block ?_ | refine zu ?_ | refine zv ?_ | refine wc_skip ?_ | refine wc_exit ?_ | refine wc_ret ?_ | refine then_ret ?_ | refine then_exit ?_ | refine out_go ?_ | refine out_ret ?_ | refine zA ?_ | refine zB ?_ | refine zw ?_ | refine zx ?_ | refine zy ?_ | refine wd_nil ?_)
      all_goals first
        | exact ⟨(), (Sub'.cons rfl (Sub'.cons rfl (Sub'.cons rfl (Sub'.cons rfl (Sub'.cons rfl (Sub'.nil _)))))), rfl⟩
        | (exfalso; omega)
    rintro _ _ rfl
    repeat' (first | refine z0 ?_ | refine z1 ?_ | refine z2 ?_ | refine z3 ?_ | refine z4 ?_ | refine z6 ?_ | refine z7 ?_ | refine z8 ?_ | refine z9 ?_ | refine za ?_ | refine zb ?_ | refine zc ?_ | refine zd ?_ | refine zg ?_ | refine zh ?_ | refine zi ?_ | refine zj ?_ | refine zl ?_ | (refine zm ?_ ?_ <;> intro hc <;> try (exfalso; omega)) | (refine zp ?_ ?_ <;> intro hc <;> try (exfalso; omega)) | (refine zq ?_ ?_ <;> intro hc <;> try (exfalso; omega)) | (refine zr ?_ ?_ <;> intro hc <;> try (exfalso; omega)) | refine wg_nil ?_ | refine wc_seq ?_ | refine wc_reg ?_ | refine wc_dreg ?_ | refine wc_block ?_ | refine zu ?_ | refine zv ?_ | refine wc_skip ?_ | refine wc_exit ?_ | refine wc_ret ?_ | refine then_ret ?_ | refine then_exit ?_ | refine out_go ?_ | refine out_ret ?_ | refine zA ?_ | refine zB ?_ | refine zw ?_ | refine zx ?_ | refine zy ?_ | refine wd_nil ?_)
    refine then_go ?_
    refine wc_seqM (ι := Nat) (fun n => [(0, .ptr (m + 2) 0), (1, .int .i64 (i : Int)), (4, .ptr h.n 0), (5, .int .i64 (nI ns (ob os (i : Int)))), (6, .int .i64 (nI ns (ob os ((i : Int) - 1)))), (8, .int .i64 ((n : Int) - 1))]) (fun n g => h1 = g ∧ frN st ((ob os (i : Int)).fr, (ob os (i : Int)).c) st.length = n) ?_ ?_
    · refine wc_block ?_
      refine wc_loopE (ι := Nat) (fun n => [(0, .ptr (m + 2) 0), (1, .int .i64 (i : Int)), (4, .ptr h.n 0), (5, .int .i64 (nI ns (ob os (i : Int)))), (6, .int .i64 (nI ns (ob os ((i : Int) - 1)))), (8, .int .i64 ((n : Int) - 1))]) (fun n g => h1 = g ∧ n ≤ st.length ∧ frN st ((ob os (i : Int)).fr, (ob os (i : Int)).c) st.length = frN st ((ob os (i : Int)).fr, (ob os (i : Int)).c) n) (fun n => n) ?_ st.length ⟨rfl, Nat.le_refl _, rfl⟩ (Sub'.cons rfl (Sub'.cons rfl (Sub'.cons rfl (Sub'.cons rfl (Sub'.cons rfl (Sub'.cons (by simp only [look]; show some _ = some _; congr 2; omega) (Sub'.nil _)))))))
      rintro n g ⟨rfl, hnl, hz⟩
      try simp only at hnl hz ⊢
      cases n with
      | zero =>
        repeat' (first | refine z0 ?_ | refine z1 ?_ | refine z2 ?_ | refine z3 ?_ | refine z4 ?_ | refine z6 ?_ | refine z7 ?_ | refine z8 ?_ | refine z9 ?_ | refine za ?_ | refine zb ?_ | refine zc ?_ | refine zd ?_ | refine zg ?_ | refine zh ?_ | refine zi ?_ | refine zj ?_ | refine zl ?_ | (refine zm ?_ ?_ <;> intro hc <;> try (exfalso; omega)) | (refine zp ?_ ?_ <;> intro hc <;> try (exfalso; omega)) | (refine zq ?_ ?_ <;> intro hc <;> try (exfalso; omega)) | (refine zr ?_ ?_ <;> intro hc <;> try (exfalso; omega)) | refine wg_nil ?_ | refine then_go ?_ | refine wc_seq ?_ | refine wc_reg ?_ | refine wc_dreg ?_ | refine wc_block ?_ | refine zu ?_ | refine zv ?_ | refine wc_skip ?_ | refine wc_exit ?_ | refine wc_ret ?_ | refine then_ret ?_ | refine then_exit ?_ | refine out_go ?_ | refine out_ret ?_ | refine zA ?_ | refine zB ?_ | refine zw ?_ | refine zx ?_ | refine zy ?_ | refine wd_nil ?_)
        exact ⟨0, (Sub'.cons rfl (Sub'.cons rfl (Sub'.cons rfl (Sub'.cons rfl (Sub'.cons rfl (Sub'.cons rfl (Sub'.nil _))))))), rfl, hz⟩
      | succ n =>
        have hrow : (st.map rL)[(((n + 1 : Nat) : Int) - 1).toNat]? = some [.int .i64 (fr st n).1, .int .i64 (fr st n).2] := by
          have e : (((n + 1 : Nat) : Int) - 1).toNat = n := by omega
          rw [e]; exact rL_row (by omega)
        rw [frN] at hz
        repeat' (first | refine z0 ?_ | refine z1 ?_ | refine z2 ?_ | refine z3 ?_ | refine z4 ?_ | refine z6 ?_ | refine z7 ?_ | refine z8 ?_ | refine z9 ?_ | refine za ?_ | refine zb ?_ | refine zc ?_ | refine zd ?_ | refine zg ?_ | refine zh ?_ | refine zi ?_ | refine zj ?_ | refine zl ?_ | (refine zm ?_ ?_ <;> intro hc <;> try (exfalso; omega)) | (refine zp ?_ ?_ <;> intro hc <;> try (exfalso; omega)) | (refine zq ?_ ?_ <;> intro hc <;> try (exfalso; omega)) | (refine zr ?_ ?_ <;> intro hc <;> try (exfalso; omega)) | refine wg_nil ?_ | refine then_go ?_ | refine wc_seq ?_ | refine wc_reg ?_ | refine wc_dreg ?_ | refine wc_block ?_ | refine zu ?_ | refine zv ?_ | refine wc_skip ?_ | refine wc_exit ?_ | refine wc_ret ?_ | refine then_ret ?_ | refine then_exit ?_ | refine out_go ?_ | refine out_ret ?_ | refine zA ?_ | refine zB ?_ | refine zw ?_ | refine zx ?_ | refine zy ?_ | refine wd_nil ?_)
        all_goals first
          | (rw [if_pos (by simp only [List.cons.injEq, and_true] at hc; exact Prod.ext hc.1 hc.2)] at hz
             exact ⟨n + 1, (Sub'.cons rfl (Sub'.cons rfl (Sub'.cons rfl (Sub'.cons rfl (Sub'.cons rfl (Sub'.cons rfl (Sub'.nil _))))))), rfl, hz⟩)
          | (rw [if_neg (fun q => hc (by rw [q]))] at hz
             exact ⟨n, by simp, Sub'.cons rfl (Sub'.cons rfl (Sub'.cons rfl (Sub'.cons rfl (Sub'.cons rfl (Sub'.cons (by simp only [look]; show some _ = some _; congr 2; omega) (Sub'.nil _)))))), rfl, by omega, hz⟩)
    rintro n _ ⟨rfl, hfn⟩
    have hnl : n ≤ st.length := by rw [← hfn]; exact frN_le _ _ _
    have hstn : stepE ns es os st i = if n = 0 then none else if n = st.length then some (st, [⟨nI ns (ob os ((i : Int) - 1)), nI ns (ob os (i : Int)), 1, -1⟩]) else some (st.take n, leaveE ns es os st n i) := by
      unfold stepE; rw [if_neg hpush, hfn]
    by_cases hn0 : n = 0
    · rw [if_pos hn0] at hstn
      repeat' (first | refine z0 ?_ | refine z1 ?_ | refine z2 ?_ | refine z3 ?_ | refine z4 ?_ | refine z6 ?_ | refine z7 ?_ | refine z8 ?_ | refine z9 ?_ | refine za ?_ | refine zb ?_ | refine zc ?_ | refine zd ?_ | refine zg ?_ | refine zh ?_ | refine zi ?_ | refine zj ?_ | refine zl ?_ | (refine zm ?_ ?_ <;> intro hc <;> try (exfalso; omega)) | (refine zp ?_ ?_ <;> intro hc <;> try (exfalso; omega)) | (refine zq ?_ ?_ <;> intro hc <;> try (exfalso; omega)) | (refine zr ?_ ?_ <;> intro hc <;> try (exfalso; omega)) | refine wg_nil ?_ | refine then_go ?_ | refine wc_seq ?_ | refine wc_reg ?_ | refine wc_dreg ?_ | refine wc_block ?_ | refine zu ?_ | refine zv ?_ | refine wc_skip ?_ | refine wc_exit ?_ | refine wc_ret ?_ | refine then_ret ?_ | refine then_exit ?_ | refine out_go ?_ | refine out_ret ?_ | refine zA ?_ | refine zB ?_ | refine zw ?_ | refine zx ?_ | refine zy ?_ | refine wd_nil ?_)
      refine rg_go0 hnt rfl (wo_storeA rfl rfl (by omega) hst hcell1 (by rfl) (by rfl) (by simp) (by omega) (by rfl) fun h3 hn3 hb3 hk3 => ?_)
      repeat' (first | refine z0 ?_ | refine z1 ?_ | refine z2 ?_ | refine z3 ?_ | refine z4 ?_ | refine z6 ?_ | refine z7 ?_ | refine z8 ?_ | refine z9 ?_ | refine za ?_ | refine zb ?_ | refine zc ?_ | refine zd ?_ | refine zg ?_ | refine zh ?_ | refine zi ?_ | refine zj ?_ | refine zl ?_ | (refine zm ?_ ?_ <;> intro hc <;> try (exfalso; omega)) | (refine zp ?_ ?_ <;> intro hc <;> try (exfalso; omega)) | (refine zq ?_ ?_ <;> intro hc <;> try (exfalso; omega)) | (refine zr ?_ ?_ <;> intro hc <;> try (exfalso; omega)) | refine wg_nil ?_ | refine then_go ?_ | refine wc_seq ?_ | refine wc_reg ?_ | refine wc_dreg ?_ | refine wc_block ?_ | refine zu ?_ | refine zv ?_ | refine wc_skip ?_ | refine wc_exit ?_ | refine wc_ret ?_ | refine then_ret ?_ | refine then_exit ?_ | refine out_go ?_ | refine out_ret ?_ | refine zA ?_ | refine zB ?_ | refine zw ?_ | refine zx ?_ | refine zy ?_ | refine wd_nil ?_)
      refine ⟨Or.inl rfl, _, rfl, hK1 hstn h3 (by omega) (by omega) (fun id q => (hk3 id (by omega)).trans (hg1.get id (by omega))) ⟨hb3, by omega, hT1.mN.keep (hk3 m (by omega)), hT1.mE.keep (hk3 (m + 1) (by omega)), hT1.stk.keep (by omega) (fun _ => hk3 sid (by omega)), hT1.snil, fun q => ⟨hsin.1, by omega⟩, ?_, hT1.pnil, fun q => ?_, hT1.two⟩⟩
      · by_cases q : pa = []
        · rw [q, hT1.pnil q]; exact ⟨Or.inl ⟨rfl, Or.inl rfl⟩⟩
        · have hp := hT1.pin q
          exact hT1.pth.keep (by omega) (fun _ => hk3 pid (by omega))
      · have := hT1.pin q; exact ⟨this.1, by omega⟩
    · rw [if_neg hn0] at hstn
      by_cases hnn : n = st.length
      · rw [if_pos hnn] at hstn
        have hK := hK2 _ hstn
        simp only [takes_cons] at hK
        repeat' (first | refine z0 ?_ | refine z1 ?_ | refine z2 ?_ | refine z3 ?_ | refine z4 ?_ | refine z6 ?_ | refine z7 ?_ | refine z8 ?_ | refine z9 ?_ | refine za ?_ | refine zb ?_ | refine zc ?_ | refine zd ?_ | refine zg ?_ | refine zh ?_ | refine zi ?_ | refine zj ?_ | refine zl ?_ | (refine zm ?_ ?_ <;> intro hc <;> try (exfalso; omega)) | (refine zp ?_ ?_ <;> intro hc <;> try (exfalso; omega)) | (refine zq ?_ ?_ <;> intro hc <;> try (exfalso; omega)) | (refine zr ?_ ?_ <;> intro hc <;> try (exfalso; omega)) | refine wg_nil ?_ | refine then_go ?_ | refine wc_seq ?_ | refine wc_reg ?_ | refine wc_dreg ?_ | refine wc_block ?_ | refine zu ?_ | refine zv ?_ | refine wc_skip ?_ | refine wc_exit ?_ | refine wc_ret ?_ | refine then_ret ?_ | refine then_exit ?_ | refine out_go ?_ | refine out_ret ?_ | refine zA ?_ | refine zB ?_ | refine zw ?_ | refine zx ?_ | refine zy ?_ | refine wd_nil ?_)
        refine wo_call rfl rfl (ttake_ev (e := ⟨nI ns (ob os ((i : Int) - 1)), nI ns (ob os (i : Int)), 1, -1⟩) hT1 hx (by omega) (by omega) fun h6 pv6 pid6 hT6 hF6 hn6' => ?_)
        have hF6l := hF6.le
        repeat' (first | refine z0 ?_ | refine z1 ?_ | refine z2 ?_ | refine z3 ?_ | refine z4 ?_ | refine z6 ?_ | refine z7 ?_ | refine z8 ?_ | refine z9 ?_ | refine za ?_ | refine zb ?_ | refine zc ?_ | refine zd ?_ | refine zg ?_ | refine zh ?_ | refine zi ?_ | refine zj ?_ | refine zl ?_ | (refine zm ?_ ?_ <;> intro hc <;> try (exfalso; omega)) | (refine zp ?_ ?_ <;> intro hc <;> try (exfalso; omega)) | (refine zq ?_ ?_ <;> intro hc <;> try (exfalso; omega)) | (refine zr ?_ ?_ <;> intro hc <;> try (exfalso; omega)) | refine wg_nil ?_ | refine then_go ?_ | refine wc_seq ?_ | refine wc_reg ?_ | refine wc_dreg ?_ | refine wc_block ?_ | refine zu ?_ | refine zv ?_ | refine wc_skip ?_ | refine wc_exit ?_ | refine wc_ret ?_ | refine then_ret ?_ | refine then_exit ?_ | refine out_go ?_ | refine out_ret ?_ | refine zA ?_ | refine zB ?_ | refine zw ?_ | refine zx ?_ | refine zy ?_ | refine wd_nil ?_)
        exact ⟨Or.inl rfl, _, rfl, hK h6 _ _ _ _ (by omega) (by omega) (fun id q => (hF6.get id (by omega) (by omega) (fun q => by have := hT.pin q; omega)).trans (hg1.get id (by omega))) hT6⟩
      · rw [if_neg hnn] at hstn
        have hK := hK2 _ hstn
        repeat' (first | refine z0 ?_ | refine z1 ?_ | refine z2 ?_ | refine z3 ?_ | refine z4 ?_ | refine z6 ?_ | refine z7 ?_ | refine z8 ?_ | refine z9 ?_ | refine za ?_ | refine zb ?_ | refine zc ?_ | refine zd ?_ | refine zg ?_ | refine zh ?_ | refine zi ?_ | refine zj ?_ | refine zl ?_ | (refine zm ?_ ?_ <;> intro hc <;> try (exfalso; omega)) | (refine zp ?_ ?_ <;> intro hc <;> try (exfalso; omega)) | (refine zq ?_ ?_ <;> intro hc <;> try (exfalso; omega)) | (refine zr ?_ ?_ <;> intro hc <;> try (exfalso; omega)) | refine wg_nil ?_ | refine then_go ?_ | refine wc_seq ?_ | refine wc_reg ?_ | refine wc_dreg ?_ | refine wc_block ?_ | refine zu ?_ | refine zv ?_ | refine wc_skip ?_ | refine wc_exit ?_ | refine wc_ret ?_ | refine then_ret ?_ | refine then_exit ?_ | refine out_go ?_ | refine out_ret ?_ | refine zA ?_ | refine zB ?_ | refine zw ?_ | refine zx ?_ | refine zy ?_ | refine wd_nil ?_)
        refine wo_call rfl rfl (tleave_ev (i := i) (n := n) hT1 hx hkd hO1 hidO hsO hi1 hi2 hlo hok (by omega) (by omega) (by omega) (by omega) fun h6 pv6 pid6 hT6 hF6 hn6' => ?_)
        have hF6l := hF6.le
        have hcell6 := hT6.cell
        obtain ⟨⟨cap, hsv⟩, -⟩ := hT6.stk.full (by omega)
        subst hsv
        repeat' (first | refine z0 ?_ | refine z1 ?_ | refine z2 ?_ | refine z3 ?_ | refine z4 ?_ | refine z6 ?_ | refine z7 ?_ | refine z8 ?_ | refine z9 ?_ | refine za ?_ | refine zb ?_ | refine zc ?_ | refine zd ?_ | refine zg ?_ | refine zh ?_ | refine zi ?_ | refine zj ?_ | refine zl ?_ | (refine zm ?_ ?_ <;> intro hc <;> try (exfalso; omega)) | (refine zp ?_ ?_ <;> intro hc <;> try (exfalso; omega)) | (refine zq ?_ ?_ <;> intro hc <;> try (exfalso; omega)) | (refine zr ?_ ?_ <;> intro hc <;> try (exfalso; omega)) | refine wg_nil ?_ | refine then_go ?_ | refine wc_seq ?_ | refine wc_reg ?_ | refine wc_dreg ?_ | refine wc_block ?_ | refine zu ?_ | refine zv ?_ | refine wc_skip ?_ | refine wc_exit ?_ | refine wc_ret ?_ | refine then_ret ?_ | refine then_exit ?_ | refine out_go ?_ | refine out_ret ?_ | refine zA ?_ | refine zB ?_ | refine zw ?_ | refine zx ?_ | refine zy ?_ | refine wd_nil ?_)
        refine wo_sliceZ (u := n) rfl rfl (by omega) (by omega) rfl fun cap' => ?_
        repeat' (first | refine z0 ?_ | refine z1 ?_ | refine z2 ?_ | refine z3 ?_ | refine z4 ?_ | refine z6 ?_ | refine z7 ?_ | refine z8 ?_ | refine z9 ?_ | refine za ?_ | refine zb ?_ | refine zc ?_ | refine zd ?_ | refine zg ?_ | refine zh ?_ | refine zi ?_ | refine zj ?_ | refine zl ?_ | (refine zm ?_ ?_ <;> intro hc <;> try (exfalso; omega)) | (refine zp ?_ ?_ <;> intro hc <;> try (exfalso; omega)) | (refine zq ?_ ?_ <;> intro hc <;> try (exfalso; omega)) | (refine zr ?_ ?_ <;> intro hc <;> try (exfalso; omega)) | refine wg_nil ?_ | refine then_go ?_ | refine wc_seq ?_ | refine wc_reg ?_ | refine wc_dreg ?_ | refine wc_block ?_ | refine zu ?_ | refine zv ?_ | refine wc_skip ?_ | refine wc_exit ?_ | refine wc_ret ?_ | refine then_ret ?_ | refine then_exit ?_ | refine out_go ?_ | refine out_ret ?_ | refine zA ?_ | refine zB ?_ | refine zw ?_ | refine zx ?_ | refine zy ?_ | refine wd_nil ?_)
        refine rg_go0 hnt rfl (wo_storeA rfl rfl (by omega) hst hcell6 (by rfl) (by rfl) (by simp) (by omega) (by rfl) fun h3 hn3 hb3 hk3 => ?_)
        repeat' (first | refine z0 ?_ | refine z1 ?_ | refine z2 ?_ | refine z3 ?_ | refine z4 ?_ | refine z6 ?_ | refine z7 ?_ | refine z8 ?_ | refine z9 ?_ | refine za ?_ | refine zb ?_ | refine zc ?_ | refine zd ?_ | refine zg ?_ | refine zh ?_ | refine zi ?_ | refine zj ?_ | refine zl ?_ | (refine zm ?_ ?_ <;> intro hc <;> try (exfalso; omega)) | (refine zp ?_ ?_ <;> intro hc <;> try (exfalso; omega)) | (refine zq ?_ ?_ <;> intro hc <;> try (exfalso; omega)) | (refine zr ?_ ?_ <;> intro hc <;> try (exfalso; omega)) | refine wg_nil ?_ | refine then_go ?_ | refine wc_seq ?_ | refine wc_reg ?_ | refine wc_dreg ?_ | refine wc_block ?_ | refine zu ?_ | refine zv ?_ | refine wc_skip ?_ | refine wc_exit ?_ | refine wc_ret ?_ | refine then_ret ?_ | refine then_exit ?_ | refine out_go ?_ | refine out_ret ?_ | refine zA ?_ | refine zB ?_ | refine zw ?_ | refine zx ?_ | refine zy ?_ | refine wd_nil ?_)
        have hT7 : Tc h3 m nsv esv mn obv ns es (.sl sid 0 n 2 cap') pv6 sid pid6 (st.take n) (takes es (leaveE ns es os st n i) (pa, fl)).1 (takes es (leaveE ns es os st n i) (pa, fl)).2 := by
          have hs6 := hT6.sin hsne
          refine ⟨hb3, by omega, hT6.mN.keep (hk3 m (by omega)), hT6.mE.keep (hk3 (m + 1) (by omega)), ?_, fun q => ?_, fun q => ⟨hs6.1, by omega⟩, ?_, hT6.pnil, fun q => ?_, fun _ q => hT6.two hsne q⟩
          · rw [List.map_take]
            exact (hT6.stk.keep (h' := h3) (by omega) (fun _ => hk3 sid (by omega))).take (by omega) (by omega)
          · have : (st.take n).length = 0 := by rw [q]; rfl
            rw [List.length_take] at this; omega
          · by_cases q : (takes es (leaveE ns es os st n i) (pa, fl)).1 = []
            · rw [q, hT6.pnil q]; exact ⟨Or.inl ⟨rfl, Or.inl rfl⟩⟩
            · have hp := hT6.pin q
              exact hT6.pth.keep (by omega) (fun _ => hk3 pid6 (by omega))
          · have := hT6.pin q; exact ⟨this.1, by omega⟩
        exact ⟨Or.inl rfl, _, rfl, hK h3 _ _ _ _ (by omega) (by omega) (fun id q => (hk3 id (by omega)).trans ((hF6.get id (by omega) (by omega) (fun q => by have := hT.pin q; omega)).trans (hg1.get id (by omega)))) hT7⟩
end Go.Proofs.YtlocnfaeiacphaaGreatDoor.Ev
