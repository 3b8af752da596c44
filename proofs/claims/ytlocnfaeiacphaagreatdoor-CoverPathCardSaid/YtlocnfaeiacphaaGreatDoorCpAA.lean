/- Contracts of the program: cover.Path. -/
import Derived.Test.YtlocnfaeiacphaaGreatDoorSyH
import Derived.Test.YtlocnfaeiacphaaGreatDoorCpY
import Derived.Test.YtlocnfaeiacphaaGreatDoorCpV
import Derived.KernelRfl
set_option linter.unusedVariables false
set_option linter.unusedSimpArgs false
set_option maxHeartbeats 4000000
namespace Go.Proofs.YtlocnfaeiacphaaGreatDoor.Ev
open Go
set_option maxRecDepth 20000
theorem cells_one {v : AV} (h : one v = true) : v.cells = [v] := by
  cases v <;> first | rfl | (simp [one] at h)
theorem parts_tr {env : Env'} {a b c' d : XV} {n e m o p q : AV} (h1 : evE env a = some (.agg [n, e, m])) (h2 : evE env b = some o) (h3 : evE env c' = some p) (h4 : evE env d = some q) (ho : o.cells = [o]) (hp : p.cells = [p]) (hq : q.cells = [q]) :
    partsE env [(0, 3, a), (3, 1, b), (4, 1, c'), (5, 1, d)] [.nils, .nils, .int .i64 0, .nils, .nilm, .nilm, .nils, .nils, .bool false] = some [n, e, m, o, p, q, .nils, .nils, .bool false] := by
  simp only [partsE, h1, h2, h3, h4, ho, hp, hq]
  rfl
theorem badO_dec (ns : List Nd) (os : List Ob) (mn : Int) : badO ns os mn ∨ ¬ badO ns os mn := Classical.em _
theorem ends_none {l : List Int × Int} (h : l = ([], 20)) : ends none = l := h.symm
theorem stepE_ok {ns : List Nd} {es : List Ed} {os : List Ob} {st : List Fr} {i : Nat} {p : List Fr × List Ed} (hok : OkSt st i) (h : stepE ns es os st i = some p) : OkSt p.1 (i + 1) ∧ p.2.length ≤ 102 + st.length := by
  unfold stepE at h
  by_cases h1 : (ob os (i : Int)).c = (i : Int) - 1
  · rw [if_pos h1] at h; cases h
    exact ⟨hok.push _, by simp; omega⟩
  · rw [if_neg h1] at h
    by_cases h2 : frN st ((ob os (i : Int)).fr, (ob os (i : Int)).c) st.length = 0
    · rw [if_pos h2] at h; cases h
    · rw [if_neg h2] at h
      by_cases h3 : frN st ((ob os (i : Int)).fr, (ob os (i : Int)).c) st.length = st.length
      · rw [if_pos h3] at h; cases h
        exact ⟨hok.next, by simp; omega⟩
      · rw [if_neg h3] at h; cases h
        refine ⟨hok.take (by omega) (frN_le _ _ _), ?_⟩
        unfold leaveE
        split
        · simp; omega
        · rw [List.length_cons, raise_len]; omega
theorem errP_nd {ns : List Nd} {es : List Ed} {mn : Int} (h : errP ns es mn = 0) : errN ns 0 = 0 ∧ 0 ≤ mn ∧ mn < ns.length ∧ errE ns.length (fun e => fitsP ns (entP ns es e.c (nd ns e.a).f) e) es 0 = 0 := by
  unfold errP at h
  by_cases h1 : errN ns 0 ≠ 0
  · rw [if_pos h1] at h; exact absurd h h1
  · rw [if_neg h1] at h
    by_cases h2 : threeP ns = false
    · rw [if_pos h2] at h; omega
    · rw [if_neg h2] at h
      by_cases h3 : mn < 0 ∨ (ns.length : Int) ≤ mn ∨ (nd ns mn).k ≠ 1
      · rw [if_pos h3] at h; omega
      · rw [if_neg h3] at h
        exact ⟨by simpa using h1, by omega, by omega, h⟩
theorem pathP_bad {ns : List Nd} {es : List Ed} {os : List Ob} {mn : Int} (h : errP ns es mn ≠ 0) : pathP ns es os mn = ([], errP ns es mn) := by unfold pathP; rw [if_pos h]
theorem pathP_nil {ns : List Nd} {es : List Ed} {os : List Ob} {mn : Int} (h : errP ns es mn = 0) (h2 : os.length = 0) : pathP ns es os mn = ([], 0) := by unfold pathP; rw [if_neg (by simpa using h), if_pos h2]
theorem pathP_go {ns : List Nd} {es : List Ed} {os : List Ob} {mn : Int} (h : errP ns es mn = 0) (h2 : os.length ≠ 0) : pathP ns es os mn = if badO ns os mn then ([], 20) else if edIx es (first_ ns es os mn) < 0 then ([], 20) else ends (goP ns es os (os.length - 1) 1 [(0, -1)] [edIx es (first_ ns es os mn)]) := by
  unfold pathP; rw [if_neg (by simpa using h), if_neg h2]
/-- the steps taken before step j -/
def midP (ns : List Nd) (es : List Ed) (os : List Ob) (mn : Int) (j : Nat) (st : List Fr) (pa : List Int) : Prop := if j = 0 then st = [] ∧ pa = [] else
  OkSt st j ∧ pa ≠ [] ∧ pa.length ≤ 300 * j ∧ ¬ badO ns os mn ∧ 0 ≤ edIx es (first_ ns es os mn) ∧ goP ns es os (os.length - 1) 1 [(0, -1)] [edIx es (first_ ns es os mn)] = goP ns es os (os.length - j) j st pa
variable {c : C} {h : H} {nsv esv obv endv : AV} {ns : List Nd} {es : List Ed} {os : List Ob} {idN idE idO : Nat} {mn : Int} {K : AV → H → Prop}
theorem PPath_ev (hcx : Cx c h) (hN : Arr h nsv 3 (ns.map Nd.row) idN) (hE : Arr h esv 4 (es.map Ed.row) idE) (hO : Arr h obv 5 (os.map Ob.row) idO) (hidN : idN < h.n) (hidE : idE < h.n) (hidO : idO < h.n) (hsN : seen c.vis idN = true) (hsE : seen c.vis idE = true) (hsO : seen c.vis idO = true) (hl : ns.length ≤ 100) (hle : es.length ≤ 100) (hlo : os.length ≤ 100) (hov : ∀ x : Int, 0 ≤ x → x < os.length → one (ob os x).v = true) (hon : one nsv = true) (hoe : one esv = true) (hoo : one obv = true) (hn : h.n < 5000000)
    (hK : ∀ h' pv pid, (∀ id, id < h.n → h'.get id = h.get id) → h.n ≤ h'.n → h'.n ≤ h.n + 40000 → ((pathP ns es os mn).1 ≠ [] → h.n ≤ pid ∧ pid < h'.n) → Arr h' pv 1 ((pathP ns es os mn).1.map rI) pid → ((pathP ns es os mn).1.length ≤ 4096) → K (.tup [pv, .int .i64 (pathP ns es os mn).2]) h') :
    Gv Tryz.prog X0 Mx c 5 [.agg [nsv, esv, .int .i64 mn], .agg [endv, obv]] h K := by
  have hnt : (79 : Nat) ≤ 1000000 := by decide
  have hlN : (ns.map Nd.row).length = ns.length := List.length_map ..
  have hlE : (es.map Ed.row).length = es.length := List.length_map ..
  have hlO : (os.map Ob.row).length = os.length := List.length_map ..
  have hlow := hcx.low
  have hKn : ∀ {v : Int}, pathP ns es os mn = ([], v) → ∀ h', (∀ id, id < h.n → h'.get id = h.get id) → h.n ≤ h'.n → h'.n ≤ h.n + 40000 → K (.tup [.nils, .int .i64 v]) h' := fun q h' g1 g2 g3 => by
    have := hK h' .nils 0 g1 g2 g3
    rw [q] at this
    exact this (fun q => absurd rfl q) ⟨Or.inl ⟨rfl, Or.inl rfl⟩⟩ (by simp)
  refine gv_fn x_PPath (MK_other rfl _ _ _) (by simp) hnt ?_
  unfold s_PPath
  refine wc_seq (wc_reg (rg_go hnt rfl rfl (wo_boxA rfl rfl (by omega) fun h1 hn1 hb1 hgr => ?_)))
  refine rg_go hnt rfl rfl (wo_boxA rfl rfl (by omega) fun h2 hn2 hb2 hgr2 => ?_)
  have hb12 := (hgr2.get h.n (by omega)).trans hb1
  have hsb : seen c.vis h.n = true := hcx.new (Nat.le_refl _) (by omega)
  have hsb2 : seen c.vis h1.n = true := hcx.new (by omega) (by omega)
  have hgA := hgr.trans hgr2
  have hN2 := hN.grew hgA
  have hE2 := hE.grew hgA
  repeat' (first | refine z0 ?_ | refine z2 ?_ | refine z3 ?_ | refine z4 ?_ | refine z6 ?_ | refine z7 ?_ | refine z8 ?_ | refine z9 ?_ | refine za ?_ | refine zg ?_ | refine zh ?_ | refine zi ?_ | refine zj ?_ | refine zl ?_ | (refine zm ?_ ?_ <;> intro hc <;> try (exfalso; omega)) | (refine zo ?_ ?_ <;> intro hc <;> try (exfalso; omega)) | (refine zq ?_ ?_ <;> intro hc <;> try (exfalso; omega)) | refine wg_nil ?_ | refine then_go ?_ | refine wc_seq ?_ | refine wc_reg ?_ | refine wc_dreg ?_ | refine wc_block ?_ | refine zu ?_ | refine zv ?_ | refine wc_skip ?_ | refine wc_exit ?_ | refine wc_ret ?_ | refine then_ret ?_ | refine then_exit ?_ | refine out_go ?_ | refine out_ret ?_ | refine zA ?_ | refine zB ?_ | refine zw ?_ | refine zx ?_ | refine zy ?_ | refine wd_nil ?_)
  refine wo_call rfl rfl (PCheck_ev (hcx.mono hgA.le) hN2 hE2 (by omega) (by omega) hsN hsE hl hle (by omega) fun h3 hg3 hn3 => ?_)
  have hg3l := hg3.le
  have hb13 := (hg3.get h.n (by omega)).trans hb12
  have hb23 := (hg3.get h1.n (by omega)).trans hb2
  have hgB := hgA.trans hg3
  by_cases herr : errP ns es mn = 0
  case neg =>
    repeat' (first | refine z0 ?_ | refine z2 ?_ | refine z3 ?_ | refine z4 ?_ | refine z6 ?_ | refine z7 ?_ | refine z8 ?_ | refine z9 ?_ | refine za ?_ | refine zg ?_ | refine zh ?_ | refine zi ?_ | refine zj ?_ | refine zl ?_ | (refine zm ?_ ?_ <;> intro hc <;> try (exfalso; omega)) | (refine zo ?_ ?_ <;> intro hc <;> try (exfalso; omega)) | (refine zq ?_ ?_ <;> intro hc <;> try (exfalso; omega)) | refine wg_nil ?_ | refine then_go ?_ | refine wc_seq ?_ | refine wc_reg ?_ | refine wc_dreg ?_ | refine wc_block ?_ | refine zu ?_ | refine zv ?_ | refine wc_skip ?_ | refine wc_exit ?_ | refine wc_ret ?_ | refine then_ret ?_ | refine then_exit ?_ | refine out_go ?_ | refine out_ret ?_ | refine zA ?_ | refine zB ?_ | refine zw ?_ | refine zx ?_ | refine zy ?_ | refine wd_nil ?_)
    all_goals first
      | exact ⟨Or.inr rfl, _, rfl, hKn (pathP_bad herr) _ hgB.get hgB.le (by omega)⟩
      | exact absurd (by assumption) herr
  obtain ⟨hnd, hm0, hm1, herE⟩ := errP_nd herr
  have hkd : ∀ f k, k ≠ 2 → ndIx ns ⟨f, k, -1⟩ = kdIx ns f k := fun f k q => kd_nd hnd f k q
  repeat' (first | refine z0 ?_ | refine z2 ?_ | refine z3 ?_ | refine z4 ?_ | refine z6 ?_ | refine z7 ?_ | refine z8 ?_ | refine z9 ?_ | refine za ?_ | refine zg ?_ | refine zh ?_ | refine zi ?_ | refine zj ?_ | refine zl ?_ | (refine zm ?_ ?_ <;> intro hc <;> try (exfalso; omega)) | (refine zo ?_ ?_ <;> intro hc <;> try (exfalso; omega)) | (refine zq ?_ ?_ <;> intro hc <;> try (exfalso; omega)) | refine wg_nil ?_ | refine then_go ?_ | refine wc_seq ?_ | refine wc_reg ?_ | refine wc_dreg ?_ | refine wc_block ?_ | refine zu ?_ | refine zv ?_ | refine wc_skip ?_ | refine wc_exit ?_ | refine wc_ret ?_ | refine then_ret ?_ | refine then_exit ?_ | refine out_go ?_ | refine out_ret ?_ | refine zA ?_ | refine zB ?_ | refine zw ?_ | refine zx ?_ | refine zy ?_ | refine wd_nil ?_)
  all_goals first
    | exact absurd herr (by assumption)
    | skip
  refine wo_mkmapA (by omega) fun h4 hn4 hb4 hg4 => ?_
  repeat' (first | refine z0 ?_ | refine z2 ?_ | refine z3 ?_ | refine z4 ?_ | refine z6 ?_ | refine z7 ?_ | refine z8 ?_ | refine z9 ?_ | refine za ?_ | refine zg ?_ | refine zh ?_ | refine zi ?_ | refine zj ?_ | refine zl ?_ | (refine zm ?_ ?_ <;> intro hc <;> try (exfalso; omega)) | (refine zo ?_ ?_ <;> intro hc <;> try (exfalso; omega)) | (refine zq ?_ ?_ <;> intro hc <;> try (exfalso; omega)) | refine wg_nil ?_ | refine then_go ?_ | refine wc_seq ?_ | refine wc_reg ?_ | refine wc_dreg ?_ | refine wc_block ?_ | refine zu ?_ | refine zv ?_ | refine wc_skip ?_ | refine wc_exit ?_ | refine wc_ret ?_ | refine then_ret ?_ | refine then_exit ?_ | refine out_go ?_ | refine out_ret ?_ | refine zA ?_ | refine zB ?_ | refine zw ?_ | refine zx ?_ | refine zy ?_ | refine wd_nil ?_)
  refine wo_mkmapA (by omega) fun h5 hn5 hb5 hg5 => ?_
  repeat' (first | refine z0 ?_ | refine z2 ?_ | refine z3 ?_ | refine z4 ?_ | refine z6 ?_ | refine z7 ?_ | refine z8 ?_ | refine z9 ?_ | refine za ?_ | refine zg ?_ | refine zh ?_ | refine zi ?_ | refine zj ?_ | refine zl ?_ | (refine zm ?_ ?_ <;> intro hc <;> try (exfalso; omega)) | (refine zo ?_ ?_ <;> intro hc <;> try (exfalso; omega)) | (refine zq ?_ ?_ <;> intro hc <;> try (exfalso; omega)) | refine wg_nil ?_ | refine then_go ?_ | refine wc_seq ?_ | refine wc_reg ?_ | refine wc_dreg ?_ | refine wc_block ?_ | refine zu ?_ | refine zv ?_ | refine wc_skip ?_ | refine wc_exit ?_ | refine wc_ret ?_ | refine then_ret ?_ | refine then_exit ?_ | refine out_go ?_ | refine out_ret ?_ | refine zA ?_ | refine zB ?_ | refine zw ?_ | refine zx ?_ | refine zy ?_ | refine wd_nil ?_)
  refine wo_build (parts_tr rfl rfl rfl rfl (cells_one hoo) rfl rfl) ?_
  repeat' (first | refine z0 ?_ | refine z2 ?_ | refine z3 ?_ | refine z4 ?_ | refine z6 ?_ | refine z7 ?_ | refine z8 ?_ | refine z9 ?_ | refine za ?_ | refine zg ?_ | refine zh ?_ | refine zi ?_ | refine zj ?_ | refine zl ?_ | (refine zm ?_ ?_ <;> intro hc <;> try (exfalso; omega)) | (refine zo ?_ ?_ <;> intro hc <;> try (exfalso; omega)) | (refine zq ?_ ?_ <;> intro hc <;> try (exfalso; omega)) | refine wg_nil ?_ | refine then_go ?_ | refine wc_seq ?_ | refine wc_reg ?_ | refine wc_dreg ?_ | refine wc_block ?_ | refine zu ?_ | refine zv ?_ | refine wc_skip ?_ | refine wc_exit ?_ | refine wc_ret ?_ | refine then_ret ?_ | refine then_exit ?_ | refine out_go ?_ | refine out_ret ?_ | refine zA ?_ | refine zB ?_ | refine zw ?_ | refine zx ?_ | refine zy ?_ | refine wd_nil ?_)
  refine wo_boxA rfl (by rfl) (by omega) fun h6 hn6 hb6 hg6 => ?_
  have hg36 := (hg4.trans hg5).trans hg6
  have hgC := hgB.trans hg36
  have hb16 := (hg36.get h.n (by omega)).trans hb13
  have hb26 := (hg36.get h1.n (by omega)).trans hb23
  have hN6 := hN.grew hgC
  have hE6 := hE.grew hgC
  have hO6 := hO.grew hgC
  have hm46 := (hg6.get h3.n (by omega)).trans ((hg5.get h3.n (by omega)).trans hb4)
  have hm56 := (hg6.get h4.n (by omega)).trans hb5
  have e4 : h4.n = h3.n + 1 := hn4
  have e5 : h5.n = h3.n + 2 := by omega
  rw [e4] at hm56
  rw [e5, e4] at hb6
  have hx : Tx c h3.n := ⟨by omega, fun id q1 q2 => hcx.new (by omega) q2⟩
  have hs3 : seen c.vis h3.n = true := hx.vis _ (by omega) (by omega)
  have hs4 : seen c.vis (h3.n + 1) = true := hx.vis _ (by omega) (by omega)
  have hs5 : seen c.vis (h3.n + 2) = true := hx.vis _ (by omega) (by omega)
  rw [e5]
  repeat' (first | refine z0 ?_ | refine z2 ?_ | refine z3 ?_ | refine z4 ?_ | refine z6 ?_ | refine z7 ?_ | refine z8 ?_ | refine z9 ?_ | refine za ?_ | refine zg ?_ | refine zh ?_ | refine zi ?_ | refine zj ?_ | refine zl ?_ | (refine zm ?_ ?_ <;> intro hc <;> try (exfalso; omega)) | (refine zo ?_ ?_ <;> intro hc <;> try (exfalso; omega)) | (refine zq ?_ ?_ <;> intro hc <;> try (exfalso; omega)) | refine wg_nil ?_ | refine then_go ?_ | refine wc_seq ?_ | refine wc_reg ?_ | refine wc_dreg ?_ | refine wc_block ?_ | refine zu ?_ | refine zv ?_ | refine wc_skip ?_ | refine wc_exit ?_ | refine wc_ret ?_ | refine then_ret ?_ | refine then_exit ?_ | refine out_go ?_ | refine out_ret ?_ | refine zA ?_ | refine zB ?_ | refine zw ?_ | refine zx ?_ | refine zy ?_ | refine wd_nil ?_)
  refine wc_loopE (ι := Nat) (fun j => [(2, .ptr h.n 0), (3, .ptr h1.n 0), (7, .ptr (h3.n + 2) 0), (26, nsv), (27, .int .i64 ((ns.map Nd.row).length : Int)), (28, .int .i64 (j : Int))])
    (fun j g => h6.n ≤ g.n ∧ g.n ≤ h6.n + j ∧ j ≤ ns.length ∧ (∀ id, id < h6.n → id ≠ h3.n → g.get id = h6.get id) ∧ Mp kN g h3.n (lastF (fun j => nd ns (j : Nat)) j)) (fun j => ns.length - j) ?_ 0 ⟨Nat.le_refl _, by omega, Nat.zero_le _, fun _ _ _ => rfl, (Mp.nil hm46).cong fun b => rfl⟩ (Sub'.cons rfl (Sub'.cons rfl (Sub'.cons rfl (Sub'.cons rfl (Sub'.cons rfl (Sub'.cons rfl (Sub'.nil _)))))))
  rintro j g ⟨hle1, hle2, hj, hkp, hM⟩
  try simp only at hj ⊢
  have hbt := (hkp (h3.n + 2) (by omega) (by omega)).trans hb6
  have hNg := hN6.keep hle1 (fun _ => hkp idN (by omega) (by omega))
  have hbg := (hkp h.n (by omega) (by omega)).trans hb16
  by_cases hlt : j < ns.length
  · repeat' (first | refine z0 ?_ | refine z2 ?_ | refine z3 ?_ | refine z4 ?_ | refine z6 ?_ | refine z7 ?_ | refine z8 ?_ | refine z9 ?_ | refine za ?_ | refine zg ?_ | refine zh ?_ | refine zi ?_ | refine zj ?_ | refine zl ?_ | (refine zm ?_ ?_ <;> intro hc <;> try (exfalso; omega)) | (refine zo ?_ ?_ <;> intro hc <;> try (exfalso; omega)) | (refine zq ?_ ?_ <;> intro hc <;> try (exfalso; omega)) | refine wg_nil ?_ | refine then_go ?_ | refine wc_seq ?_ | refine wc_reg ?_ | refine wc_dreg ?_ | refine wc_block ?_ | refine zu ?_ | refine zv ?_ | refine wc_skip ?_ | refine wc_exit ?_ | refine wc_ret ?_ | refine then_ret ?_ | refine then_exit ?_ | refine out_go ?_ | refine out_ret ?_ | refine zA ?_ | refine zB ?_ | refine zw ?_ | refine zx ?_ | refine zy ?_ | refine wd_nil ?_)
    refine rg_bs1 hnt rfl (hcx.mono (by omega)) (by omega) rfl rfl rfl (by rfl) (by rfl) (by rfl) (by rfl) fun k1 hk1n hk1b hk1 => ?_
    have hM1 := hM.keep (hk1.get h3.n (by omega))
    have hbt1 := (hk1.get (h3.n + 2) (by omega)).trans hbt
    have hsk : seen c.vis g.n = true := hcx.new (by omega) (by omega)
    repeat' (first | refine z0 ?_ | refine z2 ?_ | refine z3 ?_ | refine z4 ?_ | refine z6 ?_ | refine z7 ?_ | refine z8 ?_ | refine z9 ?_ | refine za ?_ | refine zg ?_ | refine zh ?_ | refine zi ?_ | refine zj ?_ | refine zl ?_ | (refine zm ?_ ?_ <;> intro hc <;> try (exfalso; omega)) | (refine zo ?_ ?_ <;> intro hc <;> try (exfalso; omega)) | (refine zq ?_ ?_ <;> intro hc <;> try (exfalso; omega)) | refine wg_nil ?_ | refine then_go ?_ | refine wc_seq ?_ | refine wc_reg ?_ | refine wc_dreg ?_ | refine wc_block ?_ | refine zu ?_ | refine zv ?_ | refine wc_skip ?_ | refine wc_exit ?_ | refine wc_ret ?_ | refine then_ret ?_ | refine then_exit ?_ | refine out_go ?_ | refine out_ret ?_ | refine zA ?_ | refine zB ?_ | refine zw ?_ | refine zx ?_ | refine zy ?_ | refine wd_nil ?_)
    refine rd_bar0 hnt rfl (wo_mapupM (ky := kN) (a := nd ns (j : Int)) hM1 qN rfl (by rfl) rfl (by show c.floor ≤ _; omega) (seen_old (by repeat (first | exact rs_nil | refine rs_add (by omega) ?_)) (by omega) (by omega) (by assumption)) (by omega) fun k2 hk2n hM2 hk2 => ⟨(by repeat (first | exact unchF_nil | refine unchF_cons (by decide) ?_)), ?_⟩)
    repeat' (first | refine z0 ?_ | refine z2 ?_ | refine z3 ?_ | refine z4 ?_ | refine z6 ?_ | refine z7 ?_ | refine z8 ?_ | refine z9 ?_ | refine za ?_ | refine zg ?_ | refine zh ?_ | refine zi ?_ | refine zj ?_ | refine zl ?_ | (refine zm ?_ ?_ <;> intro hc <;> try (exfalso; omega)) | (refine zo ?_ ?_ <;> intro hc <;> try (exfalso; omega)) | (refine zq ?_ ?_ <;> intro hc <;> try (exfalso; omega)) | refine wg_nil ?_ | refine then_go ?_ | refine wc_seq ?_ | refine wc_reg ?_ | refine wc_dreg ?_ | refine wc_block ?_ | refine zu ?_ | refine zv ?_ | refine wc_skip ?_ | refine wc_exit ?_ | refine wc_ret ?_ | refine then_ret ?_ | refine then_exit ?_ | refine out_go ?_ | refine out_ret ?_ | refine zA ?_ | refine zB ?_ | refine zw ?_ | refine zx ?_ | refine zy ?_ | refine wd_nil ?_)
    exact ⟨j + 1, by simp; omega, (Sub'.cons rfl (Sub'.cons rfl (Sub'.cons rfl (Sub'.cons rfl (Sub'.cons rfl (Sub'.cons rfl (Sub'.nil _))))))), by omega, by omega, hlt, fun id q1 q2 => (hk2 id q2).trans ((hk1.get id (by omega)).trans (hkp id q1 q2)), hM2.cong fun b => rfl⟩
  have hjl : j = ns.length := by omega
  subst hjl
  have hMN : Mp kN g h3.n (fun n => ixV (ndIx ns n)) := hM.cong fun n => ndM_ix hnd n
  have hm5g := (hkp (h3.n + 1) (by omega) (by omega)).trans hm56
  have hb2g := (hkp h1.n (by omega) (by omega)).trans hb26
  repeat' (first | refine z0 ?_ | refine z2 ?_ | refine z3 ?_ | refine z4 ?_ | refine z6 ?_ | refine z7 ?_ | refine z8 ?_ | refine z9 ?_ | refine za ?_ | refine zg ?_ | refine zh ?_ | refine zi ?_ | refine zj ?_ | refine zl ?_ | (refine zm ?_ ?_ <;> intro hc <;> try (exfalso; omega)) | (refine zo ?_ ?_ <;> intro hc <;> try (exfalso; omega)) | (refine zq ?_ ?_ <;> intro hc <;> try (exfalso; omega)) | refine wg_nil ?_ | refine then_go ?_ | refine wc_seq ?_ | refine wc_reg ?_ | refine wc_dreg ?_ | refine wc_block ?_ | refine zu ?_ | refine zv ?_ | refine wc_skip ?_ | refine wc_exit ?_ | refine wc_ret ?_ | refine then_ret ?_ | refine then_exit ?_ | refine out_go ?_ | refine out_ret ?_ | refine zA ?_ | refine zB ?_ | refine zw ?_ | refine zx ?_ | refine zy ?_ | refine wd_nil ?_)
  refine wc_loopE (ι := Nat) (fun j => [(2, .ptr h.n 0), (3, .ptr h1.n 0), (7, .ptr (h3.n + 2) 0), (41, esv), (42, .int .i64 ((es.map Ed.row).length : Int)), (43, .int .i64 (j : Int))])
    (fun j q => g.n ≤ q.n ∧ q.n ≤ g.n + j ∧ j ≤ es.length ∧ (∀ id, id < g.n → id ≠ h3.n + 1 → q.get id = g.get id) ∧ Mp kE q (h3.n + 1) (lastF (fun j => ed es (j : Nat)) j)) (fun j => es.length - j) ?_ 0 ⟨Nat.le_refl _, by omega, Nat.zero_le _, fun _ _ _ => rfl, (Mp.nil hm5g).cong fun b => rfl⟩ (Sub'.cons rfl (Sub'.cons rfl (Sub'.cons rfl (Sub'.cons rfl (Sub'.cons rfl (Sub'.cons rfl (Sub'.nil _)))))))
  rintro j g2 ⟨hle3, hle4, hj2, hkp2, hM2⟩
  try simp only at hj2 ⊢
  have hkpA : ∀ id, id < h3.n → g2.get id = h3.get id := fun id q => (hkp2 id (by omega) (by omega)).trans ((hkp id (by omega) (by omega)).trans (hg36.get id q))
  have hE3 := hE.grew hgB
  have hE2g := hE3.keep (h' := g2) (by omega) (fun _ => hkpA idE (by omega))
  have hbt2 := (hkp2 (h3.n + 2) (by omega) (by omega)).trans hbt
  have hbg2 := (hkpA h.n (by omega)).trans hb13
  have hb2g2 := (hkpA h1.n (by omega)).trans hb23
  by_cases hlt2 : j < es.length
  · repeat' (first | refine z0 ?_ | refine z2 ?_ | refine z3 ?_ | refine z4 ?_ | refine z6 ?_ | refine z7 ?_ | refine z8 ?_ | refine z9 ?_ | refine za ?_ | refine zg ?_ | refine zh ?_ | refine zi ?_ | refine zj ?_ | refine zl ?_ | (refine zm ?_ ?_ <;> intro hc <;> try (exfalso; omega)) | (refine zo ?_ ?_ <;> intro hc <;> try (exfalso; omega)) | (refine zq ?_ ?_ <;> intro hc <;> try (exfalso; omega)) | refine wg_nil ?_ | refine then_go ?_ | refine wc_seq ?_ | refine wc_reg ?_ | refine wc_dreg ?_ | refine wc_block ?_ | refine zu ?_ | refine zv ?_ | refine wc_skip ?_ | refine wc_exit ?_ | refine wc_ret ?_ | refine then_ret ?_ | refine then_exit ?_ | refine out_go ?_ | refine out_ret ?_ | refine zA ?_ | refine zB ?_ | refine zw ?_ | refine zx ?_ | refine zy ?_ | refine wd_nil ?_)
    refine rg_bs1 hnt rfl (hcx.mono (by omega)) (by omega) rfl rfl rfl (by rfl) (by rfl) (by rfl) (by rfl) fun k1 hk1n hk1b hk1 => ?_
    have hM1 := hM2.keep (hk1.get (h3.n + 1) (by omega))
    have hbt1 := (hk1.get (h3.n + 2) (by omega)).trans hbt2
    have hsk : seen c.vis g2.n = true := hcx.new (by omega) (by omega)
    repeat' (first | refine z0 ?_ | refine z2 ?_ | refine z3 ?_ | refine z4 ?_ | refine z6 ?_ | refine z7 ?_ | refine z8 ?_ | refine z9 ?_ | refine za ?_ | refine zg ?_ | refine zh ?_ | refine zi ?_ | refine zj ?_ | refine zl ?_ | (refine zm ?_ ?_ <;> intro hc <;> try (exfalso; omega)) | (refine zo ?_ ?_ <;> intro hc <;> try (exfalso; omega)) | (refine zq ?_ ?_ <;> intro hc <;> try (exfalso; omega)) | refine wg_nil ?_ | refine then_go ?_ | refine wc_seq ?_ | refine wc_reg ?_ | refine wc_dreg ?_ | refine wc_block ?_ | refine zu ?_ | refine zv ?_ | refine wc_skip ?_ | refine wc_exit ?_ | refine wc_ret ?_ | refine then_ret ?_ | refine then_exit ?_ | refine out_go ?_ | refine out_ret ?_ | refine zA ?_ | refine zB ?_ | refine zw ?_ | refine zx ?_ | refine zy ?_ | refine wd_nil ?_)
    refine rd_bar0 hnt rfl (wo_mapupM (ky := kE) (a := ed es (j : Int)) hM1 qE rfl (by rfl) rfl (by show c.floor ≤ _; omega) (seen_old (by repeat (first | exact rs_nil | refine rs_add (by omega) ?_)) (by omega) (by omega) (by assumption)) (by omega) fun k2 hk2n hM2' hk2 => ⟨(by repeat (first | exact unchF_nil | refine unchF_cons (by decide) ?_)), ?_⟩)
    repeat' (first | refine z0 ?_ | refine z2 ?_ | refine z3 ?_ | refine z4 ?_ | refine z6 ?_ | refine z7 ?_ | refine z8 ?_ | refine z9 ?_ | refine za ?_ | refine zg ?_ | refine zh ?_ | refine zi ?_ | refine zj ?_ | refine zl ?_ | (refine zm ?_ ?_ <;> intro hc <;> try (exfalso; omega)) | (refine zo ?_ ?_ <;> intro hc <;> try (exfalso; omega)) | (refine zq ?_ ?_ <;> intro hc <;> try (exfalso; omega)) | refine wg_nil ?_ | refine then_go ?_ | refine wc_seq ?_ | refine wc_reg ?_ | refine wc_dreg ?_ | refine wc_block ?_ | refine zu ?_ | refine zv ?_ | refine wc_skip ?_ | refine wc_exit ?_ | refine wc_ret ?_ | refine then_ret ?_ | refine then_exit ?_ | refine out_go ?_ | refine out_ret ?_ | refine zA ?_ | refine zB ?_ | refine zw ?_ | refine zx ?_ | refine zy ?_ | refine wd_nil ?_)
    exact ⟨j + 1, by simp; omega, (Sub'.cons rfl (Sub'.cons rfl (Sub'.cons rfl (Sub'.cons rfl (Sub'.cons rfl (Sub'.cons rfl (Sub'.nil _))))))), by omega, by omega, hlt2, fun id q1 q2 => (hk2 id q2).trans ((hk1.get id (by omega)).trans (hkp2 id q1 q2)), hM2'.cong fun b => rfl⟩
  have hjl2 : j = es.length := by omega
  subst hjl2
  have hME : Mp kE g2 (h3.n + 1) (fun n => ixV (edIx es n)) := hM2.cong fun n => edM_ix herE n
  have hMN2 := hMN.keep (hkp2 h3.n (by omega) (by omega))
  have hO3 := hO.grew hgB
  have hO2g := hO3.keep (h' := g2) (by omega) (fun _ => hkpA idO (by omega))
  have hN3 := hN.grew hgB
  have hT0 : Tc g2 h3.n nsv esv mn obv ns es .nils .nils 0 0 [] [] false := ⟨hbt2, by omega, hMN2, hME, ⟨Or.inl ⟨rfl, Or.inl rfl⟩⟩, fun _ => rfl, fun q => absurd rfl q, ⟨Or.inl ⟨rfl, Or.inl rfl⟩⟩, fun _ => rfl, fun q => absurd rfl q, fun q => absurd rfl q⟩
  have hE' : ∀ g' : H, (∀ id, id < h3.n → g'.get id = g2.get id) → ∀ id, id < h.n → g'.get id = h.get id := fun g' q id q1 => (q id (by omega)).trans ((hkpA id (by omega)).trans (hgB.get id q1))
  repeat' (first | refine z0 ?_ | refine z2 ?_ | refine z3 ?_ | refine z4 ?_ | refine z6 ?_ | refine z7 ?_ | refine z8 ?_ | refine z9 ?_ | refine za ?_ | refine zg ?_ | refine zh ?_ | refine zi ?_ | refine zj ?_ | refine zl ?_ | (refine zm ?_ ?_ <;> intro hc <;> try (exfalso; omega)) | (refine zo ?_ ?_ <;> intro hc <;> try (exfalso; omega)) | (refine zq ?_ ?_ <;> intro hc <;> try (exfalso; omega)) | refine wg_nil ?_ | refine then_go ?_ | refine wc_seq ?_ | refine wc_reg ?_ | refine wc_dreg ?_ | refine wc_block ?_ | refine zu ?_ | refine zv ?_ | refine wc_skip ?_ | refine wc_exit ?_ | refine wc_ret ?_ | refine then_ret ?_ | refine then_exit ?_ | refine out_go ?_ | refine out_ret ?_ | refine zA ?_ | refine zB ?_ | refine zw ?_ | refine zx ?_ | refine zy ?_ | refine wd_nil ?_)
  refine wc_loopE (ι := Nat) (fun j => [(2, .ptr h.n 0), (3, .ptr h1.n 0), (7, .ptr (h3.n + 2) 0), (57, .int .i64 ((os.map Ob.row).length : Int)), (58, .int .i64 (j : Int))])
    (fun j q => g2.n ≤ q.n ∧ q.n ≤ g2.n + 300 * j ∧ j ≤ os.length ∧ (∀ id, id < h3.n → q.get id = g2.get id) ∧ ∃ sv pv sid pid st pa, Tc q h3.n nsv esv mn obv ns es sv pv sid pid st pa false ∧ midP ns es os mn j st pa) (fun j => os.length - j) ?_ 0 ⟨Nat.le_refl _, by omega, Nat.zero_le _, fun _ _ => rfl, _, _, _, _, _, _, hT0, by unfold midP; rw [if_pos rfl]; exact ⟨rfl, rfl⟩⟩ (Sub'.cons rfl (Sub'.cons rfl (Sub'.cons rfl (Sub'.cons rfl (Sub'.cons rfl (Sub'.nil _))))))
  rintro j q ⟨hq1, hq2, hj3, hq3, sv, pv, sid, pid, st, pa, hT, hmid⟩
  clear hT0 hO2g hE2g hbt2 hbt hNg hbg hm5g hb2g hMN2 hMN hME hM2 hM hkp2 hkp hm46 hm56 hb6 hN6 hE6 hO6 hb16 hb26 hgC hg36 hb13 hb23 hN2 hE2 hb12 hb1 hb2 hb4 hb5 hbg2 hb2g2 hE3
  try simp only at hj3 ⊢
  have hNq := hN3.keep (h' := q) (by omega) (fun _ => (hq3 idN (by omega)).trans (hkpA idN (by omega)))
  have hOq := hO3.keep (h' := q) (by omega) (fun _ => (hq3 idO (by omega)).trans (hkpA idO (by omega)))
  have hTl := hT.lt
  have hsth : seen c.vis (h3.n + 2) = true := hs5
  by_cases hlt3 : j < os.length
  · by_cases hj0 : j = 0
    · subst hj0
      unfold midP at hmid
      rw [if_pos rfl] at hmid
      obtain ⟨hst0, hpa0⟩ := hmid
      have hgo := pathP_go (os := os) herr (by omega)
      repeat' (first | refine z0 ?_ | refine z2 ?_ | refine z3 ?_ | refine z4 ?_ | refine z6 ?_ | refine z7 ?_ | refine z8 ?_ | refine z9 ?_ | refine za ?_ | refine zg ?_ | refine zh ?_ | refine zi ?_ | refine zj ?_ | refine zl ?_ | (refine zm ?_ ?_ <;> intro hc <;> try (exfalso; omega)) | (refine zo ?_ ?_ <;> intro hc <;> try (exfalso; omega)) | (refine zq ?_ ?_ <;> intro hc <;> try (exfalso; omega)) | refine wg_nil ?_ | refine then_go ?_ | refine wc_seq ?_ | refine wc_reg ?_ | refine wc_dreg ?_ | refine wc_block ?_ | refine zu ?_ | refine zv ?_ | refine wc_skip ?_ | refine wc_exit ?_ | refine wc_ret ?_ | refine then_ret ?_ | refine then_exit ?_ | refine out_go ?_ | refine out_ret ?_ | refine zA ?_ | refine zB ?_ | refine zw ?_ | refine zx ?_ | refine zy ?_ | refine wd_nil ?_)
      refine wo_call rfl rfl (tstep0_ev (hcx.mono (by omega)) hT hst0 hpa0 rfl hx hNq (by omega) hsN hOq (by omega) hsO hm0 hm1 (by omega) hlo hov (by omega) (fun hb k1 hk1 hk2 hk3 hT1 => ?_) (fun hb k1 sv1 pv1 sid1 pid1 hk1 hk2 hk3 hT1 => ?_))
      · have hc1 := hT1.cell
        repeat' (first | refine z0 ?_ | refine z2 ?_ | refine z3 ?_ | refine z4 ?_ | refine z6 ?_ | refine z7 ?_ | refine z8 ?_ | refine z9 ?_ | refine za ?_ | refine zg ?_ | refine zh ?_ | refine zi ?_ | refine zj ?_ | refine zl ?_ | (refine zm ?_ ?_ <;> intro hc <;> try (exfalso; omega)) | (refine zo ?_ ?_ <;> intro hc <;> try (exfalso; omega)) | (refine zq ?_ ?_ <;> intro hc <;> try (exfalso; omega)) | refine wg_nil ?_ | refine then_go ?_ | refine wc_seq ?_ | refine wc_reg ?_ | refine wc_dreg ?_ | refine wc_block ?_ | refine zu ?_ | refine zv ?_ | refine wc_skip ?_ | refine wc_exit ?_ | refine wc_ret ?_ | refine then_ret ?_ | refine then_exit ?_ | refine out_go ?_ | refine out_ret ?_ | refine zA ?_ | refine zB ?_ | refine zw ?_ | refine zx ?_ | refine zy ?_ | refine wd_nil ?_)
        exact ⟨Or.inr rfl, _, rfl, hKn (by rw [hgo, if_pos hb]) _ (hE' k1 fun id q1 => (hk3 id q1).trans (hq3 id q1)) (by omega) (by omega)⟩
      · rw [if_neg hb] at hgo
        have hc1 := hT1.cell
        by_cases he : 0 ≤ edIx es (first_ ns es os mn)
        · simp only [takeS, if_pos he] at hT1 hc1
          repeat' (first | refine z0 ?_ | refine z2 ?_ | refine z3 ?_ | refine z4 ?_ | refine z6 ?_ | refine z7 ?_ | refine z8 ?_ | refine z9 ?_ | refine za ?_ | refine zg ?_ | refine zh ?_ | refine zi ?_ | refine zj ?_ | refine zl ?_ | (refine zm ?_ ?_ <;> intro hc <;> try (exfalso; omega)) | (refine zo ?_ ?_ <;> intro hc <;> try (exfalso; omega)) | (refine zq ?_ ?_ <;> intro hc <;> try (exfalso; omega)) | refine wg_nil ?_ | refine then_go ?_ | refine wc_seq ?_ | refine wc_reg ?_ | refine wc_dreg ?_ | refine wc_block ?_ | refine zu ?_ | refine zv ?_ | refine wc_skip ?_ | refine wc_exit ?_ | refine wc_ret ?_ | refine then_ret ?_ | refine then_exit ?_ | refine out_go ?_ | refine out_ret ?_ | refine zA ?_ | refine zB ?_ | refine zw ?_ | refine zx ?_ | refine zy ?_ | refine wd_nil ?_)
          refine ⟨1, by simp; omega, (Sub'.cons rfl (Sub'.cons rfl (Sub'.cons rfl (Sub'.cons rfl (Sub'.cons rfl (Sub'.nil _)))))), by omega, by omega, hlt3, fun id q1 => (hk3 id q1).trans (hq3 id q1), sv1, pv1, sid1, pid1, _, _, hT1, ?_⟩
          unfold midP
          rw [if_neg (by omega)]
          have hb' := hb
          unfold badO at hb'
          have e1 : ((ob os 0).fr, (ob os 0).c) = ((0 : Int), (-1 : Int)) := by apply Prod.ext <;> simp only <;> omega
          rw [e1]
          refine ⟨⟨by simp, by simp, fun m q1 q2 => by simp at q2; omega⟩, by simp, by simp, hb, he, rfl⟩
        · simp only [takeS, if_neg he] at hT1 hc1
          repeat' (first | refine z0 ?_ | refine z2 ?_ | refine z3 ?_ | refine z4 ?_ | refine z6 ?_ | refine z7 ?_ | refine z8 ?_ | refine z9 ?_ | refine za ?_ | refine zg ?_ | refine zh ?_ | refine zi ?_ | refine zj ?_ | refine zl ?_ | (refine zm ?_ ?_ <;> intro hc <;> try (exfalso; omega)) | (refine zo ?_ ?_ <;> intro hc <;> try (exfalso; omega)) | (refine zq ?_ ?_ <;> intro hc <;> try (exfalso; omega)) | refine wg_nil ?_ | refine then_go ?_ | refine wc_seq ?_ | refine wc_reg ?_ | refine wc_dreg ?_ | refine wc_block ?_ | refine zu ?_ | refine zv ?_ | refine wc_skip ?_ | refine wc_exit ?_ | refine wc_ret ?_ | refine then_ret ?_ | refine then_exit ?_ | refine out_go ?_ | refine out_ret ?_ | refine zA ?_ | refine zB ?_ | refine zw ?_ | refine zx ?_ | refine zy ?_ | refine wd_nil ?_)
          exact ⟨Or.inr rfl, _, rfl, hKn (by rw [hgo, if_pos (by omega)]) _ (hE' k1 fun id q1 => (hk3 id q1).trans (hq3 id q1)) (by omega) (by omega)⟩
    · skip
      unfold midP at hmid
      rw [if_neg (by omega)] at hmid
      obtain ⟨hok, hpn, hpl, hb, he, hgo⟩ := hmid
      have hgo' := pathP_go (os := os) herr (by omega)
      rw [if_neg hb, if_neg (by omega), hgo, show os.length - j = (os.length - (j + 1)) + 1 by omega, goP] at hgo'
      repeat' (first | refine z0 ?_ | refine z2 ?_ | refine z3 ?_ | refine z4 ?_ | refine z6 ?_ | refine z7 ?_ | refine z8 ?_ | refine z9 ?_ | refine za ?_ | refine zg ?_ | refine zh ?_ | refine zi ?_ | refine zj ?_ | refine zl ?_ | (refine zm ?_ ?_ <;> intro hc <;> try (exfalso; omega)) | (refine zo ?_ ?_ <;> intro hc <;> try (exfalso; omega)) | (refine zq ?_ ?_ <;> intro hc <;> try (exfalso; omega)) | refine wg_nil ?_ | refine then_go ?_ | refine wc_seq ?_ | refine wc_reg ?_ | refine wc_dreg ?_ | refine wc_block ?_ | refine zu ?_ | refine zv ?_ | refine wc_skip ?_ | refine wc_exit ?_ | refine wc_ret ?_ | refine then_ret ?_ | refine then_exit ?_ | refine out_go ?_ | refine out_ret ?_ | refine zA ?_ | refine zB ?_ | refine zw ?_ | refine zx ?_ | refine zy ?_ | refine wd_nil ?_)
      refine wo_call rfl rfl (tstepN_ev (i := j) (hcx.mono (by omega)) hT hx hkd hOq (by omega) hsO (by omega) hlt3 hlo hov hok (by omega) (by omega) (fun hn0 k1 hk1 hk2 hk3 hT1 => ?_) (fun p hp k1 sv1 pv1 sid1 pid1 hk1 hk2 hk3 hT1 => ?_))
      · have hc1 := hT1.cell
        rw [hn0] at hgo'
        repeat' (first | refine z0 ?_ | refine z2 ?_ | refine z3 ?_ | refine z4 ?_ | refine z6 ?_ | refine z7 ?_ | refine z8 ?_ | refine z9 ?_ | refine za ?_ | refine zg ?_ | refine zh ?_ | refine zi ?_ | refine zj ?_ | refine zl ?_ | (refine zm ?_ ?_ <;> intro hc <;> try (exfalso; omega)) | (refine zo ?_ ?_ <;> intro hc <;> try (exfalso; omega)) | (refine zq ?_ ?_ <;> intro hc <;> try (exfalso; omega)) | refine wg_nil ?_ | refine then_go ?_ | refine wc_seq ?_ | refine wc_reg ?_ | refine wc_dreg ?_ | refine wc_block ?_ | refine zu ?_ | refine zv ?_ | refine wc_skip ?_ | refine wc_exit ?_ | refine wc_ret ?_ | refine then_ret ?_ | refine then_exit ?_ | refine out_go ?_ | refine out_ret ?_ | refine zA ?_ | refine zB ?_ | refine zw ?_ | refine zx ?_ | refine zy ?_ | refine wd_nil ?_)
        exact ⟨Or.inr rfl, _, rfl, hKn hgo' _ (hE' k1 fun id q1 => (hk3 id q1).trans (hq3 id q1)) (by omega) (by omega)⟩
      · rw [hp] at hgo'
        simp only at hgo'
        obtain ⟨hok', hplen⟩ := stepE_ok hok hp
        have hsl := hok.le
        cases hokL : okL (p.2.map (edIx es)) with
        | true =>
          rw [hokL, if_pos rfl] at hgo'
          rw [takes_ok es p.2 pa hokL] at hT1
          have hc1 := hT1.cell
          repeat' (first | refine z0 ?_ | refine z2 ?_ | refine z3 ?_ | refine z4 ?_ | refine z6 ?_ | refine z7 ?_ | refine z8 ?_ | refine z9 ?_ | refine za ?_ | refine zg ?_ | refine zh ?_ | refine zi ?_ | refine zj ?_ | refine zl ?_ | (refine zm ?_ ?_ <;> intro hc <;> try (exfalso; omega)) | (refine zo ?_ ?_ <;> intro hc <;> try (exfalso; omega)) | (refine zq ?_ ?_ <;> intro hc <;> try (exfalso; omega)) | refine wg_nil ?_ | refine then_go ?_ | refine wc_seq ?_ | refine wc_reg ?_ | refine wc_dreg ?_ | refine wc_block ?_ | refine zu ?_ | refine zv ?_ | refine wc_skip ?_ | refine wc_exit ?_ | refine wc_ret ?_ | refine then_ret ?_ | refine then_exit ?_ | refine out_go ?_ | refine out_ret ?_ | refine zA ?_ | refine zB ?_ | refine zw ?_ | refine zx ?_ | refine zy ?_ | refine wd_nil ?_)
          refine ⟨j + 1, by simp; omega, Sub'.cons rfl (Sub'.cons rfl (Sub'.cons rfl (Sub'.cons rfl (Sub'.cons rfl (Sub'.nil _))))), by omega, by omega, hlt3, fun id q1 => (hk3 id q1).trans (hq3 id q1), sv1, pv1, sid1, pid1, _, _, hT1, ?_⟩
          unfold midP
          rw [if_neg (by omega)]
          refine ⟨hok', by simp [hpn], by rw [List.length_append, List.length_map]; omega, hb, he, ?_⟩
          rw [hgo, show os.length - j = (os.length - (j + 1)) + 1 by omega, goP, hp]
          simp only [hokL, if_true]
        | false =>
          rw [hokL, if_neg (by simp)] at hgo'
          have hbad := takes_bad es p.2 (pa, false) (Or.inr hokL)
          rw [hbad] at hT1
          have hc1 := hT1.cell
          repeat' (first | refine z0 ?_ | refine z2 ?_ | refine z3 ?_ | refine z4 ?_ | refine z6 ?_ | refine z7 ?_ | refine z8 ?_ | refine z9 ?_ | refine za ?_ | refine zg ?_ | refine zh ?_ | refine zi ?_ | refine zj ?_ | refine zl ?_ | (refine zm ?_ ?_ <;> intro hc <;> try (exfalso; omega)) | (refine zo ?_ ?_ <;> intro hc <;> try (exfalso; omega)) | (refine zq ?_ ?_ <;> intro hc <;> try (exfalso; omega)) | refine wg_nil ?_ | refine then_go ?_ | refine wc_seq ?_ | refine wc_reg ?_ | refine wc_dreg ?_ | refine wc_block ?_ | refine zu ?_ | refine zv ?_ | refine wc_skip ?_ | refine wc_exit ?_ | refine wc_ret ?_ | refine then_ret ?_ | refine then_exit ?_ | refine out_go ?_ | refine out_ret ?_ | refine zA ?_ | refine zB ?_ | refine zw ?_ | refine zx ?_ | refine zy ?_ | refine wd_nil ?_)
          exact ⟨Or.inr rfl, _, rfl, hKn hgo' _ (hE' k1 fun id q1 => (hk3 id q1).trans (hq3 id q1)) (by omega) (by omega)⟩
  · have hjo : j = os.length := by omega
    have hcq := hT.cell
    have hpq := hT.pth
    have hlP : (pa.map rI).length = pa.length := List.length_map ..
    have hend : pathP ns es os mn = ends (some pa) ∧ pa.length ≤ 40000 := by
      unfold midP at hmid
      by_cases h0 : j = 0
      · rw [if_pos h0] at hmid
        rw [pathP_nil herr (by omega), hmid.2]
        exact ⟨rfl, by simp⟩
      · rw [if_neg h0] at hmid
        obtain ⟨hok, hpn, hpl, hb, he, hgo⟩ := hmid
        have hgo' := pathP_go (os := os) herr (by omega)
        rw [if_neg hb, if_neg (by omega), hgo, show os.length - j = 0 by omega, goP] at hgo'
        exact ⟨hgo', by omega⟩
    obtain ⟨hend, hpl⟩ := hend
    repeat' (first | refine z0 ?_ | refine z2 ?_ | refine z3 ?_ | refine z4 ?_ | refine z6 ?_ | refine z7 ?_ | refine z8 ?_ | refine z9 ?_ | refine za ?_ | refine zg ?_ | refine zh ?_ | refine zi ?_ | refine zj ?_ | refine zl ?_ | (refine zm ?_ ?_ <;> intro hc <;> try (exfalso; omega)) | (refine zo ?_ ?_ <;> intro hc <;> try (exfalso; omega)) | (refine zq ?_ ?_ <;> intro hc <;> try (exfalso; omega)) | refine wg_nil ?_ | refine then_go ?_ | refine wc_seq ?_ | refine wc_reg ?_ | refine wc_dreg ?_ | refine wc_block ?_ | refine zu ?_ | refine zv ?_ | refine wc_skip ?_ | refine wc_exit ?_ | refine wc_ret ?_ | refine then_ret ?_ | refine then_exit ?_ | refine out_go ?_ | refine out_ret ?_ | refine zA ?_ | refine zB ?_ | refine zw ?_ | refine zx ?_ | refine zy ?_ | refine wd_nil ?_)
    all_goals first
      | exact ⟨Or.inr rfl, _, rfl, hKn (by rw [hend, ends, if_pos (by omega)]) _ (hE' q hq3) (by omega) (by omega)⟩
      | (rw [ends, if_neg (by omega)] at hend
         rw [hend] at hK
         exact ⟨Or.inr rfl, _, rfl, hK q pv pid (hE' q hq3) (by omega) (by omega) (fun q1 => by have := hT.pin q1; omega) hpq (by simp only; omega)⟩)
end Go.Proofs.YtlocnfaeiacphaaGreatDoor.Ev
