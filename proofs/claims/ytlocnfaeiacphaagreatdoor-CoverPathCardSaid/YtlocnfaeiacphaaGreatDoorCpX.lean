/- The tracer: leave. -/
import Derived.Test.YtlocnfaeiacphaaGreatDoorSyH
import Derived.Test.YtlocnfaeiacphaaGreatDoorCpW
import Derived.KernelRfl
set_option linter.unusedVariables false
set_option linter.unusedSimpArgs false
set_option maxHeartbeats 4000000
namespace Go.Proofs.YtlocnfaeiacphaaGreatDoor.Ev
open Go

variable {c : C} {h h' : H} {nsv esv obv : AV} {ns : List Nd} {es : List Ed} {os : List Ob} {idN idE idO m : Nat} {mn : Int} {K : AV → H → Prop} {sv pv : AV} {sid pid : Nat} {st : List Fr} {pa : List Int} {fl : Bool}

theorem wo_sliceZ {P : Program} {X : Exts} {M : Mf} {env : Env'} {esz : Nat} {x y : XV} {id n es u : Nat} {cap : Option Nat} {p : IntKind} {z : Int} (hx : evE env x = some (.sl id 0 n es cap)) (hy : evE env y = some (.int p z)) (hz : z = (u : Int)) (h2 : u ≤ n) (h3 : es = esz)
    (hk : ∀ cap', K (.sl id 0 u es cap') h) : WO P X M c (.slice esz x none (some y)) env h K := by
  subst hz
  refine wo_slice (l := 0) (u := u) hx rfl ?_ (Nat.zero_le _) h2 h3 ?_
  · simp only [optE, hy]
  · rw [Nat.zero_mul, Nat.sub_zero]; exact hk _
def takes (es : List Ed) (L : List Ed) (p : List Int × Bool) : List Int × Bool := L.foldl (takeS es) p
theorem takes_cons (es : List Ed) (e : Ed) (L : List Ed) (p : List Int × Bool) : takes es (e :: L) p = takes es L (takeS es p e) := rfl
theorem takeS_len (es : List Ed) (p : List Int × Bool) (e : Ed) : (takeS es p e).1.length ≤ p.1.length + 1 ∧ p.1.length ≤ (takeS es p e).1.length := by
  unfold takeS
  split <;> simp
theorem takes_ok (es : List Ed) : ∀ (L : List Ed) (pa : List Int), okL (L.map (edIx es)) = true → takes es L (pa, false) = (pa ++ L.map (edIx es), false)
  | [], pa, _ => by simp [takes]
  | e :: L, pa, h => by
    simp only [okL, List.map_cons, List.all_cons, Bool.and_eq_true, decide_eq_true_eq] at h
    rw [takes_cons, takeS, if_pos h.1, takes_ok es L _ h.2]
    simp
theorem takes_bad (es : List Ed) : ∀ (L : List Ed) (p : List Int × Bool), (p.2 = true ∨ okL (L.map (edIx es)) = false) → (takes es L p).2 = true
  | [], p, h => by
    rcases h with h | h
    · exact h
    · simp [okL] at h
  | e :: L, p, h => by
    rw [takes_cons]
    refine takes_bad es L _ ?_
    by_cases he : 0 ≤ edIx es e
    · unfold takeS
      rw [if_pos he]
      rcases h with h | h
      · exact Or.inl h
      · simp only [okL, List.map_cons, List.all_cons, decide_eq_true he, Bool.true_and] at h
        exact Or.inr h
    · unfold takeS
      rw [if_neg he]
      exact Or.inl rfl
theorem raise_len (ns : List Nd) (os : List Ob) (st : List Fr) (to : Int) (n : Nat) : ∀ (d : Nat) (a : Int), (raiseE ns os st to n d a).length = d
  | 0, a => rfl
  | d + 1, a => by rw [raiseE, List.length_cons, raise_len]
theorem tleave_ev {i n : Nat} (hT : Tc h m nsv esv mn obv ns es sv pv sid pid st pa fl) (hx : Tx c m) (hkd : ∀ f k, k ≠ 2 → ndIx ns ⟨f, k, -1⟩ = kdIx ns f k) (hO : Arr h obv 5 (os.map Ob.row) idO) (hidO : idO < m) (hsO : seen c.vis idO = true) (hi1 : 1 ≤ i) (hi2 : i < os.length) (hlo : os.length ≤ 100) (hok : OkSt st i) (hn1 : 1 ≤ n) (hn2 : n < st.length) (hpl : pa.length ≤ 800000) (hn : h.n < 8000000)
    (hK : ∀ h' pv' pid', Tc h' m nsv esv mn obv ns es sv pv' sid pid' st (takes es (leaveE ns es os st n i) (pa, fl)).1 (takes es (leaveE ns es os st n i) (pa, fl)).2 → Fm m pa pid (takes es (leaveE ns es os st n i) (pa, fl)).1 pid' h h' → h'.n ≤ h.n + 210 → K (.tup []) h') :
    Gv Tryz.prog X0 Mx c 36 [.ptr (m + 2) 0, .int .i64 (i : Int), .int .i64 ((n : Int) - 1)] h K := by
  have hnt : (117 : Nat) ≤ 1000000 := by decide
  have hlO : (os.map Ob.row).length = os.length := List.length_map ..
  have hlS : (st.map rL).length = st.length := List.length_map ..
  have hlow := hx.low
  have hlt := hT.lt
  have hst : seen c.vis (m + 2) = true := hx.vis _ (by omega) (by omega)
  have hsm : seen c.vis m = true := hx.vis _ (by omega) (by omega)
  have hsm1 : seen c.vis (m + 1) = true := hx.vis _ (by omega) (by omega)
  have hcell := hT.cell
  have hstk := hT.stk
  have hsne : st ≠ [] := fun q => by rw [q] at hn2; simp at hn2
  have hsin := hT.sin hsne
  have hss : seen c.vis sid = true := hx.vis _ (by omega) (by omega)
  have hsi := hok.le
  refine gv_fn x_tleave (MK_other rfl _ _ _) (by simp) hnt ?_
  unfold s_tleave
  repeat' (first | refine z0 ?_ | refine z1 ?_ | refine z2 ?_ | refine z3 ?_ | refine z4 ?_ | refine z6 ?_ | refine z7 ?_ | refine z8 ?_ | refine z9 ?_ | refine zb ?_ | refine zc ?_ | refine zd ?_ | refine zh ?_ | refine zj ?_ | (refine zo ?_ ?_ <;> intro hc <;> try (exfalso; omega)) | (refine zq ?_ ?_ <;> intro hc <;> try (exfalso; omega)) | refine wg_nil ?_ | refine then_go ?_ | refine wc_seq ?_ | refine wc_reg ?_ | refine wc_block ?_ | refine zu ?_ | refine zv ?_ | refine wc_skip ?_ | refine wc_exit ?_ | refine wc_ret ?_ | refine then_ret ?_ | refine then_exit ?_ | refine out_go ?_ | refine out_ret ?_ | refine zA ?_ | refine zB ?_)
  refine wo_call rfl rfl (tat_ev hcell (by omega) (by omega) hT.mN hO (by omega) hst hsm hsO (by omega) (by omega) (by omega) ?_)
  repeat' (first | refine z0 ?_ | refine z1 ?_ | refine z2 ?_ | refine z3 ?_ | refine z4 ?_ | refine z6 ?_ | refine z7 ?_ | refine z8 ?_ | refine z9 ?_ | refine zb ?_ | refine zc ?_ | refine zd ?_ | refine zh ?_ | refine zj ?_ | (refine zo ?_ ?_ <;> intro hc <;> try (exfalso; omega)) | (refine zq ?_ ?_ <;> intro hc <;> try (exfalso; omega)) | refine wg_nil ?_ | refine then_go ?_ | refine wc_seq ?_ | refine wc_reg ?_ | refine wc_block ?_ | refine zu ?_ | refine zv ?_ | refine wc_skip ?_ | refine wc_exit ?_ | refine wc_ret ?_ | refine then_ret ?_ | refine then_exit ?_ | refine out_go ?_ | refine out_ret ?_ | refine zA ?_ | refine zB ?_)
  refine wo_call rfl rfl (tat_ev hcell (by omega) (by omega) hT.mN hO (by omega) hst hsm hsO (by omega) (by omega) (by omega) ?_)
  repeat' (first | refine z0 ?_ | refine z1 ?_ | refine z2 ?_ | refine z3 ?_ | refine z4 ?_ | refine z6 ?_ | refine z7 ?_ | refine z8 ?_ | refine z9 ?_ | refine zb ?_ | refine zc ?_ | refine zd ?_ | refine zh ?_ | refine zj ?_ | (refine zo ?_ ?_ <;> intro hc <;> try (exfalso; omega)) | (refine zq ?_ ?_ <;> intro hc <;> try (exfalso; omega)) | refine wg_nil ?_ | refine wc_seq ?_ | refine wc_reg ?_ | refine wc_block ?_ | refine zu ?_ | refine zv ?_ | refine wc_skip ?_ | refine wc_exit ?_ | refine wc_ret ?_ | refine then_ret ?_ | refine then_exit ?_ | refine out_go ?_ | refine out_ret ?_ | refine zA ?_ | refine zB ?_)
  refine then_go ?_
  repeat' (first | refine z0 ?_ | refine z1 ?_ | refine z2 ?_ | refine z3 ?_ | refine z4 ?_ | refine z6 ?_ | refine z7 ?_ | refine z8 ?_ | refine z9 ?_ | refine zb ?_ | refine zc ?_ | refine zd ?_ | refine zh ?_ | refine zj ?_ | (refine zo ?_ ?_ <;> intro hc <;> try (exfalso; omega)) | (refine zq ?_ ?_ <;> intro hc <;> try (exfalso; omega)) | refine wg_nil ?_ | refine wc_seq ?_ | refine wc_reg ?_ | refine wc_block ?_ | refine zu ?_ | refine zv ?_ | refine wc_skip ?_ | refine wc_exit ?_ | refine wc_ret ?_ | refine then_ret ?_ | refine then_exit ?_ | refine out_go ?_ | refine out_ret ?_ | refine zA ?_ | refine zB ?_)
  refine then_go ?_
  repeat' (first | refine z0 ?_ | refine z1 ?_ | refine z2 ?_ | refine z3 ?_ | refine z4 ?_ | refine z6 ?_ | refine z7 ?_ | refine z8 ?_ | refine z9 ?_ | refine zb ?_ | refine zc ?_ | refine zd ?_ | refine zh ?_ | refine zj ?_ | (refine zo ?_ ?_ <;> intro hc <;> try (exfalso; omega)) | (refine zq ?_ ?_ <;> intro hc <;> try (exfalso; omega)) | refine wg_nil ?_ | refine wc_seq ?_ | refine wc_reg ?_ | refine wc_block ?_ | refine zu ?_ | refine zv ?_ | refine wc_skip ?_ | refine wc_exit ?_ | refine wc_ret ?_ | refine then_ret ?_ | refine then_exit ?_ | refine out_go ?_ | refine out_ret ?_ | refine zA ?_ | refine zB ?_)
  refine then_go ?_
  refine wc_seqM (ι := Unit) (fun _ => [(0, .ptr (m + 2) 0), (1, .int .i64 (i : Int)), (2, .int .i64 ((n : Int) - 1)), (6, .int .i64 (nI ns (ob os ((i : Int) - 1)))), (7, .int .i64 (nI ns (ob os (i : Int)))), (8, .int .i64 (ob os ((i : Int) - 1)).f), (9, .int .i64 ((st.length : Int) - 1))]) (fun _ g => h = g ∧ ¬ (st.length = n + 1 ∧ 0 ≤ edIx es (retA ns os i) ∧ 0 ≤ edIx es (retB ns os st i))) ?_ ?_
  · by_cases hone : st.length = n + 1
    · have hrow : (st.map rL)[((((st.map rL).length : Nat) : Int) - 1).toNat]? = some [.int .i64 (fr st (st.length - 1)).1, .int .i64 (fr st (st.length - 1)).2] := by
        have e : ((((st.map rL).length : Nat) : Int) - 1).toNat = st.length - 1 := by omega
        rw [e]; exact rL_row (by omega)
      have hcl := hok.call (st.length - 1) (by omega) (by omega)
      repeat' (first | refine z0 ?_ | refine z1 ?_ | refine z2 ?_ | refine z3 ?_ | refine z4 ?_ | refine z6 ?_ | refine z7 ?_ | refine z8 ?_ | refine z9 ?_ | refine zb ?_ | refine zc ?_ | refine zd ?_ | refine zh ?_ | refine zj ?_ | (refine zo ?_ ?_ <;> intro hc <;> try (exfalso; omega)) | (refine zq ?_ ?_ <;> intro hc <;> try (exfalso; omega)) | refine wg_nil ?_ | refine then_go ?_ | refine wc_seq ?_ | refine wc_reg ?_ | refine wc_block ?_ | refine zu ?_ | refine zv ?_ | refine wc_skip ?_ | refine wc_exit ?_ | refine wc_ret ?_ | refine then_ret ?_ | refine then_exit ?_ | refine out_go ?_ | refine out_ret ?_ | refine zA ?_ | refine zB ?_)
      refine wo_call rfl rfl (tnode_ev hcell hT.mN hst hsm ?_)
      rw [hkd _ _ (by decide)]
      repeat' (first | refine z0 ?_ | refine z1 ?_ | refine z2 ?_ | refine z3 ?_ | refine z4 ?_ | refine z6 ?_ | refine z7 ?_ | refine z8 ?_ | refine z9 ?_ | refine zb ?_ | refine zc ?_ | refine zd ?_ | refine zh ?_ | refine zj ?_ | (refine zo ?_ ?_ <;> intro hc <;> try (exfalso; omega)) | (refine zq ?_ ?_ <;> intro hc <;> try (exfalso; omega)) | refine wg_nil ?_ | refine then_go ?_ | refine wc_seq ?_ | refine wc_reg ?_ | refine wc_block ?_ | refine zu ?_ | refine zv ?_ | refine wc_skip ?_ | refine wc_exit ?_ | refine wc_ret ?_ | refine then_ret ?_ | refine then_exit ?_ | refine out_go ?_ | refine out_ret ?_ | refine zA ?_ | refine zB ?_)
      refine wo_call rfl rfl (tat_ev hcell (by omega) (by omega) hT.mN hO (by omega) hst hsm hsO (by omega) (by omega) (by omega) ?_)
      repeat' (first | refine z0 ?_ | refine z1 ?_ | refine z2 ?_ | refine z3 ?_ | refine z4 ?_ | refine z6 ?_ | refine z7 ?_ | refine z8 ?_ | refine z9 ?_ | refine zb ?_ | refine zc ?_ | refine zd ?_ | refine zh ?_ | refine zj ?_ | (refine zo ?_ ?_ <;> intro hc <;> try (exfalso; omega)) | (refine zq ?_ ?_ <;> intro hc <;> try (exfalso; omega)) | refine wg_nil ?_ | refine then_go ?_ | refine wc_seq ?_ | refine wc_reg ?_ | refine wc_block ?_ | refine zu ?_ | refine zv ?_ | refine wc_skip ?_ | refine wc_exit ?_ | refine wc_ret ?_ | refine then_ret ?_ | refine then_exit ?_ | refine out_go ?_ | refine out_ret ?_ | refine zA ?_ | refine zB ?_)
      refine wo_call rfl rfl (thas_ev (e := retA ns os i) hcell hT.mE hst hsm1 (fun q1 => ?_) (fun q1 => ?_))
      · repeat' (first | refine z0 ?_ | refine z1 ?_ | refine z2 ?_ | refine z3 ?_ | refine z4 ?_ | refine z6 ?_ | refine z7 ?_ | refine z8 ?_ | refine z9 ?_ | refine zb ?_ | refine zc ?_ | refine zd ?_ | refine zh ?_ | refine zj ?_ | (refine zo ?_ ?_ <;> intro hc <;> try (exfalso; omega)) | (refine zq ?_ ?_ <;> intro hc <;> try (exfalso; omega)) | refine wg_nil ?_ | refine then_go ?_ | refine wc_seq ?_ | refine wc_reg ?_ | refine wc_block ?_ | refine zu ?_ | refine zv ?_ | refine wc_skip ?_ | refine wc_exit ?_ | refine wc_ret ?_ | refine then_ret ?_ | refine then_exit ?_ | refine out_go ?_ | refine out_ret ?_ | refine zA ?_ | refine zB ?_)
        refine wo_call rfl rfl (thas_ev (e := retB ns os st i) hcell hT.mE hst hsm1 (fun q2 => ?_) (fun q2 => ?_))
        · have hl2 : leaveE ns es os st n i = [retA ns os i, retB ns os st i] := by unfold leaveE; rw [if_pos ⟨hone, q1, q2⟩]
          rw [hl2] at hK
          simp only [takes_cons] at hK
          have hlen := takeS_len es (pa, fl) (retA ns os i)
          repeat' (first | refine z0 ?_ | refine z1 ?_ | refine z2 ?_ | refine z3 ?_ | refine z4 ?_ | refine z6 ?_ | refine z7 ?_ | refine z8 ?_ | refine z9 ?_ | refine zb ?_ | refine zc ?_ | refine zd ?_ | refine zh ?_ | refine zj ?_ | (refine zo ?_ ?_ <;> intro hc <;> try (exfalso; omega)) | (refine zq ?_ ?_ <;> intro hc <;> try (exfalso; omega)) | refine wg_nil ?_ | refine then_go ?_ | refine wc_seq ?_ | refine wc_reg ?_ | refine wc_block ?_ | refine zu ?_ | refine zv ?_ | refine wc_skip ?_ | refine wc_exit ?_ | refine wc_ret ?_ | refine then_ret ?_ | refine then_exit ?_ | refine out_go ?_ | refine out_ret ?_ | refine zA ?_ | refine zB ?_)
          refine wo_call rfl rfl (ttake_ev (e := retA ns os i) hT hx (by omega) (by omega) fun h2 pv2 pid2 hT2 hF2 hn2' => ?_)
          repeat' (first | refine z0 ?_ | refine z1 ?_ | refine z2 ?_ | refine z3 ?_ | refine z4 ?_ | refine z6 ?_ | refine z7 ?_ | refine z8 ?_ | refine z9 ?_ | refine zb ?_ | refine zc ?_ | refine zd ?_ | refine zh ?_ | refine zj ?_ | (refine zo ?_ ?_ <;> intro hc <;> try (exfalso; omega)) | (refine zq ?_ ?_ <;> intro hc <;> try (exfalso; omega)) | refine wg_nil ?_ | refine then_go ?_ | refine wc_seq ?_ | refine wc_reg ?_ | refine wc_block ?_ | refine zu ?_ | refine zv ?_ | refine wc_skip ?_ | refine wc_exit ?_ | refine wc_ret ?_ | refine then_ret ?_ | refine then_exit ?_ | refine out_go ?_ | refine out_ret ?_ | refine zA ?_ | refine zB ?_)
          refine wo_call rfl rfl (ttake_ev (e := retB ns os st i) hT2 hx (by simp only at hlen; omega) (by omega) fun h3 pv3 pid3 hT3 hF3 hn3' => ?_)
          repeat' (first | refine z0 ?_ | refine z1 ?_ | refine z2 ?_ | refine z3 ?_ | refine z4 ?_ | refine z6 ?_ | refine z7 ?_ | refine z8 ?_ | refine z9 ?_ | refine zb ?_ | refine zc ?_ | refine zd ?_ | refine zh ?_ | refine zj ?_ | (refine zo ?_ ?_ <;> intro hc <;> try (exfalso; omega)) | (refine zq ?_ ?_ <;> intro hc <;> try (exfalso; omega)) | refine wg_nil ?_ | refine then_go ?_ | refine wc_seq ?_ | refine wc_reg ?_ | refine wc_block ?_ | refine zu ?_ | refine zv ?_ | refine wc_skip ?_ | refine wc_exit ?_ | refine wc_ret ?_ | refine then_ret ?_ | refine then_exit ?_ | refine out_go ?_ | refine out_ret ?_ | refine zA ?_ | refine zB ?_)
          exact ⟨Or.inr rfl, _, rfl, hK h3 pv3 pid3 hT3 (hF2.trans hF3) (by omega)⟩
        · repeat' (first | refine z0 ?_ | refine z1 ?_ | refine z2 ?_ | refine z3 ?_ | refine z4 ?_ | refine z6 ?_ | refine z7 ?_ | refine z8 ?_ | refine z9 ?_ | refine zb ?_ | refine zc ?_ | refine zd ?_ | refine zh ?_ | refine zj ?_ | (refine zo ?_ ?_ <;> intro hc <;> try (exfalso; omega)) | (refine zq ?_ ?_ <;> intro hc <;> try (exfalso; omega)) | refine wg_nil ?_ | refine then_go ?_ | refine wc_seq ?_ | refine wc_reg ?_ | refine wc_block ?_ | refine zu ?_ | refine zv ?_ | refine wc_skip ?_ | refine wc_exit ?_ | refine wc_ret ?_ | refine then_ret ?_ | refine then_exit ?_ | refine out_go ?_ | refine out_ret ?_ | refine zA ?_ | refine zB ?_)
          exact ⟨(), (Sub'.cons rfl (Sub'.cons rfl (Sub'.cons rfl (Sub'.cons rfl (Sub'.cons rfl (Sub'.cons rfl (Sub'.cons (by first | rfl | (simp only [look]; show some _ = some _; congr 2; omega)) (Sub'.nil _)))))))), rfl, fun q => q2 q.2.2⟩
      · repeat' (first | refine z0 ?_ | refine z1 ?_ | refine z2 ?_ | refine z3 ?_ | refine z4 ?_ | refine z6 ?_ | refine z7 ?_ | refine z8 ?_ | refine z9 ?_ | refine zb ?_ | refine zc ?_ | refine zd ?_ | refine zh ?_ | refine zj ?_ | (refine zo ?_ ?_ <;> intro hc <;> try (exfalso; omega)) | (refine zq ?_ ?_ <;> intro hc <;> try (exfalso; omega)) | refine wg_nil ?_ | refine then_go ?_ | refine wc_seq ?_ | refine wc_reg ?_ | refine wc_block ?_ | refine zu ?_ | refine zv ?_ | refine wc_skip ?_ | refine wc_exit ?_ | refine wc_ret ?_ | refine then_ret ?_ | refine then_exit ?_ | refine out_go ?_ | refine out_ret ?_ | refine zA ?_ | refine zB ?_)
        exact ⟨(), (Sub'.cons rfl (Sub'.cons rfl (Sub'.cons rfl (Sub'.cons rfl (Sub'.cons rfl (Sub'.cons rfl (Sub'.cons (by first | rfl | (simp only [look]; show some _ = some _; congr 2; omega)) (Sub'.nil _)))))))), rfl, fun q => q1 q.2.1⟩
    · repeat' (first | refine z0 ?_ | refine z1 ?_ | refine z2 ?_ | refine z3 ?_ | refine z4 ?_ | refine z6 ?_ | refine z7 ?_ | refine z8 ?_ | refine z9 ?_ | refine zb ?_ | refine zc ?_ | refine zd ?_ | refine zh ?_ | refine zj ?_ | (refine zo ?_ ?_ <;> intro hc <;> try (exfalso; omega)) | (refine zq ?_ ?_ <;> intro hc <;> try (exfalso; omega)) | refine wg_nil ?_ | refine then_go ?_ | refine wc_seq ?_ | refine wc_reg ?_ | refine wc_block ?_ | refine zu ?_ | refine zv ?_ | refine wc_skip ?_ | refine wc_exit ?_ | refine wc_ret ?_ | refine then_ret ?_ | refine then_exit ?_ | refine out_go ?_ | refine out_ret ?_ | refine zA ?_ | refine zB ?_)
      exact ⟨(), (Sub'.cons rfl (Sub'.cons rfl (Sub'.cons rfl (Sub'.cons rfl (Sub'.cons rfl (Sub'.cons rfl (Sub'.cons (by first | rfl | (simp only [look]; show some _ = some _; congr 2; omega)) (Sub'.nil _)))))))), rfl, fun q => hone q.1⟩
  rintro _ _ ⟨rfl, hno⟩
  have hl2 : leaveE ns es os st n i = ⟨nI ns (ob os ((i : Int) - 1)), kdIx ns (ob os ((i : Int) - 1)).f 4, 1, -1⟩ :: raiseE ns os st (nI ns (ob os (i : Int))) n (st.length - n) (kdIx ns (ob os ((i : Int) - 1)).f 4) := by unfold leaveE; rw [if_neg hno]
  repeat' (first | refine z0 ?_ | refine z1 ?_ | refine z2 ?_ | refine z3 ?_ | refine z4 ?_ | refine z6 ?_ | refine z7 ?_ | refine z8 ?_ | refine z9 ?_ | refine zb ?_ | refine zc ?_ | refine zd ?_ | refine zh ?_ | refine zj ?_ | (refine zo ?_ ?_ <;> intro hc <;> try (exfalso; omega)) | (refine zq ?_ ?_ <;> intro hc <;> try (exfalso; omega)) | refine wg_nil ?_ | refine then_go ?_ | refine wc_seq ?_ | refine wc_reg ?_ | refine wc_block ?_ | refine zu ?_ | refine zv ?_ | refine wc_skip ?_ | refine wc_exit ?_ | refine wc_ret ?_ | refine then_ret ?_ | refine then_exit ?_ | refine out_go ?_ | refine out_ret ?_ | refine zA ?_ | refine zB ?_)
  refine wo_call rfl rfl (tnode_ev hcell hT.mN hst hsm ?_)
  rw [hkd _ _ (by decide)]
  repeat' (first | refine z0 ?_ | refine z1 ?_ | refine z2 ?_ | refine z3 ?_ | refine z4 ?_ | refine z6 ?_ | refine z7 ?_ | refine z8 ?_ | refine z9 ?_ | refine zb ?_ | refine zc ?_ | refine zd ?_ | refine zh ?_ | refine zj ?_ | (refine zo ?_ ?_ <;> intro hc <;> try (exfalso; omega)) | (refine zq ?_ ?_ <;> intro hc <;> try (exfalso; omega)) | refine wg_nil ?_ | refine then_go ?_ | refine wc_seq ?_ | refine wc_reg ?_ | refine wc_block ?_ | refine zu ?_ | refine zv ?_ | refine wc_skip ?_ | refine wc_exit ?_ | refine wc_ret ?_ | refine then_ret ?_ | refine then_exit ?_ | refine out_go ?_ | refine out_ret ?_ | refine zA ?_ | refine zB ?_)
  refine wo_call rfl rfl (ttake_ev (e := ⟨nI ns (ob os ((i : Int) - 1)), kdIx ns (ob os ((i : Int) - 1)).f 4, 1, -1⟩) hT hx (by omega) (by omega) fun h2 pv2 pid2 hT2 hF2 hn2' => ?_)
  repeat' (first | refine z0 ?_ | refine z1 ?_ | refine z2 ?_ | refine z3 ?_ | refine z4 ?_ | refine z6 ?_ | refine z7 ?_ | refine z8 ?_ | refine z9 ?_ | refine zb ?_ | refine zc ?_ | refine zd ?_ | refine zh ?_ | refine zj ?_ | (refine zo ?_ ?_ <;> intro hc <;> try (exfalso; omega)) | (refine zq ?_ ?_ <;> intro hc <;> try (exfalso; omega)) | refine wg_nil ?_ | refine then_go ?_ | refine wc_seq ?_ | refine wc_reg ?_ | refine wc_block ?_ | refine zu ?_ | refine zv ?_ | refine wc_skip ?_ | refine wc_exit ?_ | refine wc_ret ?_ | refine then_ret ?_ | refine then_exit ?_ | refine out_go ?_ | refine out_ret ?_ | refine zA ?_ | refine zB ?_)
  refine wc_loopE (ι := Nat × Int) (fun x => [(0, .ptr (m + 2) 0), (2, .int .i64 ((n : Int) - 1)), (7, .int .i64 (nI ns (ob os (i : Int)))), (9, .int .i64 ((n : Int) + x.1 - 1)), (12, .int .i64 x.2)])
    (fun x h' => x.1 ≤ st.length - n ∧ ∃ pv' pid' pa' fl', Tc h' m nsv esv mn obv ns es sv pv' sid pid' st pa' fl' ∧ Fm m pa pid pa' pid' h h' ∧ h'.n ≤ h.n + 2 + 2 * (st.length - n - x.1) ∧ takes es (raiseE ns os st (nI ns (ob os (i : Int))) n x.1 x.2) (pa', fl') = takes es (leaveE ns es os st n i) (pa, fl) ∧ pa'.length ≤ pa.length + 1 + (st.length - n - x.1)) (fun x => x.1) ?_
    (st.length - n, kdIx ns (ob os ((i : Int) - 1)).f 4)
    ⟨Nat.le_refl _, pv2, pid2, _, _, hT2, hF2, by omega, by rw [hl2, takes_cons], by have := takeS_len es (pa, fl) ⟨nI ns (ob os ((i : Int) - 1)), kdIx ns (ob os ((i : Int) - 1)).f 4, 1, -1⟩; simp only at this; omega⟩
    (Sub'.cons rfl (Sub'.cons rfl (Sub'.cons rfl (Sub'.cons (by simp only [look]; show some _ = some _; congr 2; omega) (Sub'.cons rfl (Sub'.nil _))))))
  rintro ⟨d, a⟩ h' ⟨hd, pv', pid', pa', fl', hT', hF', hn', htk, hpl'⟩
  try simp only at hd hn' htk hpl' ⊢
  have hcell' := hT'.cell
  have hstk' := hT'.stk
  have hlt' := hT'.lt
  have hF'l := hF'.le
  have hO' : Arr h' obv 5 (os.map Ob.row) idO := hO.keep hF'.le (fun _ => hF'.get idO (by omega) (by omega) (fun q => by have := hT.pin q; omega))
  cases d with
  | zero =>
    repeat' (first | refine z0 ?_ | refine z1 ?_ | refine z2 ?_ | refine z3 ?_ | refine z4 ?_ | refine z6 ?_ | refine z7 ?_ | refine z8 ?_ | refine z9 ?_ | refine zb ?_ | refine zc ?_ | refine zd ?_ | refine zh ?_ | refine zj ?_ | (refine zo ?_ ?_ <;> intro hc <;> try (exfalso; omega)) | (refine zq ?_ ?_ <;> intro hc <;> try (exfalso; omega)) | refine wg_nil ?_ | refine then_go ?_ | refine wc_seq ?_ | refine wc_reg ?_ | refine wc_block ?_ | refine zu ?_ | refine zv ?_ | refine wc_skip ?_ | refine wc_exit ?_ | refine wc_ret ?_ | refine then_ret ?_ | refine then_exit ?_ | refine out_go ?_ | refine out_ret ?_ | refine zA ?_ | refine zB ?_)
    rw [raiseE] at htk
    have htk' : (pa', fl') = takes es (leaveE ns es os st n i) (pa, fl) := htk
    rw [← htk'] at hK
    exact ⟨Or.inl rfl, _, rfl, hK h' pv' pid' hT' hF' (by omega)⟩
  | succ d =>
    have hcl := hok.call (n + d) (by omega) (by omega)
    have hrow : (st.map rL)[((n : Int) + ((d + 1 : Nat) : Int) - 1).toNat]? = some [.int .i64 (fr st (n + d)).1, .int .i64 (fr st (n + d)).2] := by
      have e : ((n : Int) + ((d + 1 : Nat) : Int) - 1).toNat = n + d := by omega
      rw [e]; exact rL_row (by omega)
    rw [raiseE, takes_cons] at htk
    by_cases hd0 : 0 < d
    · rw [if_pos hd0] at htk
      have hlen := takeS_len es (pa', fl') ⟨a, kdIx ns (ob os (fr st (n + d)).2).f 4, 4, nI ns (ob os (fr st (n + d)).2)⟩
      repeat' (first | refine z0 ?_ | refine z1 ?_ | refine z2 ?_ | refine z3 ?_ | refine z4 ?_ | refine z6 ?_ | refine z7 ?_ | refine z8 ?_ | refine z9 ?_ | refine zb ?_ | refine zc ?_ | refine zd ?_ | refine zh ?_ | refine zj ?_ | (refine zo ?_ ?_ <;> intro hc <;> try (exfalso; omega)) | (refine zq ?_ ?_ <;> intro hc <;> try (exfalso; omega)) | refine wg_nil ?_ | refine then_go ?_ | refine wc_seq ?_ | refine wc_reg ?_ | refine wc_block ?_ | refine zu ?_ | refine zv ?_ | refine wc_skip ?_ | refine wc_exit ?_ | refine wc_ret ?_ | refine then_ret ?_ | refine then_exit ?_ | refine out_go ?_ | refine out_ret ?_ | refine zA ?_ | refine zB ?_)
      refine wo_call rfl rfl (tnode_ev hcell' hT'.mN hst hsm ?_)
      rw [hkd _ _ (by decide)]
      repeat' (first | refine z0 ?_ | refine z1 ?_ | refine z2 ?_ | refine z3 ?_ | refine z4 ?_ | refine z6 ?_ | refine z7 ?_ | refine z8 ?_ | refine z9 ?_ | refine zb ?_ | refine zc ?_ | refine zd ?_ | refine zh ?_ | refine zj ?_ | (refine zo ?_ ?_ <;> intro hc <;> try (exfalso; omega)) | (refine zq ?_ ?_ <;> intro hc <;> try (exfalso; omega)) | refine wg_nil ?_ | refine then_go ?_ | refine wc_seq ?_ | refine wc_reg ?_ | refine wc_block ?_ | refine zu ?_ | refine zv ?_ | refine wc_skip ?_ | refine wc_exit ?_ | refine wc_ret ?_ | refine then_ret ?_ | refine then_exit ?_ | refine out_go ?_ | refine out_ret ?_ | refine zA ?_ | refine zB ?_)
      refine wo_call rfl rfl (tat_ev hcell' (by omega) (by omega) hT'.mN hO' (by omega) hst hsm hsO (by omega) (by omega) (by omega) ?_)
      repeat' (first | refine z0 ?_ | refine z1 ?_ | refine z2 ?_ | refine z3 ?_ | refine z4 ?_ | refine z6 ?_ | refine z7 ?_ | refine z8 ?_ | refine z9 ?_ | refine zb ?_ | refine zc ?_ | refine zd ?_ | refine zh ?_ | refine zj ?_ | (refine zo ?_ ?_ <;> intro hc <;> try (exfalso; omega)) | (refine zq ?_ ?_ <;> intro hc <;> try (exfalso; omega)) | refine wg_nil ?_ | refine then_go ?_ | refine wc_seq ?_ | refine wc_reg ?_ | refine wc_block ?_ | refine zu ?_ | refine zv ?_ | refine wc_skip ?_ | refine wc_exit ?_ | refine wc_ret ?_ | refine then_ret ?_ | refine then_exit ?_ | refine out_go ?_ | refine out_ret ?_ | refine zA ?_ | refine zB ?_)
      refine wo_call rfl rfl (ttake_ev (e := ⟨a, kdIx ns (ob os (fr st (n + d)).2).f 4, 4, nI ns (ob os (fr st (n + d)).2)⟩) hT' hx (by omega) (by omega) fun h3 pv3 pid3 hT3 hF3 hn3' => ?_)
      repeat' (first | refine z0 ?_ | refine z1 ?_ | refine z2 ?_ | refine z3 ?_ | refine z4 ?_ | refine z6 ?_ | refine z7 ?_ | refine z8 ?_ | refine z9 ?_ | refine zb ?_ | refine zc ?_ | refine zd ?_ | refine zh ?_ | refine zj ?_ | (refine zo ?_ ?_ <;> intro hc <;> try (exfalso; omega)) | (refine zq ?_ ?_ <;> intro hc <;> try (exfalso; omega)) | refine wg_nil ?_ | refine then_go ?_ | refine wc_seq ?_ | refine wc_reg ?_ | refine wc_block ?_ | refine zu ?_ | refine zv ?_ | refine wc_skip ?_ | refine wc_exit ?_ | refine wc_ret ?_ | refine then_ret ?_ | refine then_exit ?_ | refine out_go ?_ | refine out_ret ?_ | refine zA ?_ | refine zB ?_)
      exact ⟨(d, _), by simp, Sub'.cons rfl (Sub'.cons rfl (Sub'.cons rfl (Sub'.cons (by simp only [look]; show some _ = some _; congr 2; omega) (Sub'.cons rfl (Sub'.nil _))))), by simp only; omega, pv3, pid3, _, _, hT3, hF'.trans hF3, by simp only; omega, htk, by simp only at hlen ⊢; omega⟩
    · rw [if_neg hd0] at htk
      have hlen := takeS_len es (pa', fl') ⟨a, nI ns (ob os (i : Int)), 4, nI ns (ob os (fr st (n + d)).2)⟩
      repeat' (first | refine z0 ?_ | refine z1 ?_ | refine z2 ?_ | refine z3 ?_ | refine z4 ?_ | refine z6 ?_ | refine z7 ?_ | refine z8 ?_ | refine z9 ?_ | refine zb ?_ | refine zc ?_ | refine zd ?_ | refine zh ?_ | refine zj ?_ | (refine zo ?_ ?_ <;> intro hc <;> try (exfalso; omega)) | (refine zq ?_ ?_ <;> intro hc <;> try (exfalso; omega)) | refine wg_nil ?_ | refine then_go ?_ | refine wc_seq ?_ | refine wc_reg ?_ | refine wc_block ?_ | refine zu ?_ | refine zv ?_ | refine wc_skip ?_ | refine wc_exit ?_ | refine wc_ret ?_ | refine then_ret ?_ | refine then_exit ?_ | refine out_go ?_ | refine out_ret ?_ | refine zA ?_ | refine zB ?_)
      refine wo_call rfl rfl (tat_ev hcell' (by omega) (by omega) hT'.mN hO' (by omega) hst hsm hsO (by omega) (by omega) (by omega) ?_)
      repeat' (first | refine z0 ?_ | refine z1 ?_ | refine z2 ?_ | refine z3 ?_ | refine z4 ?_ | refine z6 ?_ | refine z7 ?_ | refine z8 ?_ | refine z9 ?_ | refine zb ?_ | refine zc ?_ | refine zd ?_ | refine zh ?_ | refine zj ?_ | (refine zo ?_ ?_ <;> intro hc <;> try (exfalso; omega)) | (refine zq ?_ ?_ <;> intro hc <;> try (exfalso; omega)) | refine wg_nil ?_ | refine then_go ?_ | refine wc_seq ?_ | refine wc_reg ?_ | refine wc_block ?_ | refine zu ?_ | refine zv ?_ | refine wc_skip ?_ | refine wc_exit ?_ | refine wc_ret ?_ | refine then_ret ?_ | refine then_exit ?_ | refine out_go ?_ | refine out_ret ?_ | refine zA ?_ | refine zB ?_)
      refine wo_call rfl rfl (ttake_ev (e := ⟨a, nI ns (ob os (i : Int)), 4, nI ns (ob os (fr st (n + d)).2)⟩) hT' hx (by omega) (by omega) fun h3 pv3 pid3 hT3 hF3 hn3' => ?_)
      repeat' (first | refine z0 ?_ | refine z1 ?_ | refine z2 ?_ | refine z3 ?_ | refine z4 ?_ | refine z6 ?_ | refine z7 ?_ | refine z8 ?_ | refine z9 ?_ | refine zb ?_ | refine zc ?_ | refine zd ?_ | refine zh ?_ | refine zj ?_ | (refine zo ?_ ?_ <;> intro hc <;> try (exfalso; omega)) | (refine zq ?_ ?_ <;> intro hc <;> try (exfalso; omega)) | refine wg_nil ?_ | refine then_go ?_ | refine wc_seq ?_ | refine wc_reg ?_ | refine wc_block ?_ | refine zu ?_ | refine zv ?_ | refine wc_skip ?_ | refine wc_exit ?_ | refine wc_ret ?_ | refine then_ret ?_ | refine then_exit ?_ | refine out_go ?_ | refine out_ret ?_ | refine zA ?_ | refine zB ?_)
      exact ⟨(d, _), by simp, Sub'.cons rfl (Sub'.cons rfl (Sub'.cons rfl (Sub'.cons (by simp only [look]; show some _ = some _; congr 2; omega) (Sub'.cons rfl (Sub'.nil _))))), by simp only; omega, pv3, pid3, _, _, hT3, hF'.trans hF3, by simp only; omega, htk, by simp only at hlen ⊢; omega⟩
end Go.Proofs.YtlocnfaeiacphaaGreatDoor.Ev
