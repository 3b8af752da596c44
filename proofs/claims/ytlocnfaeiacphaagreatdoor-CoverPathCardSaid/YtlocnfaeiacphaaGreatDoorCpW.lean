/- The tracer: its state, and its small methods. -/
import Derived.Test.YtlocnfaeiacphaaGreatDoorSyH
import Derived.KernelRfl
set_option linter.unusedVariables false
set_option linter.unusedSimpArgs false
set_option maxHeartbeats 4000000
namespace Go.Proofs.YtlocnfaeiacphaaGreatDoor.Ev
open Go
/-- the tracer in memory: its maps under m and m + 1, itself under m + 2 -/
structure Tc (h : H) (m : Nat) (nsv esv : AV) (mn : Int) (obv : AV) (ns : List Nd) (es : List Ed) (sv pv : AV) (sid pid : Nat) (st : List Fr) (pa : List Int) (fl : Bool) : Prop where
  cell : h.get (m + 2) = some (.cells [nsv, esv, .int .i64 mn, obv, .mp m, .mp (m + 1), sv, pv, .bool fl])
  lt : m + 2 < h.n
  mN : Mp kN h m (fun n => ixV (ndIx ns n))
  mE : Mp kE h (m + 1) (fun e => ixV (edIx es e))
  stk : Arr h sv 2 (st.map rL) sid
  snil : st = [] → sv = .nils
  sin : st ≠ [] → m + 3 ≤ sid ∧ sid < h.n
  pth : Arr h pv 1 (pa.map rI) pid
  pnil : pa = [] → pv = .nils
  pin : pa ≠ [] → m + 3 ≤ pid ∧ pid < h.n
  two : st ≠ [] → pa ≠ [] → sid ≠ pid
/-- what a method that only lengthens the path leaves -/
structure Fm (m : Nat) (pa : List Int) (pid : Nat) (pa' : List Int) (pid' : Nat) (h h' : H) : Prop where
  le : h.n ≤ h'.n
  get : ∀ id, id < h.n → id ≠ m + 2 → (pa ≠ [] → id ≠ pid) → h'.get id = h.get id
  lk : (pa' = pa ∧ pid' = pid) ∨ h.n ≤ pid'
theorem Fm.trans {m : Nat} {pa pa' pa2 : List Int} {pid pid' pid2 : Nat} {h h1 h2 : H} (a : Fm m pa pid pa' pid' h h1) (b : Fm m pa' pid' pa2 pid2 h1 h2) : Fm m pa pid pa2 pid2 h h2 := by
  refine ⟨Nat.le_trans a.le b.le, fun id q1 q2 q3 => ?_, ?_⟩
  · rw [b.get id (Nat.lt_of_lt_of_le q1 a.le) q2 ?_, a.get id q1 q2 q3]
    rcases a.lk with ⟨e1, e2⟩ | e
    · rw [e1, e2]; exact q3
    · intro _; omega
  · rcases b.lk with ⟨e1, e2⟩ | e
    · rcases a.lk with ⟨e3, e4⟩ | e'
      · exact Or.inl ⟨e1.trans e3, e2.trans e4⟩
      · right; omega
    · right; have := a.le; omega
theorem Fm.grew {m : Nat} {pa : List Int} {pid : Nat} {h h1 : H} (g : Grew h h1) : Fm m pa pid pa pid h h1 := ⟨g.le, fun id q _ _ => g.get id q, Or.inl ⟨rfl, rfl⟩⟩
theorem Tc.grew {h h1 : H} {m : Nat} {nsv esv obv : AV} {mn : Int} {ns : List Nd} {es : List Ed} {sv pv : AV} {sid pid : Nat} {st : List Fr} {pa : List Int} {fl : Bool} (t : Tc h m nsv esv mn obv ns es sv pv sid pid st pa fl) (g : Grew h h1) : Tc h1 m nsv esv mn obv ns es sv pv sid pid st pa fl := by
  have hl := t.lt
  have hg := g.le
  exact ⟨(g.get _ (by omega)).trans t.cell, by omega, t.mN.keep (g.get _ (by omega)), t.mE.keep (g.get _ (by omega)), t.stk.grew g, t.snil, fun q => ⟨(t.sin q).1, by have := (t.sin q).2; omega⟩, t.pth.grew g, t.pnil, fun q => ⟨(t.pin q).1, by have := (t.pin q).2; omega⟩, t.two⟩
/-- what a context must see -/
structure Tx (c : C) (m : Nat) : Prop where
  low : c.floor ≤ m
  vis : ∀ id, m ≤ id → id < 10000000 → seen c.vis id = true
theorem Tx.cx {c : C} {m : Nat} {h : H} (x : Tx c m) (hv : ∀ id, m ≤ id → id < big → seen c.vis id = true) (hm : m ≤ h.n) : Cx c h := ⟨Nat.le_trans x.low hm, fun id q1 q2 => hv id (Nat.le_trans hm q1) q2⟩
def takeS (es : List Ed) (p : List Int × Bool) (e : Ed) : List Int × Bool := if 0 ≤ edIx es e then (p.1 ++ [edIx es e], p.2) else (p.1, true)
theorem ix_neg {α : Type} {p : α → Bool} {l : List α} (h : ix p l < 0) : ix p l = -1 := by
  rcases ix_range p l with q | ⟨k, q, _⟩
  · exact q
  · omega
theorem ixL {α : Type} {p : α → Bool} {l : List α} : ix p l < l.length := by
  rcases ix_range p l with q | ⟨k, q, hk, _⟩
  · omega
  · omega

variable {c : C} {h h' : H} {nsv esv obv : AV} {ns : List Nd} {es : List Ed} {os : List Ob} {idN idE idO m : Nat} {mn : Int} {K : AV → H → Prop} {sv pv : AV} {sid pid : Nat} {st : List Fr} {pa : List Int} {fl : Bool}

theorem tnode_ev {f k i : Int} {a0 a1 a2 a3 a5 a6 a7 a8 : AV} {tid mN : Nat} (hcell : h.get tid = some (.cells [a0, a1, a2, a3, .mp mN, a5, a6, a7, a8])) (hM : Mp kN h mN (fun n => ixV (ndIx ns n))) (hst : seen c.vis tid = true) (hsm : seen c.vis mN = true) (hK : K (.int .i64 (ndIx ns ⟨f, k, i⟩)) h) :
    Gv Tryz.prog X0 Mx c 35 [.ptr tid 0, .int .i64 f, .int .i64 k, .int .i64 i] h K := by
  have hnt : (25 : Nat) ≤ 1000000 := by decide
  refine gv_fn x_tnode (MK_other rfl _ _ _) (by simp) hnt ?_
  unfold s_tnode
  repeat' (first | refine z0 ?_ | refine z2 ?_ | refine z3 ?_ | refine z4 ?_ | refine z8 ?_ | refine z9 ?_ | refine zf ?_ | refine zg ?_ | refine zh ?_ | refine zj ?_ | refine wg_nil ?_ | refine then_go ?_ | refine wc_seq ?_ | refine wc_reg ?_ | refine wc_dreg ?_ | refine zu ?_ | refine zv ?_ | refine wc_skip ?_ | refine wc_ret ?_ | refine then_ret ?_ | refine zw ?_ | refine zx ?_ | refine zy ?_ | refine wd_nil ?_)
  by_cases h0 : 0 ≤ ndIx ns ⟨f, k, i⟩
  · refine wo_look (ky := kN) (a := ⟨f, k, i⟩) hM qN rfl (by rfl) hsm (look_ix h0) ?_
    repeat' (first | refine z0 ?_ | refine z2 ?_ | refine z3 ?_ | refine z4 ?_ | refine z8 ?_ | refine z9 ?_ | refine zf ?_ | refine zg ?_ | refine zh ?_ | refine zj ?_ | refine wg_nil ?_ | refine then_go ?_ | refine wc_seq ?_ | refine wc_reg ?_ | refine wc_dreg ?_ | refine zu ?_ | refine zv ?_ | refine wc_skip ?_ | refine wc_ret ?_ | refine then_ret ?_ | refine zw ?_ | refine zx ?_ | refine zy ?_ | refine wd_nil ?_)
    exact ⟨Or.inr rfl, _, rfl, hK⟩
  · refine wo_look (ky := kN) (a := ⟨f, k, i⟩) hM qN rfl (by rfl) hsm (look_no (by omega)) ?_
    repeat' (first | refine z0 ?_ | refine z2 ?_ | refine z3 ?_ | refine z4 ?_ | refine z8 ?_ | refine z9 ?_ | refine zf ?_ | refine zg ?_ | refine zh ?_ | refine zj ?_ | refine wg_nil ?_ | refine then_go ?_ | refine wc_seq ?_ | refine wc_reg ?_ | refine wc_dreg ?_ | refine zu ?_ | refine zv ?_ | refine wc_skip ?_ | refine wc_ret ?_ | refine then_ret ?_ | refine zw ?_ | refine zx ?_ | refine zy ?_ | refine wd_nil ?_)
    have e : ndIx ns ⟨f, k, i⟩ = -1 := ix_neg (by unfold ndIx at h0; omega)
    rw [e] at hK
    exact ⟨Or.inr rfl, _, rfl, hK⟩
theorem tat_ev {i : Int} {a0 a1 a2 a5 a6 a7 a8 : AV} {tid mN : Nat} (hcell : h.get tid = some (.cells [a0, a1, a2, obv, .mp mN, a5, a6, a7, a8])) (htid : tid < h.n) (hmid : mN < h.n) (hM : Mp kN h mN (fun n => ixV (ndIx ns n))) (hO : Arr h obv 5 (os.map Ob.row) idO) (hidO : idO < h.n) (hst : seen c.vis tid = true) (hsm : seen c.vis mN = true) (hsO : seen c.vis idO = true) (hi0 : 0 ≤ i) (hi1 : i < os.length) (hn : h.n < 10000000) (hK : K (.int .i64 (nI ns (ob os i))) h) :
    Gv Tryz.prog X0 Mx c 33 [.ptr tid 0, .int .i64 i] h K := by
  have hnt : (23 : Nat) ≤ 1000000 := by decide
  have hlO : (os.map Ob.row).length = os.length := List.length_map ..
  refine gv_fn x_tat (MK_other rfl _ _ _) (by simp) hnt ?_
  unfold s_tat
  repeat' (first | refine z0 ?_ | refine z2 ?_ | refine z3 ?_ | refine z4 ?_ | refine z8 ?_ | refine z9 ?_ | refine zf ?_ | refine zg ?_ | refine zh ?_ | refine zj ?_ | refine wg_nil ?_ | refine then_go ?_ | refine wc_seq ?_ | refine wc_reg ?_ | refine wc_dreg ?_ | refine zu ?_ | refine zv ?_ | refine wc_skip ?_ | refine wc_ret ?_ | refine then_ret ?_ | refine zw ?_ | refine zx ?_ | refine zy ?_ | refine wd_nil ?_)
  refine rd_bar hnt rfl rfl (wo_call rfl rfl (tnode_ev hcell hM (seen_old (by repeat (first | exact rs_nil | refine rs_add (by omega) ?_)) (by omega) (by omega) (by assumption)) (seen_old (by repeat (first | exact rs_nil | refine rs_add (by omega) ?_)) (by omega) (by omega) (by assumption)) ⟨(by repeat (first | exact unchF_nil | refine unchF_cons (by decide) ?_)), ?_⟩))
  repeat' (first | refine z0 ?_ | refine z2 ?_ | refine z3 ?_ | refine z4 ?_ | refine z8 ?_ | refine z9 ?_ | refine zf ?_ | refine zg ?_ | refine zh ?_ | refine zj ?_ | refine wg_nil ?_ | refine then_go ?_ | refine wc_seq ?_ | refine wc_reg ?_ | refine wc_dreg ?_ | refine zu ?_ | refine zv ?_ | refine wc_skip ?_ | refine wc_ret ?_ | refine then_ret ?_ | refine zw ?_ | refine zx ?_ | refine zy ?_ | refine wd_nil ?_)
  exact ⟨Or.inr rfl, _, rfl, hK⟩
theorem thas_ev {e : Ed} {a0 a1 a2 a3 a4 a6 a7 a8 : AV} {tid mE : Nat} (hcell : h.get tid = some (.cells [a0, a1, a2, a3, a4, .mp mE, a6, a7, a8])) (hM : Mp kE h mE (fun n => ixV (edIx es n))) (hst : seen c.vis tid = true) (hsm : seen c.vis mE = true) (ht : 0 ≤ edIx es e → K (.bool true) h) (hf : ¬ 0 ≤ edIx es e → K (.bool false) h) :
    Gv Tryz.prog X0 Mx c 57 [.ptr tid 0, .int .i64 e.a, .int .i64 e.b, .int .i64 e.k, .int .i64 e.c] h K := by
  have hnt : (27 : Nat) ≤ 1000000 := by decide
  refine gv_fn x_thas (MK_other rfl _ _ _) (by simp) hnt ?_
  unfold s_thas
  repeat' (first | refine z0 ?_ | refine z2 ?_ | refine z3 ?_ | refine z4 ?_ | refine z8 ?_ | refine z9 ?_ | refine zf ?_ | refine zg ?_ | refine zh ?_ | refine zj ?_ | refine wg_nil ?_ | refine then_go ?_ | refine wc_seq ?_ | refine wc_reg ?_ | refine wc_dreg ?_ | refine zu ?_ | refine zv ?_ | refine wc_skip ?_ | refine wc_ret ?_ | refine then_ret ?_ | refine zw ?_ | refine zx ?_ | refine zy ?_ | refine wd_nil ?_)
  by_cases h0 : 0 ≤ edIx es e
  · refine wo_look (ky := kE) (a := e) hM qE rfl (by rfl) hsm (look_ix h0) ?_
    repeat' (first | refine z0 ?_ | refine z2 ?_ | refine z3 ?_ | refine z4 ?_ | refine z8 ?_ | refine z9 ?_ | refine zf ?_ | refine zg ?_ | refine zh ?_ | refine zj ?_ | refine wg_nil ?_ | refine then_go ?_ | refine wc_seq ?_ | refine wc_reg ?_ | refine wc_dreg ?_ | refine zu ?_ | refine zv ?_ | refine wc_skip ?_ | refine wc_ret ?_ | refine then_ret ?_ | refine zw ?_ | refine zx ?_ | refine zy ?_ | refine wd_nil ?_)
    exact ⟨Or.inr rfl, _, rfl, ht h0⟩
  · refine wo_look (ky := kE) (a := e) hM qE rfl (by rfl) hsm (look_no (by omega)) ?_
    repeat' (first | refine z0 ?_ | refine z2 ?_ | refine z3 ?_ | refine z4 ?_ | refine z8 ?_ | refine z9 ?_ | refine zf ?_ | refine zg ?_ | refine zh ?_ | refine zj ?_ | refine wg_nil ?_ | refine then_go ?_ | refine wc_seq ?_ | refine wc_reg ?_ | refine wc_dreg ?_ | refine zu ?_ | refine zv ?_ | refine wc_skip ?_ | refine wc_ret ?_ | refine then_ret ?_ | refine zw ?_ | refine zx ?_ | refine zy ?_ | refine wd_nil ?_)
    exact ⟨Or.inr rfl, _, rfl, hf h0⟩
theorem ttake_ev {e : Ed} (hT : Tc h m nsv esv mn obv ns es sv pv sid pid st pa fl) (hx : Tx c m) (hpl : pa.length ≤ 900000) (hn : h.n < 9000000)
    (hK : ∀ h' pv' pid', Tc h' m nsv esv mn obv ns es sv pv' sid pid' st (takeS es (pa, fl) e).1 (takeS es (pa, fl) e).2 → Fm m pa pid (takeS es (pa, fl) e).1 pid' h h' → h'.n ≤ h.n + 2 → K (.tup []) h') :
    Gv Tryz.prog X0 Mx c 34 [.ptr (m + 2) 0, .int .i64 e.a, .int .i64 e.b, .int .i64 e.k, .int .i64 e.c] h K := by
  have hnt : (39 : Nat) ≤ 1000000 := by decide
  have hlow := hx.low
  have hlt := hT.lt
  have hst : seen c.vis (m + 2) = true := hx.vis _ (by omega) (by omega)
  have hsm : seen c.vis (m + 1) = true := hx.vis _ (by omega) (by omega)
  have hcell := hT.cell
  refine gv_fn x_ttake (MK_other rfl _ _ _) (by simp) hnt ?_
  unfold s_ttake
  repeat' (first | refine z0 ?_ | refine z2 ?_ | refine z3 ?_ | refine z4 ?_ | refine z8 ?_ | refine z9 ?_ | refine zf ?_ | refine zg ?_ | refine zh ?_ | refine zj ?_ | refine wg_nil ?_ | refine then_go ?_ | refine wc_seq ?_ | refine wc_reg ?_ | refine wc_dreg ?_ | refine zu ?_ | refine zv ?_ | refine wc_skip ?_ | refine wc_ret ?_ | refine then_ret ?_ | refine zw ?_ | refine zx ?_ | refine zy ?_ | refine wd_nil ?_)
  by_cases h0 : 0 ≤ edIx es e
  · simp only [takeS, if_pos h0] at hK
    refine wo_look (ky := kE) (a := e) hT.mE qE rfl (by rfl) hsm (look_ix h0) ?_
    repeat' (first | refine z0 ?_ | refine z2 ?_ | refine z3 ?_ | refine z4 ?_ | refine z8 ?_ | refine z9 ?_ | refine zf ?_ | refine zg ?_ | refine zh ?_ | refine zj ?_ | refine wg_nil ?_ | refine then_go ?_ | refine wc_seq ?_ | refine wc_reg ?_ | refine wc_dreg ?_ | refine zu ?_ | refine zv ?_ | refine wc_skip ?_ | refine wc_ret ?_ | refine then_ret ?_ | refine zw ?_ | refine zx ?_ | refine zy ?_ | refine wd_nil ?_)
    refine wo_bsliceA rfl (by omega) fun h1 hn1 hb1 hg1 => ?_
    have hX : Arr h1 (.sl h.n 0 1 1 (some 1)) 1 ([edIx es e].map rI) h.n := Arr.mkN rfl (by omega) (by omega) hb1 rfl (by simp [rI])
    have hT1 := hT.grew hg1
    have hmn : ∀ q : pa.map rI ≠ [], pa ≠ [] := fun q q' => q (by rw [q']; rfl)
    refine rg_go hnt rfl rfl (wo_appArr rfl rfl hT1.pth ?_ hX (by simp) (hx.vis _ (by omega) (by omega)) (ones_rI _) (fun q => ⟨hx.vis _ (by have := hT.pin (hmn q); omega) (by have := hT.pin (hmn q); omega), by have := hT.pin (hmn q); omega⟩) (by simp; omega) (by omega) fun h2 sv' hA2 hn2 hk2 => ?_)
    · by_cases q : pa = []
      · exact Or.inr (hT.pnil q)
      · exact Or.inl (by simpa using q)
    obtain ⟨⟨cap, rfl⟩, -⟩ := hA2.full (by simp)
    have hk2' : ∀ j, j < h.n → (pa ≠ [] → j ≠ pid) → h2.get j = h.get j := fun j q1 q2 => (hk2 j (by omega) (fun q => q2 (hmn q))).trans (hg1.get j q1)
    have hcell2 : h2.get (m + 2) = some (.cells [nsv, esv, .int .i64 mn, obv, .mp m, .mp (m + 1), sv, pv, .bool fl]) := (hk2' (m + 2) hlt (fun q => by have := hT.pin q; omega)).trans hcell
    repeat' (first | refine z0 ?_ | refine z2 ?_ | refine z3 ?_ | refine z4 ?_ | refine z8 ?_ | refine z9 ?_ | refine zf ?_ | refine zg ?_ | refine zh ?_ | refine zj ?_ | refine wg_nil ?_ | refine then_go ?_ | refine wc_seq ?_ | refine wc_reg ?_ | refine wc_dreg ?_ | refine zu ?_ | refine zv ?_ | refine wc_skip ?_ | refine wc_ret ?_ | refine then_ret ?_ | refine zw ?_ | refine zx ?_ | refine zy ?_ | refine wd_nil ?_)
    refine rg_go0 hnt rfl (wo_storeA rfl rfl (by omega) hst hcell2 (by rfl) (by rfl) (by simp) (by omega) (by rfl) fun h3 hn3 hb3 hk3 => ?_)
    repeat' (first | refine z0 ?_ | refine z2 ?_ | refine z3 ?_ | refine z4 ?_ | refine z8 ?_ | refine z9 ?_ | refine zf ?_ | refine zg ?_ | refine zh ?_ | refine zj ?_ | refine wg_nil ?_ | refine then_go ?_ | refine wc_seq ?_ | refine wc_reg ?_ | refine wc_dreg ?_ | refine zu ?_ | refine zv ?_ | refine wc_skip ?_ | refine wc_ret ?_ | refine then_ret ?_ | refine zw ?_ | refine zx ?_ | refine zy ?_ | refine wd_nil ?_)
    have hk3' : ∀ j, j < h.n → j ≠ m + 2 → (pa ≠ [] → j ≠ pid) → h3.get j = h.get j := fun j q1 q2 q3 => (hk3 j q2).trans (hk2' j q1 q3)
    refine ⟨Or.inl rfl, _, rfl, hK h3 _ h1.n ⟨hb3, by omega, hT.mN.keep (hk3' m (by omega) (by omega) (fun q => by have := hT.pin q; omega)), hT.mE.keep (hk3' (m + 1) (by omega) (by omega) (fun q => by have := hT.pin q; omega)), ?_, hT.snil, fun q => ?_, ?_, fun q => by simp at q, fun q => ⟨by omega, by omega⟩, fun q _ => by have := hT.sin q; omega⟩ ⟨by omega, hk3', Or.inr (by omega)⟩ (by omega)⟩
    · by_cases q : st = []
      · rw [q, hT.snil q]; exact ⟨Or.inl ⟨rfl, Or.inl rfl⟩⟩
      · have hs := hT.sin q
        exact hT.stk.keep (by omega) (fun _ => hk3' sid hs.2 (by omega) (fun q2 => hT.two q q2))
    · have := hT.sin q; exact ⟨this.1, by omega⟩
    · rw [List.map_append]
      exact hA2.keep (by omega) (fun _ => hk3 _ (by omega))
  · simp only [takeS, if_neg h0] at hK
    refine wo_look (ky := kE) (a := e) hT.mE qE rfl (by rfl) hsm (look_no (by omega)) ?_
    repeat' (first | refine z0 ?_ | refine z2 ?_ | refine z3 ?_ | refine z4 ?_ | refine z8 ?_ | refine z9 ?_ | refine zf ?_ | refine zg ?_ | refine zh ?_ | refine zj ?_ | refine wg_nil ?_ | refine then_go ?_ | refine wc_seq ?_ | refine wc_reg ?_ | refine wc_dreg ?_ | refine zu ?_ | refine zv ?_ | refine wc_skip ?_ | refine wc_ret ?_ | refine then_ret ?_ | refine zw ?_ | refine zx ?_ | refine zy ?_ | refine wd_nil ?_)
    refine rg_go0 hnt rfl (wo_storeA rfl rfl (by omega) hst hcell (by rfl) (by rfl) (by simp) (by omega) (by rfl) fun h3 hn3 hb3 hk3 => ?_)
    repeat' (first | refine z0 ?_ | refine z2 ?_ | refine z3 ?_ | refine z4 ?_ | refine z8 ?_ | refine z9 ?_ | refine zf ?_ | refine zg ?_ | refine zh ?_ | refine zj ?_ | refine wg_nil ?_ | refine then_go ?_ | refine wc_seq ?_ | refine wc_reg ?_ | refine wc_dreg ?_ | refine zu ?_ | refine zv ?_ | refine wc_skip ?_ | refine wc_ret ?_ | refine then_ret ?_ | refine zw ?_ | refine zx ?_ | refine zy ?_ | refine wd_nil ?_)
    refine ⟨Or.inl rfl, _, rfl, hK h3 pv pid ⟨hb3, by omega, hT.mN.keep (hk3 m (by omega)), hT.mE.keep (hk3 (m + 1) (by omega)), ?_, hT.snil, fun q => ?_, ?_, hT.pnil, fun q => ?_, hT.two⟩ ⟨by omega, fun id q1 q2 _ => hk3 id q2, Or.inl ⟨rfl, rfl⟩⟩ (by omega)⟩
    · by_cases q : st = []
      · rw [q, hT.snil q]; exact ⟨Or.inl ⟨rfl, Or.inl rfl⟩⟩
      · have hs := hT.sin q
        exact hT.stk.keep (by omega) (fun _ => hk3 sid (by omega))
    · have := hT.sin q; exact ⟨this.1, by omega⟩
    · by_cases q : pa = []
      · rw [q, hT.pnil q]; exact ⟨Or.inl ⟨rfl, Or.inl rfl⟩⟩
      · have hs := hT.pin q
        exact hT.pth.keep (by omega) (fun _ => hk3 pid (by omega))
    · have := hT.pin q; exact ⟨this.1, by omega⟩
end Go.Proofs.YtlocnfaeiacphaaGreatDoor.Ev
