/- Reference: what an instruction uses. -/
import Derived.Test.YtmdceifbbmnfgaaGreatDoorTfH
import Derived.Test.YtmdceifbbmnfgaaGreatDoorSyI
set_option linter.unusedVariables false
set_option linter.unusedSimpArgs false
set_option maxHeartbeats 4000000
namespace Go.Proofs.YtmdceifbbmnfgaaGreatDoor.Ev
open Go
open Classical
variable {c : C} {h : H} {K : AV → H → Prop}
theorem Has_u {op : Int} {f : Nat} (hcx : Cx c h) (hn : h.n + 2 < 10000000) (k : ∀ b h', Grew h h' → h'.n ≤ h.n + 2 → K (.bool b) h') : Gv Tryz.prog X0 Mx c 270 [.int .i64 op, .int .u8 (f : Int)] h K := Has_ev hcx hn fun h' g n => k _ h' g n
abbrev insRow (x : Dt) (av : AV) : List AV := [.int .i64 (dI 0 x), .int .i64 (dI 1 x), .int .i64 (dI 2 x), .int .i64 (dI 3 x), .int .i64 (dI 4 x), .str (dS 5 x), .str (dS 6 x), av, .int .i64 (dI 8 x), .int .i64 (dI 9 x)]
theorem unused_ev {x : Dt} {av : AV} {al : List Dt} (hall : ∀ id, id < 10000000 → seen c.vis id = true) (hcx : Cx c h) (hn : h.n + 20 < 10000000) (A : Sl 70 true h (.int .i64) al av) (k : ∀ b h', Grew h h' → h'.n ≤ h.n + 20 → K (.bool b) h') : Gv Tryz.prog X0 Mx c 158 [.agg (insRow x av)] h K := by
 have hnt : (77 : Nat) ≤ 1000000 := by decide
 refine gv_fn x_unused (Mx_no rfl _ _ _) (by simp) hnt ?_
 unfold s_unused SR.g SR.m SR.o
 obtain ⟨aid, arows, AA, har, _, _⟩ := at_int A
 have hs1 := hall h.n (by omega)
 refine Yc (Yd (rg_go hnt rfl rfl (wo_boxA rfl rfl (by omega) fun h1 n1 b1 g1 => ?_)))
 have G := Grew.refl h1
 have Bx : h1.get h.n = some (.cells (insRow x av)) := b1
 have L1 := G.le
 repeat' (first | refine Yu ?_ | refine Yp ?_ | refine z6 ?_ | refine zh ?_ | (refine Yq ?_ ?_ <;> intro hc <;> try first | contradiction | omega) | refine Yx ?_ | refine Yy ?_)
 refine wo_tail (ι := Bool) 5 (fun b => [(1, .ptr h.n 0), (3, .int .i64 (dI 0 x)), (12, .bool b)]) (fun _ h' => Grew h1 h' ∧ h'.n ≤ h1.n + 2 ∧ h'.get h.n = some (.cells (insRow x av))) ?_ ?_
 ·intro b h40 ⟨G, N0, Bx⟩
  have L40 := G.le
  dsimp only [List.drop]
  cases b
  ·repeat' (first | refine Yu ?_ | refine Yp ?_ | refine z6 ?_ | refine zh ?_ | (refine Yq ?_ ?_ <;> intro hc <;> try first | contradiction | omega) | refine Yx ?_ | refine Yy ?_)
   exact ⟨Or.inr rfl, _, rfl, k _ _ (g1.trans G) (by omega)⟩
  repeat' (first | refine Yu ?_ | refine Yp ?_ | refine z6 ?_ | refine zh ?_ | (refine Yq ?_ ?_ <;> intro hc <;> try first | contradiction | omega) | refine Yx ?_ | refine Yy ?_)
  refine wo_tail (ι := Bool) 6 (fun b => [(1, .ptr h.n 0), (3, .int .i64 (dI 0 x)), (21, .bool b)]) (fun _ h' => Grew h1 h' ∧ h'.n ≤ h1.n + 4 ∧ h'.get h.n = some (.cells (insRow x av))) ?_ ?_
  ·intro b h41 ⟨G, N1, Bx⟩
   have L41 := G.le
   dsimp only [List.drop]
   cases b
   ·repeat' (first | refine Yu ?_ | refine Yp ?_ | refine z6 ?_ | refine zh ?_ | (refine Yq ?_ ?_ <;> intro hc <;> try first | contradiction | omega) | refine Yx ?_ | refine Yy ?_)
    exact ⟨Or.inr rfl, _, rfl, k _ _ (g1.trans G) (by omega)⟩
   repeat' (first | refine Yu ?_ | refine Yp ?_ | refine z6 ?_ | refine zh ?_ | (refine Yq ?_ ?_ <;> intro hc <;> try first | contradiction | omega) | refine Yx ?_ | refine Yy ?_)
   refine wo_tail (ι := Bool) 6 (fun b => [(1, .ptr h.n 0), (3, .int .i64 (dI 0 x)), (30, .bool b)]) (fun _ h' => Grew h1 h' ∧ h'.n ≤ h1.n + 6 ∧ h'.get h.n = some (.cells (insRow x av))) ?_ ?_
   ·intro b h42 ⟨G, N2, Bx⟩
    have L42 := G.le
    dsimp only [List.drop]
    cases b
    ·repeat' (first | refine Yu ?_ | refine Yp ?_ | refine z6 ?_ | refine zh ?_ | (refine Yq ?_ ?_ <;> intro hc <;> try first | contradiction | omega) | refine Yx ?_ | refine Yy ?_)
     exact ⟨Or.inr rfl, _, rfl, k _ _ (g1.trans G) (by omega)⟩
    repeat' (first | refine Yu ?_ | refine Yp ?_ | refine z6 ?_ | refine zh ?_ | (refine Yq ?_ ?_ <;> intro hc <;> try first | contradiction | omega) | refine Yx ?_ | refine Yy ?_)
    refine wo_tail (ι := Bool) 6 (fun b => [(1, .ptr h.n 0), (3, .int .i64 (dI 0 x)), (39, .bool b)]) (fun _ h' => Grew h1 h' ∧ h'.n ≤ h1.n + 8 ∧ h'.get h.n = some (.cells (insRow x av))) ?_ ?_
    ·intro b h43 ⟨G, N3, Bx⟩
     have L43 := G.le
     dsimp only [List.drop]
     cases b
     ·repeat' (first | refine Yu ?_ | refine Yp ?_ | refine z6 ?_ | refine zh ?_ | (refine Yq ?_ ?_ <;> intro hc <;> try first | contradiction | omega) | refine Yx ?_ | refine Yy ?_)
      exact ⟨Or.inr rfl, _, rfl, k _ _ (g1.trans G) (by omega)⟩
     repeat' (first | refine Yu ?_ | refine Yp ?_ | refine z6 ?_ | refine zh ?_ | (refine Yq ?_ ?_ <;> intro hc <;> try first | contradiction | omega) | refine Yx ?_ | refine Yy ?_)
     refine wo_tail (ι := Bool) 6 (fun b => [(1, .ptr h.n 0), (3, .int .i64 (dI 0 x)), (48, .bool b)]) (fun _ h' => Grew h1 h' ∧ h'.n ≤ h1.n + 10 ∧ h'.get h.n = some (.cells (insRow x av))) ?_ ?_
     ·intro b h44 ⟨G, N4, Bx⟩
      have L44 := G.le
      dsimp only [List.drop]
      cases b
      ·repeat' (first | refine Yu ?_ | refine Yp ?_ | refine z6 ?_ | refine zh ?_ | (refine Yq ?_ ?_ <;> intro hc <;> try first | contradiction | omega) | refine Yx ?_ | refine Yy ?_)
       exact ⟨Or.inr rfl, _, rfl, k _ _ (g1.trans G) (by omega)⟩
      repeat' (first | refine Yu ?_ | refine Yp ?_ | refine z6 ?_ | refine zh ?_ | (refine Yq ?_ ?_ <;> intro hc <;> try first | contradiction | omega) | refine Yx ?_ | refine Yy ?_)
      refine wo_tail (ι := Bool) 6 (fun b => [(1, .ptr h.n 0), (3, .int .i64 (dI 0 x)), (57, .bool b)]) (fun _ h' => Grew h1 h' ∧ h'.n ≤ h1.n + 12 ∧ h'.get h.n = some (.cells (insRow x av))) ?_ ?_
      ·intro b h45 ⟨G, N5, Bx⟩
       have L45 := G.le
       dsimp only [List.drop]
       cases b
       ·repeat' (first | refine Yu ?_ | refine Yp ?_ | refine z6 ?_ | refine zh ?_ | (refine Yq ?_ ?_ <;> intro hc <;> try first | contradiction | omega) | refine Yx ?_ | refine Yy ?_)
        exact ⟨Or.inr rfl, _, rfl, k _ _ (g1.trans G) (by omega)⟩
       repeat' (first | refine Yu ?_ | refine Yp ?_ | refine z6 ?_ | refine zh ?_ | (refine Yq ?_ ?_ <;> intro hc <;> try first | contradiction | omega) | refine Yx ?_ | refine Yy ?_)
       refine wo_tail (ι := Bool) 7 (fun b => [(1, .ptr h.n 0), (3, .int .i64 (dI 0 x)), (67, .bool b)]) (fun _ h' => Grew h1 h' ∧ h'.n ≤ h1.n + 14 ∧ h'.get h.n = some (.cells (insRow x av))) ?_ ?_
       ·intro b h46 ⟨G, N6, Bx⟩
        have L46 := G.le
        dsimp only [List.drop]
        cases b
        ·repeat' (first | refine Yu ?_ | refine Yp ?_ | refine z6 ?_ | refine zh ?_ | (refine Yq ?_ ?_ <;> intro hc <;> try first | contradiction | omega) | refine Yx ?_ | refine Yy ?_)
         exact ⟨Or.inr rfl, _, rfl, k _ _ (g1.trans G) (by omega)⟩
        repeat' (first | refine Yu ?_ | refine Yp ?_ | refine z6 ?_ | refine zh ?_ | (refine Yq ?_ ?_ <;> intro hc <;> try first | contradiction | omega) | refine Yx ?_ | refine Yy ?_)
        repeat' (first | refine Yu ?_ | refine Yp ?_ | refine z6 ?_ | refine zh ?_ | (refine Yq ?_ ?_ <;> intro hc <;> try first | contradiction | omega) | (refine wo_call rfl rfl (Has_u (f := 103) (hcx.mono (by omega)) (by omega) fun b h27 g27 n27 => ?_) <;> cases b <;> (have G := G.trans g27; have L27 := g27.le; have Bx := (g27.get h.n (by omega)).trans Bx)) | refine Yx ?_ | refine Yy ?_)
        all_goals exact ⟨Or.inr rfl, _, rfl, k _ _ (g1.trans G) (by omega)⟩
       ·intro T
        repeat' (first | exact T _ _ _ (Sc (Sc (Sc Sn))) ⟨G, by omega, Bx⟩ | refine Yu ?_ | refine Yp ?_ | refine z6 ?_ | refine z7 ?_ | refine zV ?_ | refine z8 ?_ | refine zU ?_ | refine z9 ?_ | refine za ?_ | refine zb ?_ | refine zh ?_ | refine zi ?_ | refine zj ?_ | refine zk ?_ | refine zl ?_ | (refine Yq ?_ ?_ <;> intro hc <;> try first | contradiction | omega) | refine zH ?_ | refine zI ?_ | refine zJ ?_ | refine zK ?_ | (refine zt ?_ ?_ <;> intro hc) | exact T _ _ _ (Sc (Sc (Sc Sn))) ⟨G, by omega, Bx⟩ | (refine wo_call rfl rfl (Has_u (f := 108) (hcx.mono (by omega)) (by omega) fun b h26 g26 n26 => ?_) <;> cases b <;> (have G := G.trans g26; have L26 := g26.le; have Bx := (g26.get h.n (by omega)).trans Bx)) | refine Yx ?_ | refine Yv ?_ | refine zx ?_ | refine Yz ?_ | refine Yy ?_)
      ·intro T
       repeat' (first | exact T _ _ _ (Sc (Sc (Sc Sn))) ⟨G, by omega, Bx⟩ | refine Yu ?_ | refine Yp ?_ | refine z6 ?_ | refine z7 ?_ | refine zV ?_ | refine z8 ?_ | refine zU ?_ | refine z9 ?_ | refine za ?_ | refine zb ?_ | refine zh ?_ | refine zi ?_ | refine zj ?_ | refine zk ?_ | refine zl ?_ | (refine Yq ?_ ?_ <;> intro hc <;> try first | contradiction | omega) | refine zH ?_ | refine zI ?_ | refine zJ ?_ | refine zK ?_ | (refine zt ?_ ?_ <;> intro hc) | exact T _ _ _ (Sc (Sc (Sc Sn))) ⟨G, by omega, Bx⟩ | (refine wo_call rfl rfl (Has_u (f := 109) (hcx.mono (by omega)) (by omega) fun b h25 g25 n25 => ?_) <;> cases b <;> (have G := G.trans g25; have L25 := g25.le; have Bx := (g25.get h.n (by omega)).trans Bx)) | refine Yx ?_ | refine Yv ?_ | refine zx ?_ | refine Yz ?_ | refine Yy ?_)
     ·intro T
      repeat' (first | exact T _ _ _ (Sc (Sc (Sc Sn))) ⟨G, by omega, Bx⟩ | refine Yu ?_ | refine Yp ?_ | refine z6 ?_ | refine z7 ?_ | refine zV ?_ | refine z8 ?_ | refine zU ?_ | refine z9 ?_ | refine za ?_ | refine zb ?_ | refine zh ?_ | refine zi ?_ | refine zj ?_ | refine zk ?_ | refine zl ?_ | (refine Yq ?_ ?_ <;> intro hc <;> try first | contradiction | omega) | refine zH ?_ | refine zI ?_ | refine zJ ?_ | refine zK ?_ | (refine zt ?_ ?_ <;> intro hc) | exact T _ _ _ (Sc (Sc (Sc Sn))) ⟨G, by omega, Bx⟩ | (refine wo_call rfl rfl (Has_u (f := 99) (hcx.mono (by omega)) (by omega) fun b h24 g24 n24 => ?_) <;> cases b <;> (have G := G.trans g24; have L24 := g24.le; have Bx := (g24.get h.n (by omega)).trans Bx)) | refine Yx ?_ | refine Yv ?_ | refine zx ?_ | refine Yz ?_ | refine Yy ?_)
    ·intro T
     repeat' (first | exact T _ _ _ (Sc (Sc (Sc Sn))) ⟨G, by omega, Bx⟩ | refine Yu ?_ | refine Yp ?_ | refine z6 ?_ | refine z7 ?_ | refine zV ?_ | refine z8 ?_ | refine zU ?_ | refine z9 ?_ | refine za ?_ | refine zb ?_ | refine zh ?_ | refine zi ?_ | refine zj ?_ | refine zk ?_ | refine zl ?_ | (refine Yq ?_ ?_ <;> intro hc <;> try first | contradiction | omega) | refine zH ?_ | refine zI ?_ | refine zJ ?_ | refine zK ?_ | (refine zt ?_ ?_ <;> intro hc) | exact T _ _ _ (Sc (Sc (Sc Sn))) ⟨G, by omega, Bx⟩ | (refine wo_call rfl rfl (Has_u (f := 110) (hcx.mono (by omega)) (by omega) fun b h23 g23 n23 => ?_) <;> cases b <;> (have G := G.trans g23; have L23 := g23.le; have Bx := (g23.get h.n (by omega)).trans Bx)) | refine Yx ?_ | refine Yv ?_ | refine zx ?_ | refine Yz ?_ | refine Yy ?_)
   ·intro T
    repeat' (first | exact T _ _ _ (Sc (Sc (Sc Sn))) ⟨G, by omega, Bx⟩ | refine Yu ?_ | refine Yp ?_ | refine z6 ?_ | refine z7 ?_ | refine zV ?_ | refine z8 ?_ | refine zU ?_ | refine z9 ?_ | refine za ?_ | refine zb ?_ | refine zh ?_ | refine zi ?_ | refine zj ?_ | refine zk ?_ | refine zl ?_ | (refine Yq ?_ ?_ <;> intro hc <;> try first | contradiction | omega) | refine zH ?_ | refine zI ?_ | refine zJ ?_ | refine zK ?_ | (refine zt ?_ ?_ <;> intro hc) | exact T _ _ _ (Sc (Sc (Sc Sn))) ⟨G, by omega, Bx⟩ | (refine wo_call rfl rfl (Has_u (f := 98) (hcx.mono (by omega)) (by omega) fun b h22 g22 n22 => ?_) <;> cases b <;> (have G := G.trans g22; have L22 := g22.le; have Bx := (g22.get h.n (by omega)).trans Bx)) | refine Yx ?_ | refine Yv ?_ | refine zx ?_ | refine Yz ?_ | refine Yy ?_)
  ·intro T
   repeat' (first | exact T _ _ _ (Sc (Sc (Sc Sn))) ⟨G, by omega, Bx⟩ | refine Yu ?_ | refine Yp ?_ | refine z6 ?_ | refine z7 ?_ | refine zV ?_ | refine z8 ?_ | refine zU ?_ | refine z9 ?_ | refine za ?_ | refine zb ?_ | refine zh ?_ | refine zi ?_ | refine zj ?_ | refine zk ?_ | refine zl ?_ | (refine Yq ?_ ?_ <;> intro hc <;> try first | contradiction | omega) | refine zH ?_ | refine zI ?_ | refine zJ ?_ | refine zK ?_ | (refine zt ?_ ?_ <;> intro hc) | exact T _ _ _ (Sc (Sc (Sc Sn))) ⟨G, by omega, Bx⟩ | (refine wo_call rfl rfl (Has_u (f := 97) (hcx.mono (by omega)) (by omega) fun b h21 g21 n21 => ?_) <;> cases b <;> (have G := G.trans g21; have L21 := g21.le; have Bx := (g21.get h.n (by omega)).trans Bx)) | refine Yx ?_ | refine Yv ?_ | refine zx ?_ | refine Yz ?_ | refine Yy ?_)
 ·intro T
  repeat' (first | exact T _ _ _ (Sc (Sc (Sc Sn))) ⟨G, by omega, Bx⟩ | refine Yu ?_ | refine Yp ?_ | refine z6 ?_ | refine z7 ?_ | refine zV ?_ | refine z8 ?_ | refine zU ?_ | refine z9 ?_ | refine za ?_ | refine zb ?_ | refine zh ?_ | refine zi ?_ | refine zj ?_ | refine zk ?_ | refine zl ?_ | (refine Yq ?_ ?_ <;> intro hc <;> try first | contradiction | omega) | refine zH ?_ | refine zI ?_ | refine zJ ?_ | refine zK ?_ | (refine zt ?_ ?_ <;> intro hc) | exact T _ _ _ (Sc (Sc (Sc Sn))) ⟨G, by omega, Bx⟩ | (refine wo_call rfl rfl (Has_u (f := 100) (hcx.mono (by omega)) (by omega) fun b h20 g20 n20 => ?_) <;> cases b <;> (have G := G.trans g20; have L20 := g20.le; have Bx := (g20.get h.n (by omega)).trans Bx)) | refine Yx ?_ | refine Yv ?_ | refine zx ?_ | refine Yz ?_ | refine Yy ?_)
theorem wc_cut {P : Program} {X : Exts} {M : Mf} {nt : Nat} {env : Env'} {ι : Type} {a b : SC} {Q : Ex → Env' → H → Prop} (E : ι → Env') (S : ι → H → Prop) (w1 : WC P X M c nt a env h (fun e env1 h1 => e = .normal ∧ ∃ i, Sub' (E i) env1 ∧ S i h1)) (w2 : ∀ i h1, S i h1 → WC P X M c nt b (E i) h1 Q) : WC P X M c nt (.seq a b) env h Q :=
 Yc (w1.mono fun e env1 h1 q => by
  obtain ⟨he, i, hs, hS⟩ := q
  subst he
  exact Yb ((w2 i h1 hS).less hs))
structure SLi (n0 : Nat) (h : H) (v : AV) (l : List Int) (id : Nat) : Prop where
 arr : Arr h v 1 (l.map fun n => [.int .i64 n]) id
 nil : l = [] → v = .nils
 own : l ≠ [] → n0 ≤ id ∧ id < h.n
theorem SLi.empty (n0 : Nat) (h : H) : SLi n0 h .nils [] 0 := ⟨⟨Or.inl ⟨rfl, Or.inl rfl⟩⟩, fun _ => rfl, fun q => absurd rfl q⟩
theorem SLi.grew {n0 : Nat} {h h' : H} {v : AV} {l : List Int} {id : Nat} (a : SLi n0 h v l id) (g : Grew h h') : SLi n0 h' v l id :=
 ⟨a.arr.grew g, a.nil, fun q => ⟨(a.own q).1, Nat.lt_of_lt_of_le (a.own q).2 g.le⟩⟩
theorem SLi.low {n0 n1 : Nat} {h : H} {v : AV} {l : List Int} {id : Nat} (a : SLi n1 h v l id) (hle : n0 ≤ n1) : SLi n0 h v l id := ⟨a.arr, a.nil, fun q => ⟨Nat.le_trans hle (a.own q).1, (a.own q).2⟩⟩
theorem SLi.rows {n0 : Nat} {h : H} {v : AV} {l : List Int} {id : Nat} (a : SLi n0 h v l id) : ∃ rows, Arr h v 1 rows id ∧ rows.length = l.length ∧ ∀ j, j < l.length → rows[j]? = some [.int .i64 (l.getD j 0)] :=
 ⟨_, a.arr, by simp, fun j hj => by simp [hj]⟩
theorem SLi.kind {n0 : Nat} {h : H} {v : AV} {l : List Int} {id : Nat} (a : SLi n0 h v l id) : v = .nils ∨ ∃ id off m cap, v = .sl id off m 1 cap := by
 by_cases q : l = []
 ·exact Or.inl (a.nil q)
 ·obtain ⟨⟨cap, e⟩, _⟩ := a.arr.full (by cases l with | nil => exact absurd rfl q | cons x l => simp)
  exact Or.inr ⟨_, _, _, _, e⟩
theorem wo_addIs {P : Program} {X : Exts} {M : Mf} {env : Env'} {s x : XV} {sv xv : AV} {l m : List Int} {id n0 xid : Nat} (hs0 : evE env s = some sv) (hx : evE env x = some xv) (a : SLi n0 h sv l id) (hX : Arr h xv 1 (m.map fun n => [.int .i64 n]) xid) (hm : m ≠ []) (hsx : seen c.vis xid = true) (hsee : ∀ i, n0 ≤ i → i < 10000000 → seen c.vis i = true) (hn0 : n0 ≤ h.n) (hn : h.n < 10000000) (hfl : c.floor ≤ n0) (hl : l.length + m.length ≤ 999999)
  (hk : ∀ h' sv', SLi n0 h' sv' (l ++ m) h.n → h'.n = h.n + 1 → (∀ j, j < n0 → h'.get j = h.get j) → K sv' h') : WO P X M c (.append 1 s x) env h K := by
 have hne : ∀ l : List Int, (l.map fun n => ([.int .i64 n] : List AV)) ≠ [] → l ≠ [] := fun l q e => q (by rw [e]; rfl)
 have hones : ∀ m : List Int, ones (m.map fun n => ([.int .i64 n] : List AV)).flatten = true := fun m => by
  induction m with
  | nil => rfl
  | cons x m ih => simpa [ones, Ev.one] using ih
 refine wo_appArr hs0 hx a.arr ?_ hX (by cases m with | nil => exact absurd rfl hm | cons x m => simp) hsx (hones m) (fun q => ?_) (by simp; omega) hn fun h' sv' A' e' g' => hk h' sv' ⟨by simpa using A', fun q => absurd q (by simp [hm]), fun _ => ?_⟩ e' fun j hj => g' j ?_ fun q e => ?_
 ·by_cases q : l = []
  ·exact Or.inr (a.nil q)
  ·exact Or.inl (by simpa using q)
 ·have := a.own (hne l q)
  exact ⟨hsee id this.1 (by omega), by omega⟩
 ·constructor
  ·exact hn0
  ·omega
 ·omega
 ·have := a.own (hne l q); omega
theorem wo_addI {P : Program} {X : Exts} {M : Mf} {env : Env'} {s x : XV} {sv : AV} {l : List Int} {w : Int} {id n0 xid : Nat} {cap : Option Nat} (hs0 : evE env s = some sv) (hx : evE env x = some (.sl xid 0 1 1 cap)) (a : SLi n0 h sv l id) (hX : h.get xid = some (.cells [.int .i64 w])) (hxl : xid < h.n) (hxn : n0 ≤ xid) (hsee : ∀ i, n0 ≤ i → i < 10000000 → seen c.vis i = true) (hn : h.n < 10000000) (hfl : c.floor ≤ n0) (hl : l.length ≤ 999998)
  (hk : ∀ h' sv', SLi n0 h' sv' (l ++ [w]) h.n → h'.n = h.n + 1 → (∀ j, j < n0 → h'.get j = h.get j) → K sv' h') : WO P X M c (.append 1 s x) env h K :=
 wo_addIs (m := [w]) (xid := xid) hs0 hx a (Arr.mk' (rows := [[.int .i64 w]]) (by simp) hxl hX rfl (fun row hr => by simp at hr; subst hr; rfl)) (by simp) (hsee xid hxn (by omega)) hsee (by omega) hn hfl (by simp; omega) hk
theorem wo_addL {P : Program} {X : Exts} {M : Mf} {env : Env'} {s x : XV} {sv av : AV} {l : List Int} {al : List Dt} {id n0 : Nat} (hs0 : evE env s = some sv) (hx : evE env x = some av) (a : SLi n0 h sv l id) (A : Sl 70 true h (.int .i64) al av) (hall : ∀ i, i < 10000000 → seen c.vis i = true) (hn0 : n0 ≤ h.n) (hn : h.n < 10000000) (hfl : c.floor ≤ n0) (hl : l.length + al.length ≤ 999999)
  (hk : ∀ h' sv' id', SLi n0 h' sv' (l ++ al.map iOf) id' → h'.n ≤ h.n + 1 → h.n ≤ h'.n → (∀ j, j < n0 → h'.get j = h.get j) → K sv' h') : WO P X M c (.append 1 s x) env h K := by
 obtain ⟨aid, rows, AA, hr, hid, hrow⟩ := at_int A
 by_cases q : al = []
 ·subst q
  have e0 : rows = [] := List.eq_nil_of_length_eq_zero (by simpa using hr)
  have hk' : K sv h := hk h sv id (by simpa using a) (by omega) (Nat.le_refl _) (fun j _ => rfl)
  rcases AA.at_ with ⟨_, e | ⟨oa, cp, e⟩⟩ | ⟨e, _⟩
  ·subst e; exact wo_appN hs0 a.kind hx hk'
  ·subst e; exact wo_appRaw hs0 a.kind hx hk'
  ·rw [e0] at e; simp at e
 ·have hp : 0 < al.length := List.length_pos_iff.2 q
  have e0 : rows = (al.map iOf).map fun n => [.int .i64 n] := by
   apply List.ext_getElem?
   intro j
   by_cases hj : j < al.length
   ·rw [hrow j hj]; simp [el, hj]
   ·rw [List.getElem?_eq_none (by omega), List.getElem?_eq_none (by simp; omega)]
  rw [e0] at AA
  exact wo_addIs hs0 hx a AA (by simpa using q) (hall aid (by have := hid hp; omega)) (fun i _ z => hall i z) hn0 hn hfl (by simpa using hl) fun h' sv' S e g => hk h' sv' _ S (by omega) (by omega) g
def usesF (x : Dt) (al : List Dt) : List Int := (if hasF (dI 0 x) 97 = true ∧ (dI 0 x ≠ 13 ∨ dI 2 x ≠ -1) then [dI 2 x] else []) ++ (if hasF (dI 0 x) 98 = true then [dI 3 x] else []) ++ (if hasF (dI 0 x) 108 = true then al.map iOf else [])
structure UsI where
 v : AV
 l : List Int
 id : Nat
theorem Uses_ev {x : Dt} {av : AV} {al : List Dt} (hall : ∀ id, id < 10000000 → seen c.vis id = true) (hcx : Cx c h) (hn : h.n + 20 < 10000000) (hl : al.length ≤ 900000) (A : Sl 70 true h (.int .i64) al av) (k : ∀ h' v id, Grew h h' → h'.n ≤ h.n + 20 → SLi h.n h' v (usesF x al) id → K v h') : Gv Tryz.prog X0 Mx c 271 [.agg (insRow x av)] h K := by
 have hnt : (38 : Nat) ≤ 1000000 := by decide
 refine gv_fn x_Uses (Mx_no rfl _ _ _) (by simp) hnt ?_
 unfold s_Uses SR.g SR.m SR.o
 have hs1 := hall h.n (by omega)
 have hlow := hcx.low
 have hal := A.le
 refine Yc (Yd (rg_go hnt rfl rfl (wo_boxA rfl rfl (by omega) fun h1 n1 b1 g1 => ?_)))
 have Bx : h1.get h.n = some (.cells (insRow x av)) := b1
 have G := Grew.refl h1
 refine z0 (z2 (Ya (Yb (Yc (Yd (z0 (z2 (Ya (Yb ?_)))))))))
 have S0 : SLi h1.n h1 .nils [] 0 := SLi.empty _ _
 refine wc_cut (ι := UsI) (fun q => [(1, .ptr h.n 0), (3, q.v)]) (fun q h' => Grew h1 h' ∧ h'.n ≤ h1.n + 6 ∧ h'.get h.n = some (.cells (insRow x av)) ∧ q.l = (if hasF (dI 0 x) 97 = true ∧ (dI 0 x ≠ 13 ∨ dI 2 x ≠ -1) then [dI 2 x] else []) ∧ SLi h1.n h' q.v q.l q.id) ?_ ?_
 ·repeat' (first | refine Yu ?_ | refine Yp ?_ | refine zh ?_ | (refine Yq ?_ ?_ <;> intro hc <;> try first | contradiction | omega) | refine Yx ?_ | refine Yy ?_)
  refine wo_call rfl rfl (Has_ev (f := 97) (hcx.mono (by omega)) (by omega) fun h2 g2 n2 => ?_)
  have g2l := g2.le
  have G := G.trans g2
  have Bx := (g2.get h.n (by omega)).trans Bx
  cases ha : hasF (dI 0 x) 97
  case false =>
   repeat' (first | refine Yu ?_ | refine Yp ?_ | refine zh ?_ | (refine Yq ?_ ?_ <;> intro hc <;> try first | contradiction | omega) | refine Yx ?_ | refine Yy ?_)
   exact ⟨rfl, ⟨.nils, [], 0⟩, (Sc (Sc Sn)), G, by omega, Bx, by simp [ha], S0.grew G⟩
  repeat' (first | refine Yu ?_ | refine Yp ?_ | refine zh ?_ | (refine Yq ?_ ?_ <;> intro hc <;> try first | contradiction | omega) | (refine wo_bsliceA rfl (by omega) fun h8 n8 b8 g8 => ?_) | refine Yx ?_ | refine Yy ?_)
  all_goals try exact ⟨rfl, ⟨.nils, [], 0⟩, (Sc (Sc Sn)), G, by omega, Bx, by rw [if_neg (fun q => by have := q.2; omega)], S0.grew G⟩
  all_goals refine wo_addI rfl rfl (S0.grew (G.trans g8)) b8 (by omega) (by omega) (fun i _ z => hall i z) (by omega) (by omega) (by simp) fun h9 sv9 S9 n9 k9 => ?_
  all_goals have G9 : Grew h1 h9 := ⟨by omega, fun j hj => (k9 j hj).trans ((G.trans g8).get j hj)⟩
  all_goals have B9 := (k9 h.n (by omega)).trans ((g8.get h.n (by omega)).trans Bx)
  all_goals repeat' (first | refine Yu ?_ | refine Yp ?_ | refine zh ?_ | (refine Yq ?_ ?_ <;> intro hc <;> try first | contradiction | omega) | refine Yx ?_ | refine Yy ?_)
  all_goals exact ⟨rfl, ⟨sv9, [dI 2 x], _⟩, (Sc (Sc Sn)), G9, by omega, B9, by rw [if_pos ⟨by first | exact ha | rfl, by omega⟩], S9⟩
 rintro ⟨v, l, lid⟩ h10 ⟨G, N10, Bx, hl1, S⟩
 simp only at G N10 Bx hl1 S
 have hll : l.length ≤ 1 := by rw [hl1]; split <;> simp
 have G10l := G.le
 refine wc_cut (ι := UsI) (fun q => [(1, .ptr h.n 0), (3, q.v)]) (fun q h' => Grew h1 h' ∧ h'.n ≤ h1.n + 10 ∧ h'.get h.n = some (.cells (insRow x av)) ∧ q.l = (if hasF (dI 0 x) 97 = true ∧ (dI 0 x ≠ 13 ∨ dI 2 x ≠ -1) then [dI 2 x] else []) ++ (if hasF (dI 0 x) 98 = true then [dI 3 x] else []) ∧ SLi h1.n h' q.v q.l q.id) ?_ ?_
 ·repeat' (first | refine Yu ?_ | refine Yp ?_ | refine zh ?_ | (refine Yq ?_ ?_ <;> intro hc <;> try first | contradiction | omega) | refine Yx ?_ | refine Yy ?_)
  refine wo_call rfl rfl (Has_ev (f := 98) (hcx.mono (by omega)) (by omega) fun h12 g12 n12 => ?_)
  have g12l := g12.le
  have G := G.trans g12
  have Bx := (g12.get h.n (by omega)).trans Bx
  cases hb : hasF (dI 0 x) 98
  case false =>
   repeat' (first | refine Yu ?_ | refine Yp ?_ | refine zh ?_ | (refine Yq ?_ ?_ <;> intro hc <;> try first | contradiction | omega) | refine Yx ?_ | refine Yy ?_)
   exact ⟨rfl, ⟨v, l, lid⟩, (Sc (Sc Sn)), G, by omega, Bx, by simp [hl1, hb], S.grew g12⟩
  repeat' (first | refine Yu ?_ | refine Yp ?_ | refine zh ?_ | (refine Yq ?_ ?_ <;> intro hc <;> try first | contradiction | omega) | (refine wo_bsliceA rfl (by omega) fun h8 n8 b8 g8 => ?_) | refine Yx ?_ | refine Yy ?_)
  all_goals refine wo_addI rfl rfl (S.grew (g12.trans g8)) b8 (by omega) (by omega) (fun i _ z => hall i z) (by omega) (by omega) (by omega) fun h9 sv9 S9 n9 k9 => ?_
  all_goals have G9 : Grew h1 h9 := ⟨by omega, fun j hj => (k9 j hj).trans ((G.trans g8).get j hj)⟩
  all_goals have B9 := (k9 h.n (by omega)).trans ((g8.get h.n (by omega)).trans Bx)
  all_goals repeat' (first | refine Yu ?_ | refine Yp ?_ | refine zh ?_ | (refine Yq ?_ ?_ <;> intro hc <;> try first | contradiction | omega) | refine Yx ?_ | refine Yy ?_)
  all_goals exact ⟨rfl, ⟨sv9, l ++ [dI 3 x], _⟩, (Sc (Sc Sn)), G9, by omega, B9, by simp [hl1, hb], S9⟩
 rintro ⟨v2, l2, lid2⟩ h20 ⟨G, N20, Bx, hl2, S⟩
 simp only at G N20 Bx hl2 S
 have hll2 : l2.length ≤ 2 := by rw [hl2]; split <;> split <;> simp
 have G20l := G.le
 repeat' (first | refine Yu ?_ | refine Yp ?_ | refine zh ?_ | (refine Yq ?_ ?_ <;> intro hc <;> try first | contradiction | omega) | refine Yx ?_ | refine Yy ?_)
 refine wo_call rfl rfl (Has_ev (f := 108) (hcx.mono (by omega)) (by omega) fun h22 g22 n22 => ?_)
 have g22l := g22.le
 have G := G.trans g22
 have Bx := (g22.get h.n (by omega)).trans Bx
 cases hd : hasF (dI 0 x) 108
 case false =>
  repeat' (first | refine Yu ?_ | refine Yp ?_ | refine zh ?_ | (refine Yq ?_ ?_ <;> intro hc <;> try first | contradiction | omega) | refine Yx ?_ | refine Yy ?_)
  refine ⟨Or.inr rfl, _, rfl, k _ _ lid2 (g1.trans G) (by omega) ?_⟩
  have e : usesF x al = l2 := by unfold usesF; rw [hl2, hd]; simp
  rw [e]
  exact (S.grew g22).low (by omega)
 repeat' (first | refine Yu ?_ | refine Yp ?_ | refine zh ?_ | (refine Yq ?_ ?_ <;> intro hc <;> try first | contradiction | omega) | refine Yx ?_ | refine Yy ?_)
 refine wo_addL rfl rfl (S.grew g22) (A.grew (g1.trans G)) hall (by omega) (by omega) (by omega) (by omega) fun h9 sv9 id9 S9 n9 n9l k9 => ?_
 have G9 : Grew h1 h9 := ⟨by omega, fun j hj => (k9 j hj).trans (G.get j hj)⟩
 repeat' (first | refine Yu ?_ | refine Yp ?_ | refine zh ?_ | (refine Yq ?_ ?_ <;> intro hc <;> try first | contradiction | omega) | refine Yx ?_ | refine Yy ?_)
 refine ⟨Or.inr rfl, _, rfl, k _ _ id9 (g1.trans G9) (by omega) ?_⟩
 have e : usesF x al = l2 ++ al.map iOf := by unfold usesF; rw [hl2, hd]; simp
 rw [e]
 exact S9.low (by omega)
theorem wc_cut2 {P : Program} {X : Exts} {M : Mf} {nt : Nat} {env : Env'} {ι : Type} {a b : SC} {Q : Ex → Env' → H → Prop} (E : ι → Env') (S : ι → H → Prop) (w1 : WC P X M c nt a env h (fun e env1 h1 => (e = .normal ∧ ∃ i, Sub' (E i) env1 ∧ S i h1) ∨ (e = .ret ∧ Q .ret env1 h1))) (w2 : ∀ i h1, S i h1 → WC P X M c nt b (E i) h1 Q) : WC P X M c nt (.seq a b) env h Q :=
 Yc (w1.mono fun e env1 h1 q => by
  rcases q with ⟨he, i, hs, hS⟩ | ⟨he, q⟩
  ·subst he; exact Yb ((w2 i h1 hS).less hs)
  ·subst he; exact Yj q)
abbrev funRow (f : Dt) (vv cv : AV) : List AV := [.str (dS 0 f), .str (dS 1 f), .bool (dB 2 f), .int .i64 (dI 3 f), vv, .str (dS 5 f), cv]
structure RgOk (n m : Nat) (x : Dt) (al : List Dt) : Prop where
 dst : hasF (dI 0 x) 100 = true → (0 ≤ dI 1 x ∧ dI 1 x < n) ∨ ((dI 0 x = 9 ∨ dI 0 x = 10) ∧ dI 1 x = -1)
 uses : ∀ u ∈ usesF x al, 0 ≤ u ∧ u < n
 goto : hasF (dI 0 x) 103 = true → 0 ≤ dI 8 x ∧ dI 8 x < m
theorem usesF_len {x : Dt} {al : List Dt} (h : al.length ≤ 900000) : (usesF x al).length ≤ 900002 := by
 unfold usesF
 simp only [List.length_append]
 split <;> split <;> split <;> simp <;> omega
theorem ranges_ev {f x : Dt} {vv cv av : AV} {vl cl al : List Dt} (hall : ∀ id, id < 10000000 → seen c.vis id = true) (hcx : Cx c h) (hn : h.n + 30 < 10000000) (hal : al.length ≤ 900000) (V : Sl 70 true h ShField vl vv) (Cd : Sl 70 true h ShInstr cl cv) (A : Sl 70 true h (.int .i64) al av) (kt : RgOk vl.length cl.length x al → ∀ h', Grew h h' → h'.n ≤ h.n + 30 → K (.bool true) h') (kf : ∀ h', Grew h h' → h'.n ≤ h.n + 30 → K (.bool false) h') : Gv Tryz.prog X0 Mx c 159 [.agg (funRow f vv cv), .agg (insRow x av)] h K := by
 have hnt : (106 : Nat) ≤ 1000000 := by decide
 refine gv_fn x_ranges (Mx_no rfl _ _ _) (by simp) hnt ?_
 unfold s_ranges SR.g SR.m SR.o
 obtain ⟨vid, vrows, VA, hvr, _, _⟩ := at_Field V
 obtain ⟨cid, crows, CA, hcr, hcid, hcrow⟩ := at_Instr Cd
 have hs1 := hall h.n (by omega)
 have hlow := hcx.low
 have hvl := V.le
 have hcl := Cd.le
 refine Yc (Yd (rg_go hnt rfl rfl (wo_boxA rfl rfl (by omega) fun h1 n1 b1 g1 => ?_)))
 have hs2 := hall h1.n (by omega)
 repeat' (first | refine Yu ?_ | refine Yp ?_ | refine z6 ?_ | refine z8 ?_ | refine z9 ?_ | refine za ?_ | refine zh ?_ | refine zi ?_ | refine zj ?_ | refine zk ?_ | (refine Yq ?_ ?_ <;> intro hc <;> try first | contradiction | omega) | (refine wo_boxA rfl rfl (by omega) fun hb nb bb gb => ?_) | refine Yx ?_ | refine Yz ?_ | refine Yy ?_)
 have Bf : hb.get h.n = some (.cells (funRow f vv cv)) := (gb.get h.n (by omega)).trans b1
 have Bx : hb.get h1.n = some (.cells (insRow x av)) := bb
 have G := Grew.refl hb
 have g0 := g1.trans gb
 repeat' (first | refine Yu ?_ | refine Yp ?_ | refine z6 ?_ | refine z8 ?_ | refine z9 ?_ | refine za ?_ | refine zh ?_ | refine zi ?_ | refine zj ?_ | refine zk ?_ | (refine Yq ?_ ?_ <;> intro hc <;> try first | contradiction | omega) | refine Yd ?_ | refine Yf ?_ | refine zu ?_ | refine zv ?_ | refine Yg ?_ | refine Yh ?_ | refine Yi ?_ | refine Yz ?_ | refine Yy ?_)
 rw [hvr]
 refine wc_cut2 (ι := Bool) (fun b => [(2, .ptr h.n 0), (3, .ptr h1.n 0), (5, .int .i64 (vl.length : Int)), (6, .bool b)]) (fun b h' => Grew hb h' ∧ h'.n ≤ hb.n + 0 ∧ h'.get h.n = some (.cells (funRow f vv cv)) ∧ h'.get h1.n = some (.cells (insRow x av)) ∧ (b = true → dI 0 x = 9 ∨ dI 0 x = 10)) ?_ ?_
 ·repeat' (first | refine Yu ?_ | refine Yp ?_ | refine z6 ?_ | refine z8 ?_ | refine z9 ?_ | refine za ?_ | refine zh ?_ | refine zi ?_ | refine zj ?_ | refine zk ?_ | (refine Yq ?_ ?_ <;> intro hc <;> try first | contradiction | omega) | refine Yx ?_ | refine Yz ?_ | refine Yy ?_)
  ·exact Or.inl ⟨rfl, true, (Sc (Sc (Sc (Sc Sn)))), G, by omega, Bf, Bx, fun _ => Or.inl (by assumption)⟩
  ·exact Or.inl ⟨rfl, true, (Sc (Sc (Sc (Sc Sn)))), G, by omega, Bf, Bx, fun _ => Or.inr (by assumption)⟩
  ·exact Or.inl ⟨rfl, false, (Sc (Sc (Sc (Sc Sn)))), G, by omega, Bf, Bx, fun q => absurd q (by decide)⟩
 rintro b h10 ⟨G, N10, Bf, Bx, hcall⟩
 have G10l := G.le
 refine wc_cut2 (ι := Unit) (fun _ => [(2, .ptr h.n 0), (3, .ptr h1.n 0), (5, .int .i64 (vl.length : Int))]) (fun _ h' => Grew hb h' ∧ h'.n ≤ hb.n + 2 ∧ h'.get h.n = some (.cells (funRow f vv cv)) ∧ h'.get h1.n = some (.cells (insRow x av)) ∧ (hasF (dI 0 x) 100 = true → (0 ≤ dI 1 x ∧ dI 1 x < vl.length) ∨ ((dI 0 x = 9 ∨ dI 0 x = 10) ∧ dI 1 x = -1))) ?_ ?_
 ·repeat' (first | refine Yu ?_ | refine Yp ?_ | refine z6 ?_ | refine z8 ?_ | refine z9 ?_ | refine za ?_ | refine zh ?_ | refine zi ?_ | refine zj ?_ | refine zk ?_ | (refine Yq ?_ ?_ <;> intro hc <;> try first | contradiction | omega) | refine Yx ?_ | refine Yz ?_ | refine Yy ?_)
  refine wo_call rfl rfl (Has_ev (f := 100) (hcx.mono (by omega)) (by omega) fun h11 g11 n11 => ?_)
  have g11l := g11.le
  have G := G.trans g11
  have Bf := (g11.get h.n (by omega)).trans Bf
  have Bx := (g11.get h1.n (by omega)).trans Bx
  cases hd : hasF (dI 0 x) 100
  case false =>
   repeat' (first | refine Yu ?_ | refine Yp ?_ | refine z6 ?_ | refine z8 ?_ | refine z9 ?_ | refine za ?_ | refine zh ?_ | refine zi ?_ | refine zj ?_ | refine zk ?_ | (refine Yq ?_ ?_ <;> intro hc <;> try first | contradiction | omega) | refine Yx ?_ | refine Yz ?_ | refine Yy ?_)
   exact Or.inl ⟨rfl, (), (Sc (Sc (Sc Sn))), G, by omega, Bf, Bx, fun q => absurd q (by decide)⟩
  cases b
  all_goals repeat' (first | refine Yu ?_ | refine Yp ?_ | refine z6 ?_ | refine z8 ?_ | refine z9 ?_ | refine za ?_ | refine zh ?_ | refine zi ?_ | refine zj ?_ | refine zk ?_ | (refine Yq ?_ ?_ <;> intro hc <;> try first | contradiction | omega) | refine Yx ?_ | refine Yz ?_ | refine Yy ?_)
  all_goals first
   | exact Or.inr ⟨rfl, Or.inr rfl, _, rfl, kf _ (g0.trans G) (by omega)⟩
   | exact Or.inl ⟨rfl, (), (Sc (Sc (Sc Sn))), G, by omega, Bf, Bx, fun _ => Or.inl ⟨by omega, by omega⟩⟩
   | exact Or.inl ⟨rfl, (), (Sc (Sc (Sc Sn))), G, by omega, Bf, Bx, fun _ => Or.inr ⟨hcall rfl, by omega⟩⟩
 rintro _ h20 ⟨G, N20, Bf, Bx, hdst⟩
 have G20l := G.le
 refine Yc ?_
 repeat' (first | refine Yu ?_ | refine Yp ?_ | refine z6 ?_ | refine z8 ?_ | refine z9 ?_ | refine za ?_ | refine zh ?_ | refine zi ?_ | refine zj ?_ | refine zk ?_ | (refine Yq ?_ ?_ <;> intro hc <;> try first | contradiction | omega) | refine Yd ?_ | refine Yf ?_ | refine zu ?_ | refine zv ?_ | refine Yg ?_ | refine Yh ?_ | refine Yi ?_ | refine Yz ?_ | refine Yy ?_)
 refine wo_call rfl rfl (Uses_ev hall (hcx.mono (by omega)) (by omega) hal (A.grew (g0.trans G)) fun h21 uv uid g21 n21 U => ?_)
 have g21l := g21.le
 have G := G.trans g21
 have Bf := (g21.get h.n (by omega)).trans Bf
 have Bx := (g21.get h1.n (by omega)).trans Bx
 obtain ⟨urows, UA, hur, hurow⟩ := U.rows
 repeat' (first | refine Yu ?_ | refine Yp ?_ | refine z6 ?_ | refine z8 ?_ | refine z9 ?_ | refine za ?_ | refine zh ?_ | refine zi ?_ | refine zj ?_ | refine zk ?_ | (refine Yq ?_ ?_ <;> intro hc <;> try first | contradiction | omega) | refine Yd ?_ | refine Yf ?_ | refine zu ?_ | refine zv ?_ | refine Yg ?_ | refine Yh ?_ | refine Yi ?_ | refine Yz ?_ | refine Yy ?_)
 have hul : (usesF x al).length ≤ 900002 := usesF_len hal
 refine wc_cut2 (ι := Unit) (fun _ => [(2, .ptr h.n 0), (3, .ptr h1.n 0), (5, .int .i64 (vl.length : Int))]) (fun _ h' => h' = h21 ∧ ∀ u ∈ usesF x al, 0 ≤ u ∧ u < vl.length) ?_ ?_
 ·generalize usesF x al = ul at U hur hurow hul
  repeat' (first | refine Yu ?_ | refine Yp ?_ | refine z6 ?_ | refine z8 ?_ | refine z9 ?_ | refine za ?_ | refine zh ?_ | refine zi ?_ | refine zj ?_ | refine zk ?_ | (refine Yq ?_ ?_ <;> intro hc <;> try first | contradiction | omega) | refine Yx ?_ | refine Yz ?_ | refine Yy ?_)
  refine wc_loopE (ι := Nat) (fun j => [(2, .ptr h.n 0), (3, .ptr h1.n 0), (5, .int .i64 (vl.length : Int)), (7, uv), (8, .int .i64 (j : Int))]) (fun j h' => h' = h21 ∧ j ≤ ul.length ∧ ∀ i, i < j → 0 ≤ ul.getD i 0 ∧ ul.getD i 0 < vl.length) (fun j => ul.length - j) ?_ 0 ⟨rfl, Nat.zero_le _, fun i hi => absurd hi (by omega)⟩ (Sc (Sc (Sc (Sc (Sc Sn)))))
  rintro j h' ⟨hh, hj, hd⟩
  have hh2 := hh.symm
  subst hh2
  by_cases hlt : j < ul.length
  ·have hw := hurow j hlt
   have hown := U.own (fun q => by rw [q] at hlt; simp at hlt)
   have hs3 := hall uid (by omega)
   repeat' (first | refine Yu ?_ | refine Yp ?_ | refine z6 ?_ | refine z8 ?_ | refine z9 ?_ | refine za ?_ | refine zh ?_ | refine zi ?_ | refine zj ?_ | refine zk ?_ | (refine Yq ?_ ?_ <;> intro hc <;> try first | contradiction | omega) | refine Yx ?_ | refine Yz ?_ | refine Yy ?_)
   all_goals first
    | exact Or.inr ⟨rfl, Or.inr rfl, _, rfl, kf _ (g0.trans G) (by omega)⟩
    | (refine ⟨j + 1, by simp; omega, (Sc (Sc (Sc (Sc (Sc Sn))))), rfl, hlt, fun i hi => ?_⟩
       by_cases q : i = j
       ·subst q; exact ⟨by omega, by omega⟩
       ·exact hd i (by omega))
  ·repeat' (first | refine Yu ?_ | refine Yp ?_ | refine z6 ?_ | refine z8 ?_ | refine z9 ?_ | refine za ?_ | refine zh ?_ | refine zi ?_ | refine zj ?_ | refine zk ?_ | (refine Yq ?_ ?_ <;> intro hc <;> try first | contradiction | omega) | refine Yx ?_ | refine Yz ?_ | refine Yy ?_)
   refine Or.inl ⟨rfl, (), (Sc (Sc (Sc Sn))), rfl, fun u hu => ?_⟩
   obtain ⟨i, hi, rfl⟩ := List.mem_iff_getElem.1 hu
   have := hd i (by omega)
   simpa [hi] using this
 rintro _ h' ⟨hh, huses⟩
 have hh2 := hh.symm
 subst hh2
 refine wc_cut2 (ι := Unit) (fun _ => [(2, .ptr h.n 0), (3, .ptr h1.n 0)]) (fun _ h' => Grew hb h' ∧ h'.n ≤ hb.n + 26 ∧ h'.get h.n = some (.cells (funRow f vv cv)) ∧ h'.get h1.n = some (.cells (insRow x av)) ∧ (hasF (dI 0 x) 103 = true → 0 ≤ dI 8 x ∧ dI 8 x < cl.length)) ?_ ?_
 ·repeat' (first | refine Yu ?_ | refine Yp ?_ | refine z6 ?_ | refine z8 ?_ | refine z9 ?_ | refine za ?_ | refine zh ?_ | refine zi ?_ | refine zj ?_ | refine zk ?_ | (refine Yq ?_ ?_ <;> intro hc <;> try first | contradiction | omega) | refine Yx ?_ | refine Yz ?_ | refine Yy ?_)
  refine wo_call rfl rfl (Has_ev (f := 103) (hcx.mono (by omega)) (by omega) fun h31 g31 n31 => ?_)
  have g31l := g31.le
  have G := G.trans g31
  have Bf := (g31.get h.n (by omega)).trans Bf
  have Bx := (g31.get h1.n (by omega)).trans Bx
  cases hd : hasF (dI 0 x) 103
  all_goals repeat' (first | refine Yu ?_ | refine Yp ?_ | refine z6 ?_ | refine z8 ?_ | refine z9 ?_ | refine za ?_ | refine zh ?_ | refine zi ?_ | refine zj ?_ | refine zk ?_ | (refine Yq ?_ ?_ <;> intro hc <;> try first | contradiction | omega) | refine Yx ?_ | refine Yz ?_ | refine Yy ?_)
  all_goals first
   | exact Or.inr ⟨rfl, Or.inr rfl, _, rfl, kf _ (g0.trans G) (by omega)⟩
   | exact Or.inl ⟨rfl, (), (Sc (Sc Sn)), G, by omega, Bf, Bx, fun q => absurd q (by decide)⟩
   | exact Or.inl ⟨rfl, (), (Sc (Sc Sn)), G, by omega, Bf, Bx, fun _ => ⟨by omega, by omega⟩⟩
 rintro _ h40 ⟨G, N40, Bf, Bx, hgoto⟩
 have G40l := G.le
 have hok : RgOk vl.length cl.length x al := ⟨hdst, huses, hgoto⟩
 have KT : K (.bool true) h40 := kt hok _ (g0.trans G) (by omega)
 have KFF : K (.bool false) h40 := kf _ (g0.trans G) (by omega)
 have C40 := CA.grew (g0.trans G)
 have hsc : cl.length ≠ 0 → seen c.vis cid = true := fun q => hall cid (by have := hcid (by omega); omega)
 by_cases hct : 0 ≤ dI 9 x ∧ dI 9 x < cl.length
 ·have hs5 := hsc (by omega)
  obtain ⟨v7, hwc, _, _⟩ := hcrow (dI 9 x).toNat (by omega)
  repeat' (first | refine Yu ?_ | refine Yp ?_ | refine z6 ?_ | refine z8 ?_ | refine z9 ?_ | refine za ?_ | refine zh ?_ | refine zi ?_ | refine zj ?_ | refine zk ?_ | (refine Yq ?_ ?_ <;> intro hc <;> try first | contradiction | omega) | refine Yx ?_ | refine Yz ?_ | refine Yy ?_)
  all_goals first | exact ⟨Or.inr rfl, _, rfl, KT⟩ | exact ⟨Or.inr rfl, _, rfl, KFF⟩
 ·repeat' (first | refine Yu ?_ | refine Yp ?_ | refine z6 ?_ | refine z8 ?_ | refine z9 ?_ | refine za ?_ | refine zh ?_ | refine zi ?_ | refine zj ?_ | refine zk ?_ | (refine Yq ?_ ?_ <;> intro hc <;> try first | contradiction | omega) | refine Yx ?_ | refine Yz ?_ | refine Yy ?_)
  all_goals first | exact ⟨Or.inr rfl, _, rfl, KT⟩ | exact ⟨Or.inr rfl, _, rfl, KFF⟩
end Go.Proofs.YtmdceifbbmnfgaaGreatDoor.Ev
