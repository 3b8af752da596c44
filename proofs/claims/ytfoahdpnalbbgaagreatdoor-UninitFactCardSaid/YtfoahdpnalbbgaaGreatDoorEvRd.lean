/- The evaluator's answer holds: rounds; all together. -/
import Derived.Test.YtfoahdpnalbbgaaGreatDoorEvZ
set_option linter.unusedVariables false
set_option linter.unusedSimpArgs false
namespace Go.Proofs.YtfoahdpnalbbgaaGreatDoor.Ev
open Go
section
variable {P : Program} {ng : Nat} {X : Exts}
theorem putPs_some {nt : Nat} {r : Res} (hr : r ≠ .bad) (hnt : nt ≤ 1000000) : ∀ (ps : List Nat) (vs : List AV) (sl : Tr AV) (k : Tr AV → Res), putPs nt ps vs sl k = r → ∃ sl1, k sl1 = r ∧ ps.length = vs.length ∧
    ∀ β (tmps : Array Value) (cs : List Value), VRs β vs cs → tmps.size = nt → (∀ t, VR β (slot sl t) (tmps.getD t undef)) →
      ((ps.zip cs).foldl (fun (t : Array Value) (q : Nat × Value) => t.setIfInBounds q.1 q.2) tmps).size = nt ∧ ∀ t, VR β (slot sl1 t) (((ps.zip cs).foldl (fun (t : Array Value) (q : Nat × Value) => t.setIfInBounds q.1 q.2) tmps).getD t undef)
  | [], [], sl, k, e => ⟨sl, e, rfl, fun β tmps cs hv hs ht => by
      simp only [List.zip_nil_left, List.foldl_nil]
      exact ⟨hs, ht⟩⟩
  | [], _ :: _, sl, k, e => absurd e.symm hr
  | _ :: _, [], sl, k, e => absurd e.symm hr
  | p :: ps, v :: vs, sl, k, e => by
    unfold putPs at e
    cases hb : Nat.blt p nt with
    | false => rw [hb] at e; exact absurd e.symm hr
    | true =>
      rw [hb] at e
      simp only [cond, Tr.setK_eq] at e
      have hp : p < nt := by simpa [Nat.blt_eq] using hb
      obtain ⟨sl1, h1, h2, h3⟩ := putPs_some hr hnt ps vs _ k e
      refine ⟨sl1, h1, by simp [h2], fun β tmps cs hv hs ht => ?_⟩
      simp only [VRs] at hv
      obtain ⟨u, us, rfl, hu, hus⟩ := hv
      simp only [List.zip_cons_cons, List.foldl_cons]
      refine h3 β (tmps.setIfInBounds p u) us hus (by simpa using hs) fun t => ?_
      rw [slot_set (by omega)]
      have hg : (tmps.setIfInBounds p u).getD t undef = if p = t then u else tmps.getD t undef := by
        simp only [Array.getD_eq_getD_getElem?, Array.getElem?_setIfInBounds]
        by_cases q : p = t
        · subst q; simp [hs, hp]
        · simp [q]
      rw [hg]
      by_cases q : p = t
      · rw [if_pos q, if_pos q]; exact hu
      · rw [if_neg q, if_neg q]; exact ht t
theorem round_next {c : C} {id : Nat} {args : List AV} {ih : Runner} {h : H} {v : AV} {h' : H} (ihc : CodeOk P ng ih) (hc : Ctx c h) (hw : WF h) (hev : stepY (cC P) ih c id args h = .call v h') : UpDid P ng (.yld id) args c h v h' := by
  unfold stepY at hev
  split at hev
  · rename_i st pend nt sl ps assign body d hg0
    cases hle : Nat.ble nt 1000000 with
    | false => rw [hle] at hev; cases hev
    | true =>
      rw [hle] at hev
      simp only [cond] at hev
      have hnt := Nat.le_of_ble_eq_true hle
      obtain ⟨sl1, hev, hlen, hput⟩ := putPs_some (fun q => by cases q) hnt ps args sl _ hev
      cases hx1 : ih c (.code nt true (cC P assign) sl1 []) h with
      | bad => rw [hx1] at hev; cases hev
      | call _ _ => rw [hx1] at hev; cases hev
      | code e1 sl2 ds1 h1 =>
        rw [hx1] at hev
        cases e1 with
        | exit _ => cases hev
        | ret => cases hev
        | normal =>
          cases ds1 with
          | cons _ _ => cases hev
          | nil =>
            simp only at hev
            have d1 := ihc c nt true assign sl1 [] h .normal sl2 [] h1 hnt hc hw hx1
            unfold roundBody at hev
            split at hev
            · rename_i pend1 nt1 sl1' ps1 as1 bo1 dd1 hg1
              have hev := thenR_some (fun q => by cases q) hev
              obtain ⟨hf1, hs1, hev⟩ := setB_some hev
              simp only [Option.some.injEq] at hev
              have stB : Step c h1 ⟨Tr.set depth h1.t id (.loop 2 pend1 nt1 sl1' ps1 as1 bo1 dd1), h1.n⟩ := step_set d1.1.wf (getB_get hg1).1 hf1 hs1
              cases hx2 : ih c (.code nt true (cC P body) sl2 []) ⟨Tr.set depth h1.t id (.loop 2 pend1 nt1 sl1' ps1 as1 bo1 dd1), h1.n⟩ with
              | bad => rw [hx2] at hev; cases hev
              | call _ _ => rw [hx2] at hev; cases hev
              | code e2 sl3 ds2 h3 =>
                rw [hx2] at hev
                cases ds2 with
                | cons _ _ => cases hev
                | nil =>
                  simp only at hev
                  have d2 := ihc c nt true body sl2 [] _ e2 sl3 [] h3 hnt (hc.mono (d1.1.trans stB).le) stB.wf hx2
                  unfold roundEnd at hev
                  split at hev
                  · rename_i st3 pend3 nt3 sl3' ps3 as3 bo3 dd3 hg3
                    -- how the round ends
                    have fin : ∃ (stn : Nat) (pn : Option Ex) (bv : Bool), c.floor ≤ id ∧ seen c.vis id = true ∧ v = .bool bv ∧ h' = ⟨Tr.set depth h3.t id (.loop stn pn nt3 sl3' ps3 as3 bo3 dd3), h3.n⟩ ∧
                        ∀ (l : Nat) (r3 : Loop) (w3 : World) (R : Ending → World → Prop) (a3 : Act), w3.heap[l]? = some (.loop r3) → (∀ r', r'.state = stOf stn → r'.pending = pn.map exCode → r' = { r3 with state := r'.state, pending := r'.pending } → R (.returned (.bool bv)) { w3 with heap := w3.heap.setIfInBounds l (.loop r') }) → roundPost P l R e2.toExit a3 w3 := by
                      have hev := thenR_some (fun q => by cases q) hev
                      cases e2 with
                      | normal =>
                        obtain ⟨q1, q2, q3⟩ := setB_some hev
                        simp only [Option.some.injEq, Res.call.injEq] at q3
                        refine ⟨0, none, true, q1, q2, q3.1.symm, q3.2.symm, fun l r3 w3 R a3 hl hR => ?_⟩
                        exact ⟨.bool true, _, by simp [Instr.endRound, Instr.getLoop, getObj, setObj, Sem.run, hl], hR { r3 with state := .ready, pending := none } rfl rfl rfl⟩
                      | exit i =>
                        obtain ⟨q1, q2, q3⟩ := setB_some hev
                        simp only [Option.some.injEq, Res.call.injEq] at q3
                        refine ⟨1, some (.exit i), false, q1, q2, q3.1.symm, q3.2.symm, fun l r3 w3 R a3 hl hR => ?_⟩
                        exact ⟨.bool false, _, by simp [Instr.endRound, Instr.getLoop, getObj, setObj, Sem.run, hl], hR { r3 with state := .done, pending := some (.exit i) } rfl rfl rfl⟩
                      | ret =>
                        obtain ⟨q1, q2, q3⟩ := setB_some hev
                        simp only [Option.some.injEq, Res.call.injEq] at q3
                        refine ⟨1, some .ret, false, q1, q2, q3.1.symm, q3.2.symm, fun l r3 w3 R a3 hl hR => ?_⟩
                        exact ⟨.bool false, _, by simp [Instr.endRound, Instr.getLoop, getObj, setObj, Sem.run, hl], hR { r3 with state := .done, pending := some .ret } rfl rfl rfl⟩
                    obtain ⟨stn, pn, bv, hf3, hs3, rfl, rfl, hfin⟩ := fin
                    have stE : Step c h3 ⟨Tr.set depth h3.t id (.loop stn pn nt3 sl3' ps3 as3 bo3 dd3), h3.n⟩ := step_set d2.1.wf (getB_get hg3).1 hf3 hs3
                    refine ⟨((d1.1.trans stB).trans d2.1).trans stE, fun β w cargs hgb hr hv hfr S hS r n o a K Q hK => ?_⟩
                    obtain ⟨L, hL, rfl⟩ := hS
                    obtain ⟨L', p1, p2, p3⟩ := live_place hg0 (fun q => by cases q) hr
                    rw [hL] at p1; cases p1
                    obtain ⟨r0, r1, r2, r3, r4, r5, r6, r7, r8, _⟩ := p3
                    have hvl := hv.length
                    have hps : r0.params.size = cargs.length := by rw [← hvl, ← hlen, ← r6]; simp
                    obtain ⟨t1, t2⟩ := hput β r0.tmps cargs hv r4 r5
                    have hrun : (Instr.yield L.blk cargs.toArray).run P w = .ok (.round L.blk r0.fn ((r0.params.zip cargs.toArray).foldl (fun tmps (q : Nat × Value) => tmps.setIfInBounds q.1 q.2) r0.tmps) r0.assign r0.body) w := by
                      simp [Instr.yield, Instr.getLoop, getObj, Sem.run, r1, hps]
                    rw [hrun, Oper.uponIn_round]
                    have htm : (r0.params.zip cargs.toArray).foldl (fun tmps (q : Nat × Value) => tmps.setIfInBounds q.1 q.2) r0.tmps = (ps.zip cargs).foldl (fun (t : Array Value) (q : Nat × Value) => t.setIfInBounds q.1 q.2) r0.tmps := by
                      rw [← Array.foldl_toList, Array.toList_zip, r6]
                    rw [htm, r7, r8]
                    have n01 : h.n ≤ h1.n := d1.1.le
                    have n12 : h1.n ≤ h3.n := d2.1.le
                    refine ⟨fun q => (by cases q), roundIn_of_wpIn trivial ?_⟩
                    refine WPx.wp (F := W (some L.blk)) (d1.2 β { tmps := _, defers := [] } w [] hgb hr rfl ⟨t1, rfl, t2⟩ (fun i q1 q2 => hfr i q1 (by show i < h3.n; omega)) (some L.blk) (n - 1) (fun q => by cases q) _ fun β1 a1 w1 df1 hP1 hd1 hsl1 => ?_)
                    have hdf1 : df1 = [] := hd1
                    subst hdf1
                    have hL1 := hP1.sub _ _ hL
                    obtain ⟨L1, y1, y2, y3⟩ := live_place hg1 (fun q => by cases q) hP1.hr
                    rw [hL1] at y1; cases y1
                    obtain ⟨rb, z1, z2, z3, z4, z5, z6, z7, z8, D1, z9, z10⟩ := y3
                    have PB := post_put (b' := .loop 2 pend1 nt1 sl1' ps1 as1 bo1 dd1) (ob := .loop { rb with state := .busy }) d1.1.wf hg1 (fun q => by cases q) hf1 hP1.hr hL1
                      ⟨{ rb with state := .busy }, set_at y2, rfl, z3, z4, z5, z6, z7, z8, D1, z9, z10⟩
                    refine ⟨{ w1 with heap := w1.heap.setIfInBounds L.blk (.loop { rb with state := .busy }) }, ?_, ?_⟩
                    · have z2' : rb.state = .ready := z2
                      simp [Instr.beginRound, Instr.getLoop, getObj, setObj, Sem.run, z1, z2']
                    · refine WPx.wp (F := W (some L.blk)) (d2.2 β1 a1 _ [] ((hgb.mono hP1.sub)) PB.hr rfl hsl1 (fun i q1 q2 => ?_) (some L.blk) (n - 1) (fun q => by cases q) _ fun β3 a3 w3 df3 hP3 hd3 hsl3 => ?_)
                      · cases hb : β1 i with
                        | none => rfl
                        | some M =>
                          have q1' : h1.n ≤ i := q1
                          have h0 := hfr i (by omega) q2
                          have := hP1.fresh i M hb h0
                          omega
                      · have hL3 := hP3.sub _ _ hL1
                        obtain ⟨L3, x1, x2, x3⟩ := live_place hg3 (fun q => by cases q) hP3.hr
                        rw [hL3] at x1; cases x1
                        obtain ⟨re, u1, u2, u3, u4, u5, u6, u7, u8, D3, u9, u10⟩ := x3
                        refine hfin L.blk re w3 _ a3 u1 fun r' v1 v2 v3 => ?_
                        have PE := post_put (b' := .loop stn pn nt3 sl3' ps3 as3 bo3 dd3) (ob := .loop r') d2.1.wf hg3 (fun q => by cases q) hf3 hP3.hr hL3
                          ⟨r', set_at x2, v1, v2, by rw [v3]; exact u4, by rw [v3]; exact u5, by rw [v3]; exact u6, by rw [v3]; exact u7, by rw [v3]; exact u8, D3, u9, by rw [v3]; exact u10⟩
                        exact hK β3 _ _ (((hP1.trans PB).trans hP3).trans PE) (by simp [VR])
                  · cases hev
            · cases hev
  · cases hev
end
end Go.Proofs.YtfoahdpnalbbgaaGreatDoor.Ev
