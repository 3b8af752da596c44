/- Soundness of the operations: append, calls, and all of them together. -/
import Derived.Test.YtfoahdpnalbbgaaGreatDoorEvV
set_option linter.unusedVariables false
set_option linter.unusedSimpArgs false
namespace Go.Proofs.YtfoahdpnalbbgaaGreatDoor.Ev
open Go
section
variable {P : Program} {ng : Nat} {o : Oper} {c : C} {call : Caller} {sl : Tr AV} {h : H} {k : Kont} {r : Tr AV × H}
theorem view_dead {id : Nat} {vs : List AV} (hid : id < 10000000) (hn : h.n < 10000000) {i : Nat} {b : AB} (e : view c ⟨Tr.set depth (Tr.set depth h.t id .dead) h.n (.cells vs), h.n + 1⟩ i = some b) : view c ⟨Tr.set depth h.t h.n (.cells vs), h.n + 1⟩ i = some b := by
  obtain ⟨e1, e2⟩ := getB_get (view_get e)
  rw [get_set40 _ _ _ _ hn, get_set40 _ _ _ _ hid] at e1
  have e3 : Tr.get (Tr.set depth h.t h.n (.cells vs)) i = some b := by
    rw [get_set40 _ _ _ _ hn]
    by_cases q : h.n = i
    · rw [if_pos q] at e1 ⊢; exact e1
    · rw [if_neg q] at e1 ⊢
      by_cases q2 : id = i
      · rw [if_pos q2] at e1
        cases e1
        have hd := view_get e
        unfold view at e
        rw [hd] at e; cases e
      · rw [if_neg q2] at e1; exact e1
  unfold view at e ⊢
  have e4 : getB c ⟨Tr.set depth h.t h.n (.cells vs), h.n + 1⟩ i = some b := by unfold getB; rw [e2]; exact e3
  have e5 : getB c ⟨Tr.set depth (Tr.set depth h.t id .dead) h.n (.cells vs), h.n + 1⟩ i = some b := by
    unfold getB; rw [e2]
    show Tr.get (Tr.set depth (Tr.set depth h.t id .dead) h.n (.cells vs)) i = some b
    rw [get_set40 _ _ _ _ hn, get_set40 _ _ _ _ hid]; exact e1
  rw [e4]; rw [e5] at e; exact e
/-- nothing is appended -/
theorem run_append_none {w : World} {t t2 ty e0 : TypeId} {i : TypeInfo} {base : Option Addr} {m cp : Nat} {x : Value} {cs : List Value} (ht : P.underlying t = some (.slice e0)) (hi : P.info? e0 = some i) (hs : Src P i.size t2 x 0 cs w) (hle : m ≤ cp) :
    (Builtin.append_ #[t, t2] ty #[.slice base m cp, x]).run P w = .ok (.slice base m cp) w := by
  have hcs : cs = [] := by have := hs.newsLen; simpa using this
  subst hcs
  have hc := hs.cells
  rcases hs.kind with ⟨e', hk⟩ | hk <;> cases base <;> simp [Builtin.append_, run_underlying ht, run_underlying hk, sizeOf, typeInfo, hi, hs.len, hle, hc, storeCells]
theorem isApp_ops {y z : Operand} {t t2 : TypeId} (ho : isApp o y z t t2) : y ∈ o.op.operands.toList ∧ z ∈ o.op.operands.toList := by
  unfold isApp at ho
  constructor <;> simp [ho, Op.operands, Call.operands]
theorem op_append {y z : Operand} {t t2 e0 e2 : TypeId} {s : Nat} {xy xz : XV} (ho : isApp o y z t t2) (ht : P.underlying t = some (.slice e0)) (ht2 : P.underlying t2 = some (.slice e2)) (ha : appOk P e0 = some s) (hy : cV y = some xy) (hz : cV z = some xz) (hw : WF h)
    (e : oAppend s xy xz c call sl h k = some r) : Says P ng o c sl h k r := by
  obtain ⟨i, zv, i1, i2, i3, i4, rfl⟩ := appOk_some ha
  obtain ⟨oy, oz⟩ := isApp_ops ho
  unfold oAppend at e
  obtain ⟨n, news, e, hnl, hsrc⟩ := srcK_some (P := P) e
  cases hon : ones news with
  | false => rw [hon] at e; cases e
  | true =>
    rw [hon] at e
    simp only [cond] at e
    unfold ontoK at e
    split at e
    · rename_i hv
      cases hn0 : Nat.beq n 0 with
      | true =>
        rw [hn0] at e
        have hn0' : n = 0 := Nat.eq_of_beq_eq_true hn0
        subst hn0'
        refine ⟨_, h, e, did_pure hw fun β a w hr hop => ?_⟩
        have k1 := hop y oy xy hy
        rw [hv] at k1; simp only [VR] at k1
        obtain ⟨cs, s1, s2⟩ := hsrc t2 e2 ht2 β w _ hr (hop z oz xz hz) hon
        refine ⟨.slice none 0 0, app_run ho a w ?_, by simp [VR]⟩
        rw [k1]; exact run_append_none ht i1 s1 (Nat.le_refl _)
      | false =>
        rw [hn0] at e
        simp only [cond] at e
        have hn0' : 0 < n := by
          rcases Nat.eq_zero_or_pos n with q | q
          · subst q; simp at hn0
          · exact q
        cases hbig : Nat.blt 1000000 n with
        | true => rw [hbig] at e; cases e
        | false =>
          rw [hbig] at e
          have hb : n ≤ 1000000 := by
            rcases Nat.lt_or_ge 1000000 n with q | q
            · have : Nat.blt 1000000 n = true := by simpa [Nat.blt_eq] using q
              rw [hbig] at this; cases this
            · exact q
          obtain ⟨hlt, e⟩ := newB_some e
          refine ⟨_, _, e, step_new hw hlt, fun β a w hgb hr hop hfr K Q hK => ?_⟩
          have hn := hfr h.n (Nat.le_refl _) (by simp)
          have k1 := hop y oy xy hy
          rw [hv] at k1; simp only [VR] at k1
          obtain ⟨cs, s1, s2⟩ := hsrc t2 e2 ht2 β w _ hr (hop z oz xz hz) hon
          obtain ⟨val, w', β', q1, q2, q3⟩ := app_grow (P := P) (f := c.floor) (c := c) (h := h) (olds := []) (ovs := []) (base := none) (m := 0) (cp := 0) ho ht i1 i2 rfl i3 i4 hr hlt hn k1 (by simp [Builtin.firstCells]) (by simp [VRs]) (by simp) s1 s2 (by omega) (by omega)
          unfold Oper.wp
          rw [q1]
          rw [Nat.zero_add] at q2
          exact hK β' val w' q3 q2
    · rename_i id off m es cap hv
      cases hes : Nat.beq es i.size with
      | false => rw [hes] at e; cases e
      | true =>
        rw [hes] at e
        have hes' : es = i.size := Nat.eq_of_beq_eq_true hes
        subst hes'
        simp only [cond] at e
        cases hn0 : Nat.beq n 0 with
        | true =>
          rw [hn0] at e
          have hn0' : n = 0 := Nat.eq_of_beq_eq_true hn0
          subst hn0'
          refine ⟨_, h, e, did_pure hw fun β a w hr hop => ?_⟩
          have k1 := hop y oy xy hy
          have k2 := k1
          rw [hv] at k1; simp only [VR] at k1
          obtain ⟨L, oo, cp, hL, hu, hle, _⟩ := k1
          obtain ⟨cs, s1, s2⟩ := hsrc t2 e2 ht2 β w _ hr (hop z oz xz hz) hon
          refine ⟨a.eval y, app_run ho a w ?_, by rw [hv] at k2; exact k2⟩
          rw [hu]; exact run_append_none ht i1 s1 hle
        | false =>
          rw [hn0] at e
          simp only at e
          have hn0' : 0 < n := by
            rcases Nat.eq_zero_or_pos n with q | q
            · subst q; simp at hn0
            · exact q
          obtain ⟨vs, hg, e⟩ := cellsAt_some e
          obtain ⟨d1, e⟩ := dropK_some e
          obtain ⟨d2, e⟩ := takeK_some e
          rw [appK_eq, forceNat_eq] at e
          have hm' : Nat.mul m i.size = m * i.size := rfl
          have hadd : Nat.add m n = m + n := rfl
          rw [hm', hadd] at e
          rw [hm'] at d2
          cases hbig : Nat.blt 1000000 (m + n) with
          | true => rw [hbig] at e; cases e
          | false =>
            rw [hbig] at e
            simp only at e
            have hb : m + n ≤ 1000000 := by
              rcases Nat.lt_or_ge 1000000 (m + n) with q | q
              · have : Nat.blt 1000000 (m + n) = true := by simpa [Nat.blt_eq] using q
                rw [hbig] at this; cases this
              · exact q
            obtain ⟨g1, g2⟩ := getB_get hg
            have hidn := lt_of_get hw g1
            have hid : id < 10000000 := Nat.lt_of_lt_of_le hidn hw.small
            have hvl : off + m * i.size ≤ vs.length := by simp at d2; omega
            -- a new row
            have grow : ∀ β (a : Act) (w : World) L oo cp, h.n < 10000000 → β h.n = none → HR β (view c h) w → OpsR β sl a o.op.operands.toList → β id = some L → a.eval y = .slice (some ⟨L.blk, oo, none⟩) m cp → (oo = L.base + off ∨ (m = 0 ∧ cp = 0)) → cp < m + n →
                ∃ val w' β', (execOp a.eval o).run P w = .ok (.value val) w' ∧ VR β' (.sl h.n 0 (m + n) i.size none) val ∧ Post c.floor h.n (h.n + 1) β (view c h) w β' (view c ⟨Tr.set depth h.t h.n (.cells ((vs.drop off).take (m * i.size) ++ news)), h.n + 1⟩) w' := by
              intro β a w L oo cp hlt hn hr hop hL hu hoo hcp
              obtain ⟨cs, s1, s2⟩ := hsrc t2 e2 ht2 β w _ hr (hop z oz xz hz) hon
              obtain ⟨L', p1, _, p2⟩ := hr.at_ id _ (view_cells hg)
              rw [hL] at p1; cases p1
              obtain ⟨olds, o1, o2⟩ := part_of_br p2 hvl
              have hol : olds.length = m * i.size := by rw [← o1.length]; simp; omega
              refine app_grow (P := P) (f := c.floor) (c := c) (h := h) (olds := olds) (base := some ⟨L.blk, oo, none⟩) ho ht i1 i2 rfl i3 i4 hr hlt hn hu ?_ o1 hol s1 s2 hcp hb
              simp only [Builtin.firstCells]
              rw [← hol]
              refine run_loadCells_list w.drew _ olds fun j u hj => ?_
              rcases hoo with rfl | ⟨z1, z2⟩
              · exact o2 j u hj
              · have := (List.getElem?_eq_some_iff.1 hj).1
                rw [hol, z1] at this; simp at this
            cases hsg : sureGrow cap (m + n) with
            | true =>
              rw [hsg] at e
              obtain ⟨hlt, e⟩ := newB_some e
              refine ⟨_, _, e, step_new hw hlt, fun β a w hgb hr hop hfr K Q hK => ?_⟩
              have hn := hfr h.n (Nat.le_refl _) (by simp)
              have k1 := hop y oy xy hy
              rw [hv] at k1; simp only [VR] at k1
              obtain ⟨L, oo, cp, hL, hu, hle, hsz, hoo, hcap⟩ := k1
              have hcp : cp < m + n := by
                cases cap with
                | none => simp [sureGrow] at hsg
                | some cp' =>
                  have := hcap cp' rfl
                  subst this
                  simpa [sureGrow, Nat.blt_eq] using hsg
              obtain ⟨val, w', β', q1, q2, q3⟩ := grow β a w L oo cp hlt hn hr hop hL hu hoo hcp
              unfold Oper.wp
              rw [q1]
              exact hK β' val w' q3 q2
            | false =>
              rw [hsg] at e
              simp only at e
              obtain ⟨hf, hsn, e⟩ := setB_some e
              obtain ⟨hlt, e⟩ := newB_some e
              have hlt' : h.n < 10000000 := hlt
              have st1 : Step c h ⟨Tr.set depth h.t id .dead, h.n⟩ := step_set hw g1 hf hsn
              refine ⟨_, _, e, st1.trans (step_new st1.wf hlt), fun β a w hgb hr hop hfr K Q hK => ?_⟩
              have hn := hfr h.n (Nat.le_refl _) (by simp)
              have k1 := hop y oy xy hy
              rw [hv] at k1; simp only [VR] at k1
              obtain ⟨L, oo, cp, hL, hu, hle, hsz, hoo, hcap⟩ := k1
              rcases Nat.lt_or_ge cp (m + n) with hcp | hcp
              · obtain ⟨val, w', β', q1, q2, q3⟩ := grow β a w L oo cp hlt' hn hr hop hL hu hoo hcp
                unfold Oper.wp
                rw [q1]
                exact hK β' val w' (q3.toSub fun j b ej => view_dead hid hlt' ej) q2
              · have hoo' : oo = L.base + off := by
                  rcases hoo with q | ⟨_, q⟩
                  · exact q
                  · omega
                obtain ⟨cs, s1, s2⟩ := hsrc t2 e2 ht2 β w _ hr (hop z oz xz hz) hon
                obtain ⟨val, w', β', q1, q2, q3⟩ := app_room (P := P) (f := c.floor) (c := c) (h := h) ho ht i1 rfl hw hr hlt' hn hg hL hf hu hoo' hsz hvl s1 s2 hcp
                unfold Oper.wp
                rw [q1]
                exact hK β' val w' q3 q2
    · cases e

/-! calls -/
def SaysR (P : Program) (ng : Nat) (o : Oper) (c : C) (sl : Tr AV) (h : H) (k : Kont) (r : Tr AV × H) : Prop := ∃ v h', k v h' = some r ∧ DidR P ng o c sl h v h'
theorem Says.toR (hd : ∀ q, o.op ≠ .defer q) (s : Says P ng o c sl h k r) : SaysR P ng o c sl h k r := by
  obtain ⟨v, h', e, d⟩ := s
  exact ⟨v, h', e, d.toR hd⟩
theorem op_call {f : Operand} {ys : Array Operand} {ts : Array TypeId} {xf : XV} {xs : List XV} (ho : o.op = .call { callee := .value f, args := ys, argTypes := ts }) (hf : cV f = some xf) (hx : ys.toList.mapM cV = some xs) (hw : WF h) (hc : Ctx c h) (hC : CallOk P ng call)
    (e : oCall xf xs c call sl h k = some r) : SaysR P ng o c sl h k r := by
  have nod : ∀ q, o.op ≠ .defer q := fun q => by rw [ho]; exact fun e => by cases e
  unfold oCall at e
  split at e
  · rename_i fid caps hv
    rw [evVs_eq, appK_eq] at e
    split at e
    · rename_i v h' hcall
      refine ⟨v, h', e, ?_⟩
      have hcd : UpDid P ng (.fn fid) _ c h v h' := hC (.fn fid) _ c h v h' hc hw hcall
      obtain ⟨hst, hd⟩ := hcd
      refine ⟨hst, fun β a w hgb hr hop hfr ro n K Q hK => ⟨fun _ _ => trivial, ?_⟩⟩
      have k1 := hop f (by simp [ho, Op.operands, Call.operands]) xf hf
      rw [hv] at k1; simp only [VR] at k1
      obtain ⟨ds, hu, hds⟩ := k1
      have k2 := mapM_cV (sl := sl) (β := β) (a := a) ys.toList xs hx fun y hy => hop y (by simp [ho, Op.operands, Call.operands]; right; simpa using hy)
      have earr : ys.map a.eval ++ ds = (ys.toList.map a.eval ++ ds.toList).toArray := by
        apply Array.ext'; simp
      have hrun : (execOp a.eval o).run P w = (callFunc fid (ys.toList.map a.eval ++ ds.toList).toArray).run P w := by
        rw [← earr]
        simp [execOp, ho, resolve, Deferred.ofValue, hu, invoke]
      rw [Oper.semAt_eq _ _ _ nod, hrun]
      exact hd β w _ hgb hr (k2.append hds) hfr _ rfl ro n o a K Q hK
    · cases e
  · rename_i id hv
    rw [evVs_eq] at e
    split at e
    · rename_i v h' hcall
      refine ⟨v, h', e, ?_⟩
      have hcd : UpDid P ng (.yld id) _ c h v h' := hC (.yld id) _ c h v h' hc hw hcall
      obtain ⟨hst, hd⟩ := hcd
      refine ⟨hst, fun β a w hgb hr hop hfr ro n K Q hK => ⟨fun _ _ => trivial, ?_⟩⟩
      have k1 := hop f (by simp [ho, Op.operands, Call.operands]) xf hf
      rw [hv] at k1; simp only [VR] at k1
      obtain ⟨L, hL, hu⟩ := k1
      have k2 := mapM_cV (sl := sl) (β := β) (a := a) ys.toList xs hx fun y hy => hop y (by simp [ho, Op.operands, Call.operands]; right; simpa using hy)
      have earr : ys.map a.eval = (ys.toList.map a.eval).toArray := by
        apply Array.ext'; simp
      have hrun : (execOp a.eval o).run P w = (Instr.yield L.blk (ys.toList.map a.eval).toArray).run P w := by
        rw [← earr]
        simp [execOp, ho, resolve, Deferred.ofValue, hu, invoke]
      rw [Oper.semAt_eq _ _ _ nod, hrun]
      exact hd β w _ hgb hr k2 hfr _ ⟨L, hL, rfl⟩ ro n o a K Q hK
    · cases e
  · cases e
/-! interfaces -/
theorem op_mkif {t : TypeId} {d : TypeDesc} {y : Operand} {x : XV} (ho : o.op = .makeInterface t y) (ht : P.underlying t = some d) (hd : ∀ ms, d ≠ .interface ms) (hx : cV y = some x) (hw : WF h) (e : oMkif t x c call sl h k = some r) : Says P ng o c sl h k r := by
  refine ⟨_, h, e, did_pure hw fun β a w hr hop => ?_⟩
  have k1 := hop y (by simp [ho, Op.operands]) x hx
  refine ⟨.iface t (a.eval y), ?_, by simp only [VR]; exact ⟨_, rfl, k1⟩⟩
  have : (Instr.makeInterface t (a.eval y)).run P w = .ok (.iface t (a.eval y)) w := by
    simp only [Instr.makeInterface, Sem.run_bind, run_underlying ht, Result.andThen_ok]
    cases d <;> first | rfl | exact absurd rfl (hd _)
  simp [execOp, ho, this]
theorem run_methodOf {name : String} {t : TypeId} {f : Nat} {v : Value} (w : World) (hm : methodOf P name t = some f) : (method (P.types.size + Made.depth) t v name).run P w = .ok (f, v) w := by
  unfold methodOf at hm
  split at hm
  · rename_i i hi
    split at hm
    · rename_i m hf
      split at hm
      · rename_i hp
        have hp' : m.path = #[] := by simpa using hp
        have hfu : ∃ n, P.types.size + Made.depth = n + 1 := ⟨P.types.size + (Made.depth - 1), by have : 0 < Made.depth := by decide
                                                                                                  omega⟩
        obtain ⟨n, hn⟩ := hfu
        rw [hn]
        unfold method
        split at hm
        · rename_i f' e0 h1 h2
          cases hm
          simp [run_typeInfo w hi, hf, hp', follow, h1, receiverAt, run_underlying h2, Place.get]
        · cases hm
        · cases hm
        · rename_i f' d hnp h1 h2
          cases hm
          have : ∀ s, (receiverAt t (.val v) false s).run P w = .ok v w := fun s => by
            unfold receiverAt
            simp only [Sem.run_bind, run_underlying h2, Result.andThen_ok]
            cases d <;> first | rfl | exact absurd h2 (hnp _ · ) | skip
            all_goals simp [Place.get]
          simp [run_typeInfo w hi, hf, hp', follow, h1, this]
        · cases hm
      · cases hm
    · cases hm
  · cases hm
theorem op_invoke {y : Operand} {name : String} {ys : Array Operand} {ts : Array TypeId} {xf : XV} {xs : List XV} (ho : o.op = .call { callee := .invoke y name, args := ys, argTypes := ts }) (hf : cV y = some xf) (hx : ys.toList.mapM cV = some xs) (hw : WF h) (hc : Ctx c h) (hC : CallOk P ng call)
    (e : oInvoke (methodOf P name) xf xs c call sl h k = some r) : SaysR P ng o c sl h k r := by
  have nod : ∀ q, o.op ≠ .defer q := fun q => by rw [ho]; exact fun e => by cases e
  unfold oInvoke at e
  split at e
  · rename_i t v0 hv
    split at e
    · rename_i fid hm
      rw [evVs_eq] at e
      split at e
      · rename_i v h' hcall
        refine ⟨v, h', e, ?_⟩
        have hcd : UpDid P ng (.fn fid) _ c h v h' := hC (.fn fid) _ c h v h' hc hw hcall
        obtain ⟨hst, hd⟩ := hcd
        refine ⟨hst, fun β a w hgb hr hop hfr ro n K Q hK => ⟨fun _ _ => trivial, ?_⟩⟩
        have k1 := hop y (by simp [ho, Op.operands, Call.operands]) xf hf
        rw [hv] at k1; simp only [VR] at k1
        obtain ⟨rv, hu, hrv⟩ := k1
        have k2 := mapM_cV (sl := sl) (β := β) (a := a) ys.toList xs hx fun y hy => hop y (by simp [ho, Op.operands, Call.operands]; right; simpa using hy)
        have earr : #[rv] ++ ys.map a.eval = (rv :: ys.toList.map a.eval).toArray := by
          apply Array.ext'; simp
        have hrun : (execOp a.eval o).run P w = (callFunc fid (rv :: ys.toList.map a.eval).toArray).run P w := by
          rw [← earr]
          have hext : (#[Value.iface t rv] ++ ys.map a.eval).extract 1 (#[Value.iface t rv] ++ ys.map a.eval).size = ys.map a.eval := by
            apply Array.ext'; simp
            rw [List.take_of_length_le (by simp)]
          have hget : (#[Value.iface t rv] ++ ys.map a.eval)[0]? = some (.iface t rv) := by rw [Array.getElem?_append_left (by simp)]; rfl
          simp only [execOp, ho, resolve, invoke, Sem.run_bind, Sem.run_pure, Result.andThen_ok, hu, hget, hext, callMethod, run_program, run_methodOf w hm]
        have hargs : VRs β (v0 :: xs.map (evV sl)) (rv :: ys.toList.map a.eval) := by simp only [VRs]; exact ⟨_, _, rfl, hrv, k2⟩
        rw [Oper.semAt_eq _ _ _ nod, hrun]
        exact hd β w _ hgb hr hargs hfr _ rfl ro n o a K Q hK
      · cases e
    · cases e
  · cases e
end
end Go.Proofs.YtfoahdpnalbbgaaGreatDoor.Ev
