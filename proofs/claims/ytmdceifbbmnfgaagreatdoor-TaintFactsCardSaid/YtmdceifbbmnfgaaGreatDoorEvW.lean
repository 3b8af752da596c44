/- The evaluator: further operations. -/
import Derived.Test.YtmdceifbbmnfgaaGreatDoorEvT
set_option linter.unusedVariables false
set_option linter.unusedSimpArgs false
namespace Go.Proofs.YtmdceifbbmnfgaaGreatDoor.Ev
open Go
section
variable {P : Program} {ng : Nat} {o : Oper} {c : C} {call : Caller} {sl : Tr AV} {h : H} {k : Kont} {r : Tr AV × H}
theorem view_dead {id : Nat} {vs : List AV} (hid : id < 10000000) (hn : h.n < 10000000) {i : Nat} {b : AB} (e : view c ⟨Tr.set depth (Tr.set depth h.t id .dead) h.n (.cells vs), h.n + 1⟩ i = some b) : view c ⟨Tr.set depth h.t h.n (.cells vs), h.n + 1⟩ i = some b := by
 obtain ⟨e1, e2⟩ := getB_get (view_get e)
 rw [get_set40 _ _ _ _ hn, get_set40 _ _ _ _ hid] at e1
 have e3 : Tr.get (Tr.set depth h.t h.n (.cells vs)) i = some b := by
  rw [get_set40 _ _ _ _ hn]
  by_cases q : h.n = i
  ·rw [if_pos q] at e1 ⊢; exact e1
  ·rw [if_neg q] at e1 ⊢
   by_cases q2 : id = i
   ·rw [if_pos q2] at e1
    cases e1
    have hd := view_get e
    unfold view at e
    rw [hd] at e; cases e
   ·rw [if_neg q2] at e1; exact e1
 unfold view at e ⊢
 have e4 : getB c ⟨Tr.set depth h.t h.n (.cells vs), h.n + 1⟩ i = some b := by unfold getB; rw [e2]; exact e3
 have e5 : getB c ⟨Tr.set depth (Tr.set depth h.t id .dead) h.n (.cells vs), h.n + 1⟩ i = some b := by
  unfold getB; rw [e2]
  show Tr.get (Tr.set depth (Tr.set depth h.t id .dead) h.n (.cells vs)) i = some b
  rw [get_set40 _ _ _ _ hn, get_set40 _ _ _ _ hid]; exact e1
 rw [e4]; rw [e5] at e; exact e
theorem run_append_none {w : World} {t t2 ty e0 : TypeId} {i : TypeInfo} {base : Option Addr} {m cp : Nat} {x : Value} {cs : List Value} (ht : P.underlying t = some (.slice e0)) (hi : P.info? e0 = some i) (hs : Src P i.size t2 x 0 cs w) (hle : m ≤ cp) :
  (Builtin.append_ #[t, t2] ty #[.slice base m cp, x]).run P w = .ok (.slice base m cp) w := by
 have hcs : cs = [] := by have := hs.newsLen; simpa using this
 subst hcs
 have hc := hs.cells
 rcases hs.kind with ⟨e', hk⟩ | hk <;> cases base <;> simp [Builtin.append_, run_underlying ht, run_underlying hk, sizeOf, typeInfo, hi, hs.len, hle, hc, storeCells]
theorem isApp_ops {y z : Operand} {t t2 : TypeId} (ho : isApp o y z t t2) : y ∈ o.op.operands.toList ∧ z ∈ o.op.operands.toList := by
 unfold isApp at ho
 constructor <;> simp [ho, Op.operands, Call.operands]
theorem op_append {y z : Operand} {t t2 e0 e2 : TypeId} {s : Nat} {xy xz : XV} (ho : isApp o y z t t2) (ht : P.underlying t = some (.slice e0)) (ht2 : P.underlying t2 = some (.slice e2)) (ha : appOk P e0 = some s) (hy : cV y = some xy) (hz : cV z = some xz) (hw : WF h)
  (e : oAppend s xy xz c call sl h k = some r) : Says P ng o c sl h k r := by
 obtain ⟨i, zv, i1, i2, i3, i4, rfl⟩ := appOk_some ha
 obtain ⟨oy, oz⟩ := isApp_ops ho
 unfold oAppend at e
 obtain ⟨n, news, e, hnl, hsrc⟩ := srcK_some (P := P) e
 cases hon : ones news with
 | false => rw [hon] at e; cases e
 | true =>
  rw [hon] at e
  simp only [cond] at e
  unfold ontoK at e
  split at e
  ·rename_i hv
   cases hn0 : Nat.beq n 0 with
   | true =>
    rw [hn0] at e
    have hn0' : n = 0 := Nat.eq_of_beq_eq_true hn0
    subst hn0'
    refine ⟨_, h, e, did_pure hw fun β a w hr hop => ?_⟩
    have k1 := hop y oy xy hy
    rw [hv] at k1; simp only [VR] at k1
    obtain ⟨cs, s1, s2⟩ := hsrc t2 e2 ht2 β w _ hr (hop z oz xz hz) hon
    refine ⟨.slice none 0 0, app_run ho a w ?_, by simp [VR]⟩
    rw [k1]; exact run_append_none ht i1 s1 (Nat.le_refl _)
   | false =>
    rw [hn0] at e
    simp only [cond] at e
    have hn0' : 0 < n := by
     rcases Nat.eq_zero_or_pos n with q | q
     ·subst q; simp at hn0
     ·exact q
    cases hbig : Nat.blt 1000000 n with
    | true => rw [hbig] at e; cases e
    | false =>
     rw [hbig] at e
     have hb : n ≤ 1000000 := by
      rcases Nat.lt_or_ge 1000000 n with q | q
      ·have : Nat.blt 1000000 n = true := by simpa [Nat.blt_eq] using q
       rw [hbig] at this; cases this
      ·exact q
     obtain ⟨hlt, e⟩ := newB_some e
     refine ⟨_, _, e, step_new hw hlt, fun β a w hgb hr hop hfr K Q hK => ?_⟩
     have hn := hfr h.n (Nat.le_refl _) (by simp)
     have k1 := hop y oy xy hy
     rw [hv] at k1; simp only [VR] at k1
     obtain ⟨cs, s1, s2⟩ := hsrc t2 e2 ht2 β w _ hr (hop z oz xz hz) hon
     obtain ⟨val, w', β', q1, q2, q3⟩ := app_grow (P := P) (f := c.floor) (c := c) (h := h) (olds := []) (ovs := []) (base := none) (m := 0) (cp := 0) ho ht i1 i2 rfl i3 i4 hr hlt hn k1 (by simp [Builtin.firstCells]) (by simp [VRs]) (by simp) s1 s2 (by omega) (by omega)
     unfold Oper.wp
     rw [q1]
     rw [Nat.zero_add] at q2
     exact hK β' val w' q3 q2
  ·rename_i id off m es cap hv
   cases hes : Nat.beq es i.size with
   | false => rw [hes] at e; cases e
   | true =>
    rw [hes] at e
    have hes' : es = i.size := Nat.eq_of_beq_eq_true hes
    subst hes'
    simp only [cond] at e
    cases hn0 : Nat.beq n 0 with
    | true =>
     rw [hn0] at e
     have hn0' : n = 0 := Nat.eq_of_beq_eq_true hn0
     subst hn0'
     refine ⟨_, h, e, did_pure hw fun β a w hr hop => ?_⟩
     have k1 := hop y oy xy hy
     have k2 := k1
     rw [hv] at k1; simp only [VR] at k1
     obtain ⟨L, oo, cp, hL, hu, hle, _⟩ := k1
     obtain ⟨cs, s1, s2⟩ := hsrc t2 e2 ht2 β w _ hr (hop z oz xz hz) hon
     refine ⟨a.eval y, app_run ho a w ?_, by rw [hv] at k2; exact k2⟩
     rw [hu]; exact run_append_none ht i1 s1 hle
    | false =>
     rw [hn0] at e
     simp only at e
     have hn0' : 0 < n := by
      rcases Nat.eq_zero_or_pos n with q | q
      ·subst q; simp at hn0
      ·exact q
     obtain ⟨vs, hg, e⟩ := cellsAt_some e
     obtain ⟨d1, e⟩ := dropK_some e
     obtain ⟨d2, e⟩ := takeK_some e
     rw [appK_eq, forceNat_eq] at e
     have hm' : Nat.mul m i.size = m * i.size := rfl
     have hadd : Nat.add m n = m + n := rfl
     rw [hm', hadd] at e
     rw [hm'] at d2
     cases hbig : Nat.blt 1000000 (m + n) with
     | true => rw [hbig] at e; cases e
     | false =>
      rw [hbig] at e
      simp only at e
      have hb : m + n ≤ 1000000 := by
       rcases Nat.lt_or_ge 1000000 (m + n) with q | q
       ·have : Nat.blt 1000000 (m + n) = true := by simpa [Nat.blt_eq] using q
        rw [hbig] at this; cases this
       ·exact q
      obtain ⟨g1, g2⟩ := getB_get hg
      have hidn := lt_of_get hw g1
      have hid : id < 10000000 := Nat.lt_of_lt_of_le hidn hw.small
      have hvl : off + m * i.size ≤ vs.length := by simp at d2; omega
      -- a new row
      have grow : ∀ β (a : Act) (w : World) L oo cp, h.n < 10000000 → β h.n = none → HR c.floor β (view c h) w → OpsR β sl a o.op.operands.toList → β id = some L → a.eval y = .slice (some ⟨L.blk, oo, none⟩) m cp → (oo = L.base + off ∨ (m = 0 ∧ cp = 0)) → cp < m + n →
        ∃ val w' β', (execOp a.eval o).run P w = .ok (.value val) w' ∧ VR β' (.sl h.n 0 (m + n) i.size none) val ∧ Post c.floor h.n (h.n + 1) β (view c h) w β' (view c ⟨Tr.set depth h.t h.n (.cells ((vs.drop off).take (m * i.size) ++ news)), h.n + 1⟩) w' := by
       intro β a w L oo cp hlt hn hr hop hL hu hoo hcp
       obtain ⟨cs, s1, s2⟩ := hsrc t2 e2 ht2 β w _ hr (hop z oz xz hz) hon
       obtain ⟨L', p1, _, p2⟩ := hr.at_ id _ (view_cells hg)
       rw [hL] at p1; cases p1
       obtain ⟨olds, o1, o2⟩ := part_of_br p2 hvl
       have hol : olds.length = m * i.size := by rw [← o1.length]; simp; omega
       refine app_grow (P := P) (f := c.floor) (c := c) (h := h) (olds := olds) (base := some ⟨L.blk, oo, none⟩) ho ht i1 i2 rfl i3 i4 hr hlt hn hu ?_ o1 hol s1 s2 hcp hb
       simp only [Builtin.firstCells]
       rw [← hol]
       refine run_loadCells_list w.drew _ olds fun j u hj => ?_
       rcases hoo with rfl | ⟨z1, z2⟩
       ·exact o2 j u hj
       ·have := (List.getElem?_eq_some_iff.1 hj).1
        rw [hol, z1] at this; simp at this
      cases hsg : sureGrow cap (m + n) with
      | true =>
       rw [hsg] at e
       obtain ⟨hlt, e⟩ := newB_some e
       refine ⟨_, _, e, step_new hw hlt, fun β a w hgb hr hop hfr K Q hK => ?_⟩
       have hn := hfr h.n (Nat.le_refl _) (by simp)
       have k1 := hop y oy xy hy
       rw [hv] at k1; simp only [VR] at k1
       obtain ⟨L, oo, cp, hL, hu, hle, hsz, hoo, hcap⟩ := k1
       have hcp : cp < m + n := by
        cases cap with
        | none => simp [sureGrow] at hsg
        | some cp' =>
         have := hcap cp' rfl
         subst this
         simpa [sureGrow, Nat.blt_eq] using hsg
       obtain ⟨val, w', β', q1, q2, q3⟩ := grow β a w L oo cp hlt hn hr hop hL hu hoo hcp
       unfold Oper.wp
       rw [q1]
       exact hK β' val w' q3 q2
      | false =>
       rw [hsg] at e
       simp only at e
       obtain ⟨hf, hsn, e⟩ := setB_some e
       obtain ⟨hlt, e⟩ := newB_some e
       have hlt' : h.n < 10000000 := hlt
       have st1 : Step c h ⟨Tr.set depth h.t id .dead, h.n⟩ := step_set hw g1 hf hsn
       refine ⟨_, _, e, st1.trans (step_new st1.wf hlt), fun β a w hgb hr hop hfr K Q hK => ?_⟩
       have hn := hfr h.n (Nat.le_refl _) (by simp)
       have k1 := hop y oy xy hy
       rw [hv] at k1; simp only [VR] at k1
       obtain ⟨L, oo, cp, hL, hu, hle, hsz, hoo, hcap⟩ := k1
       rcases Nat.lt_or_ge cp (m + n) with hcp | hcp
       ·obtain ⟨val, w', β', q1, q2, q3⟩ := grow β a w L oo cp hlt' hn hr hop hL hu hoo hcp
        unfold Oper.wp
        rw [q1]
        exact hK β' val w' (q3.toSub fun j b ej => view_dead hid hlt' ej) q2
       ·have hoo' : oo = L.base + off := by
         rcases hoo with q | ⟨_, q⟩
         ·exact q
         ·omega
        obtain ⟨cs, s1, s2⟩ := hsrc t2 e2 ht2 β w _ hr (hop z oz xz hz) hon
        obtain ⟨val, w', β', q1, q2, q3⟩ := app_room (P := P) (f := c.floor) (c := c) (h := h) ho ht i1 rfl hw hr hlt' hn hg hL hf hu hoo' hsz hvl s1 s2 hcp
        unfold Oper.wp
        rw [q1]
        exact hK β' val w' q3 q2
  ·cases e
/-! calls -/
def SaysR (P : Program) (ng : Nat) (o : Oper) (c : C) (sl : Tr AV) (h : H) (k : Kont) (r : Tr AV × H) : Prop := ∃ v h', k v h' = some r ∧ DidR P ng o c sl h v h'
theorem Says.toR (hd : ∀ q, o.op ≠ .defer q) (s : Says P ng o c sl h k r) : SaysR P ng o c sl h k r := by
 obtain ⟨v, h', e, d⟩ := s
 exact ⟨v, h', e, d.toR hd⟩
theorem op_call {f : Operand} {ys : Array Operand} {ts : Array TypeId} {xf : XV} {xs : List XV} (ho : o.op = .call { callee := .value f, args := ys, argTypes := ts }) (hf : cV f = some xf) (hx : ys.toList.mapM cV = some xs) (hw : WF h) (hc : Ctx c h) (hC : CallOk P ng call)
  (e : oCall xf xs c call sl h k = some r) : SaysR P ng o c sl h k r := by
 have nod : ∀ q, o.op ≠ .defer q := fun q => by rw [ho]; exact fun e => by cases e
 unfold oCall at e
 split at e
 ·rename_i fid first caps hv
  rw [evVs_eq, appK_eq, appK_eq] at e
  split at e
  ·rename_i v h' hcall
   refine ⟨v, h', e, ?_⟩
   have hcd : UpDid P ng (.fn fid) _ c h v h' := hC (.fn fid) _ c h v h' hc hw hcall
   obtain ⟨hst, hd⟩ := hcd
   refine ⟨hst, fun β a w hgb hr hop hfr ro n K Q hK => ⟨fun _ _ => trivial, ?_⟩⟩
   have k1 := hop f (by simp [ho, Op.operands, Call.operands]) xf hf
   rw [hv] at k1; simp only [VR] at k1
   obtain ⟨fs, ds, hu, hfs, hds⟩ := k1
   have k2 := mapM_cV (sl := sl) (β := β) (a := a) ys.toList xs hx fun y hy => hop y (by simp [ho, Op.operands, Call.operands]; right; simpa using hy)
   have earr : fs ++ ys.map a.eval ++ ds = (fs.toList ++ (ys.toList.map a.eval ++ ds.toList)).toArray := by
    apply Array.ext'; simp
   have hrun : (execOp a.eval o).run P w = (callFunc fid (fs.toList ++ (ys.toList.map a.eval ++ ds.toList)).toArray).run P w := by
    rw [← earr]
    simp [execOp, ho, resolve, Deferred.ofValue, hu, invoke]
   rw [Oper.semAt_eq _ _ _ nod, hrun]
   exact hd β w _ hgb hr (hfs.append (k2.append hds)) hfr _ rfl ro n o a K Q hK
  ·cases e
 ·rename_i fid caps hv
  rw [evVs_eq, appK_eq] at e
  split at e
  ·rename_i v h' hcall
   refine ⟨v, h', e, ?_⟩
   have hcd : UpDid P ng (.fn fid) _ c h v h' := hC (.fn fid) _ c h v h' hc hw hcall
   obtain ⟨hst, hd⟩ := hcd
   refine ⟨hst, fun β a w hgb hr hop hfr ro n K Q hK => ⟨fun _ _ => trivial, ?_⟩⟩
   have k1 := hop f (by simp [ho, Op.operands, Call.operands]) xf hf
   rw [hv] at k1; simp only [VR] at k1
   obtain ⟨ds, hu, hds⟩ := k1
   have k2 := mapM_cV (sl := sl) (β := β) (a := a) ys.toList xs hx fun y hy => hop y (by simp [ho, Op.operands, Call.operands]; right; simpa using hy)
   have earr : ys.map a.eval ++ ds = (ys.toList.map a.eval ++ ds.toList).toArray := by
    apply Array.ext'; simp
   have hrun : (execOp a.eval o).run P w = (callFunc fid (ys.toList.map a.eval ++ ds.toList).toArray).run P w := by
    rw [← earr]
    simp [execOp, ho, resolve, Deferred.ofValue, hu, invoke]
   rw [Oper.semAt_eq _ _ _ nod, hrun]
   exact hd β w _ hgb hr (k2.append hds) hfr _ rfl ro n o a K Q hK
  ·cases e
 ·rename_i id hv
  rw [evVs_eq] at e
  split at e
  ·rename_i v h' hcall
   refine ⟨v, h', e, ?_⟩
   have hcd : UpDid P ng (.yld id) _ c h v h' := hC (.yld id) _ c h v h' hc hw hcall
   obtain ⟨hst, hd⟩ := hcd
   refine ⟨hst, fun β a w hgb hr hop hfr ro n K Q hK => ⟨fun _ _ => trivial, ?_⟩⟩
   have k1 := hop f (by simp [ho, Op.operands, Call.operands]) xf hf
   rw [hv] at k1; simp only [VR] at k1
   obtain ⟨L, hL, hu⟩ := k1
   have k2 := mapM_cV (sl := sl) (β := β) (a := a) ys.toList xs hx fun y hy => hop y (by simp [ho, Op.operands, Call.operands]; right; simpa using hy)
   have earr : ys.map a.eval = (ys.toList.map a.eval).toArray := by
    apply Array.ext'; simp
   have hrun : (execOp a.eval o).run P w = (Instr.yield L.blk (ys.toList.map a.eval).toArray).run P w := by
    rw [← earr]
    simp [execOp, ho, resolve, Deferred.ofValue, hu, invoke]
   rw [Oper.semAt_eq _ _ _ nod, hrun]
   exact hd β w _ hgb hr k2 hfr _ ⟨L, hL, rfl⟩ ro n o a K Q hK
  ·cases e
 ·cases e
/-! interfaces -/
theorem op_mkif {t : TypeId} {d : TypeDesc} {y : Operand} {x : XV} (ho : o.op = .makeInterface t y) (ht : P.underlying t = some d) (hd : ∀ ms, d ≠ .interface ms) (hx : cV y = some x) (hw : WF h) (e : oMkif t x c call sl h k = some r) : Says P ng o c sl h k r := by
 refine ⟨_, h, e, did_pure hw fun β a w hr hop => ?_⟩
 have k1 := hop y (by simp [ho, Op.operands]) x hx
 refine ⟨.iface t (a.eval y), ?_, by simp only [VR]; exact ⟨_, rfl, k1⟩⟩
 have : (Instr.makeInterface t (a.eval y)).run P w = .ok (.iface t (a.eval y)) w := by
  simp only [Instr.makeInterface, Sem.run_bind, run_underlying ht, Result.andThen_ok]
  cases d <;> first | rfl | exact absurd rfl (hd _)
 simp [execOp, ho, this]
theorem run_methodOf {name : String} {t : TypeId} {f : Nat} {v : Value} (w : World) (hm : methodOf P name t = some f) : (method (P.types.size + Made.depth) t v name).run P w = .ok (f, v) w := by
 unfold methodOf at hm
 split at hm
 ·rename_i i hi
  split at hm
  ·rename_i m hf
   split at hm
   ·rename_i hp
    have hp' : m.path = #[] := by simpa using hp
    have hfu : ∃ n, P.types.size + Made.depth = n + 1 := ⟨P.types.size + (Made.depth - 1), by have : 0 < Made.depth := (by decide); omega⟩
    obtain ⟨n, hn⟩ := hfu
    rw [hn]
    unfold method
    split at hm
    ·rename_i f' e0 h1 h2
     cases hm
     simp [run_typeInfo w hi, hf, hp', follow, h1, receiverAt, run_underlying h2, Place.get]
    ·cases hm
    ·cases hm
    ·rename_i f' d hnp h1 h2
     cases hm
     have : ∀ s, (receiverAt t (.val v) false s).run P w = .ok v w := fun s => by
      unfold receiverAt
      simp only [Sem.run_bind, run_underlying h2, Result.andThen_ok]
      cases d <;> first | rfl | exact absurd h2 (hnp _ · ) | skip
      all_goals simp [Place.get]
     simp [run_typeInfo w hi, hf, hp', follow, h1, this]
    ·cases hm
   ·cases hm
  ·cases hm
 ·cases hm
theorem op_invoke {y : Operand} {name : String} {ys : Array Operand} {ts : Array TypeId} {xf : XV} {xs : List XV} (ho : o.op = .call { callee := .invoke y name, args := ys, argTypes := ts }) (hf : cV y = some xf) (hx : ys.toList.mapM cV = some xs) (hw : WF h) (hc : Ctx c h) (hC : CallOk P ng call)
  (e : oInvoke (methodOf P name) xf xs c call sl h k = some r) : SaysR P ng o c sl h k r := by
 have nod : ∀ q, o.op ≠ .defer q := fun q => by rw [ho]; exact fun e => by cases e
 unfold oInvoke at e
 split at e
 ·rename_i t v0 hv
  split at e
  ·rename_i fid hm
   rw [evVs_eq] at e
   split at e
   ·rename_i v h' hcall
    refine ⟨v, h', e, ?_⟩
    have hcd : UpDid P ng (.fn fid) _ c h v h' := hC (.fn fid) _ c h v h' hc hw hcall
    obtain ⟨hst, hd⟩ := hcd
    refine ⟨hst, fun β a w hgb hr hop hfr ro n K Q hK => ⟨fun _ _ => trivial, ?_⟩⟩
    have k1 := hop y (by simp [ho, Op.operands, Call.operands]) xf hf
    rw [hv] at k1; simp only [VR] at k1
    obtain ⟨rv, hu, hrv⟩ := k1
    have k2 := mapM_cV (sl := sl) (β := β) (a := a) ys.toList xs hx fun y hy => hop y (by simp [ho, Op.operands, Call.operands]; right; simpa using hy)
    have earr : #[rv] ++ ys.map a.eval = (rv :: ys.toList.map a.eval).toArray := by
     apply Array.ext'; simp
    have hrun : (execOp a.eval o).run P w = (callFunc fid (rv :: ys.toList.map a.eval).toArray).run P w := by
     rw [← earr]
     have hext : (#[Value.iface t rv] ++ ys.map a.eval).extract 1 (#[Value.iface t rv] ++ ys.map a.eval).size = ys.map a.eval := by
      apply Array.ext'; simp
      rw [List.take_of_length_le (by simp)]
     have hget : (#[Value.iface t rv] ++ ys.map a.eval)[0]? = some (.iface t rv) := by rw [Array.getElem?_append_left (by simp)]; rfl
     simp only [execOp, ho, resolve, invoke, Sem.run_bind, Sem.run_pure, Result.andThen_ok, hu, hget, hext, callMethod, run_program, run_methodOf w hm]
    have hargs : VRs β (v0 :: xs.map (evV sl)) (rv :: ys.toList.map a.eval) := by simp only [VRs]; exact ⟨_, _, rfl, hrv, k2⟩
    rw [Oper.semAt_eq _ _ _ nod, hrun]
    exact hd β w _ hgb hr hargs hfr _ rfl ro n o a K Q hK
   ·cases e
  ·cases e
 ·cases e
end
section
variable {P : Program} {ng : Nat} {o : Oper} {c : C} {call : Caller} {sl : Tr AV} {h : H} {k : Kont} {r : Tr AV × H}
/-! greater and smaller -/
def isBi (o : Oper) (b : Builtin) (y z : Operand) (ts : Array TypeId) : Prop := o.op = .call { callee := .builtin b, args := #[y, z], argTypes := ts }
theorem isBi_ops {b : Builtin} {y z : Operand} {ts : Array TypeId} (ho : isBi o b y z ts) : y ∈ o.op.operands.toList ∧ z ∈ o.op.operands.toList := by
 unfold isBi at ho
 constructor <;> simp [ho, Op.operands, Call.operands]
theorem op_max {y z : Operand} {ts : Array TypeId} {xy xz : XV} (ho : isBi o .max y z ts) (hy : cV y = some xy) (hz : cV z = some xz) (hw : WF h) (e : ints fMax xy xz c call sl h k = some r) : Says P ng o c sl h k r := by
 obtain ⟨p, a, b, h1, h2, e⟩ := ints_some e
 obtain ⟨oy, oz⟩ := isBi_ops ho
 have hv : k (.int p (if b > a then b else a)) h = some r := by
  unfold fMax at e
  cases hb : ltI a b with
  | true => rw [hb] at e; rw [ltI_eq, decide_eq_true_eq] at hb; rw [if_pos hb]; exact e
  | false => rw [hb] at e; rw [ltI_eq, decide_eq_false_iff_not] at hb; rw [if_neg hb]; exact e
 refine ⟨_, h, hv, did_pure hw fun β A w hr hop => ?_⟩
 have k1 := hop y oy xy hy
 have k2 := hop z oz xz hz
 rw [h1] at k1; rw [h2] at k2
 simp only [VR] at k1 k2
 refine ⟨.int p (if b > a then b else a), ?_, by simp [VR]⟩
 unfold isBi at ho
 simp [execOp, ho, resolve, invoke, builtin, Builtin.max_, Builtin.max2, k1, k2]
theorem op_min {y z : Operand} {ts : Array TypeId} {xy xz : XV} (ho : isBi o .min y z ts) (hy : cV y = some xy) (hz : cV z = some xz) (hw : WF h) (e : ints fMin xy xz c call sl h k = some r) : Says P ng o c sl h k r := by
 obtain ⟨p, a, b, h1, h2, e⟩ := ints_some e
 obtain ⟨oy, oz⟩ := isBi_ops ho
 have hv : k (.int p (if b < a then b else a)) h = some r := by
  unfold fMin at e
  cases hb : ltI b a with
  | true => rw [hb] at e; rw [ltI_eq, decide_eq_true_eq] at hb; rw [if_pos hb]; exact e
  | false => rw [hb] at e; rw [ltI_eq, decide_eq_false_iff_not] at hb; rw [if_neg hb]; exact e
 refine ⟨_, h, hv, did_pure hw fun β A w hr hop => ?_⟩
 have k1 := hop y oy xy hy
 have k2 := hop z oz xz hz
 rw [h1] at k1; rw [h2] at k2
 simp only [VR] at k1 k2
 refine ⟨.int p (if b < a then b else a), ?_, by simp [VR]⟩
 unfold isBi at ho
 simp [execOp, ho, resolve, invoke, builtin, Builtin.min_, Builtin.min2, k1, k2]
/-! bits -/
theorem inR_lt {p : IntKind} {m : Nat} (h : inR p (.ofNat m) = true) : m < 2 ^ p.bits := by
 have e8 : (2 : Nat) ^ 8 = 256 := by decide
 have e16 : (2 : Nat) ^ 16 = 65536 := by decide
 have e32 : (2 : Nat) ^ 32 = 4294967296 := by decide
 have e64 : (2 : Nat) ^ 64 = 18446744073709551616 := by decide
 cases p <;> simp only [inR, IntKind.bits, Bool.false_eq_true] at h ⊢ <;> have := Nat.le_of_ble_eq_true h <;> omega
theorem bv_nat {w m : Nat} (h : m < 2 ^ w) : (BitVec.ofInt w (Int.ofNat m)).toNat = m := by
 rw [BitVec.toNat_ofInt]
 have h2 : ((2 ^ w : Nat) : Int) = (2 : Int) ^ w := by simp
 have : (Int.ofNat m) % ((2 ^ w : Nat) : Int) = Int.ofNat m := Int.emod_eq_of_lt (Int.natCast_nonneg m) (Int.ofNat_lt.2 h)
 simp only [this]
 rfl
theorem onNat_some {f : Nat → Nat → Nat} {p : IntKind} {a b : Int} (e : onNat f p a b h k = some r) : ∃ m n, a = .ofNat m ∧ b = .ofNat n ∧ m < 2 ^ p.bits ∧ n < 2 ^ p.bits ∧ p.wrap (.ofNat (f m n)) = .ofNat (f m n) ∧ k (.int p (.ofNat (f m n))) h = some r := by
 unfold onNat at e
 split at e
 ·rename_i m n
  cases hb : (inR p (.ofNat m) && inR p (.ofNat n)) with
  | false => rw [hb] at e; cases e
  | true =>
   rw [hb] at e
   rw [Bool.and_eq_true] at hb
   obtain ⟨h1, h2⟩ := intK_some e
   exact ⟨m, n, rfl, rfl, inR_lt hb.1, inR_lt hb.2, h1, h2⟩
 ·cases e
theorem fact_and {t : TypeId} : IntFact P .and t (onNat Nat.land) := fun p a b h k r e => by
 obtain ⟨m, n, rfl, rfl, h1, h2, h3, h4⟩ := onNat_some e
 refine ⟨_, h4, fun w => ⟨.int p (.ofNat (Nat.land m n)), ?_, fun β => by simp [VR]⟩⟩
 have hbv : ((BitVec.ofInt p.bits (Int.ofNat m)) &&& (BitVec.ofInt p.bits (Int.ofNat n))).toNat = Nat.land m n := by rw [BitVec.toNat_and, bv_nat h1, bv_nat h2]; rfl
 simp only [binOp, Op.intBits, ne_eq, not_true_eq_false, if_false, hbv, Sem.run_pure]
 exact congrArg (fun z => Result.ok (Value.int p z) w) h3
theorem fact_or {t : TypeId} : IntFact P .or t (onNat Nat.lor) := fun p a b h k r e => by
 obtain ⟨m, n, rfl, rfl, h1, h2, h3, h4⟩ := onNat_some e
 refine ⟨_, h4, fun w => ⟨.int p (.ofNat (Nat.lor m n)), ?_, fun β => by simp [VR]⟩⟩
 have hbv : ((BitVec.ofInt p.bits (Int.ofNat m)) ||| (BitVec.ofInt p.bits (Int.ofNat n))).toNat = Nat.lor m n := by rw [BitVec.toNat_or, bv_nat h1, bv_nat h2]; rfl
 simp only [binOp, Op.intBits, ne_eq, not_true_eq_false, if_false, hbv, Sem.run_pure]
 exact congrArg (fun z => Result.ok (Value.int p z) w) h3
theorem fact_xor {t : TypeId} : IntFact P .xor t (onNat Nat.xor) := fun p a b h k r e => by
 obtain ⟨m, n, rfl, rfl, h1, h2, h3, h4⟩ := onNat_some e
 refine ⟨_, h4, fun w => ⟨.int p (.ofNat (Nat.xor m n)), ?_, fun β => by simp [VR]⟩⟩
 have hbv : ((BitVec.ofInt p.bits (Int.ofNat m)) ^^^ (BitVec.ofInt p.bits (Int.ofNat n))).toNat = Nat.xor m n := by rw [BitVec.toNat_xor, bv_nat h1, bv_nat h2]; rfl
 simp only [binOp, Op.intBits, ne_eq, not_true_eq_false, if_false, hbv, Sem.run_pure]
 exact congrArg (fun z => Result.ok (Value.int p z) w) h3
theorem fact_andNot {t : TypeId} : IntFact P .andNot t fAndNot := fun p a b h k r e => by
 unfold fAndNot at e
 split at e
 ·rename_i m n
  cases hb : (inR .u64 (.ofNat m) && inR .u64 (.ofNat n)) with
  | false => rw [hb] at e; cases e
  | true =>
   rw [hb] at e
   rw [Bool.and_eq_true] at hb
   obtain ⟨h3, h4⟩ := intK_some e
   have h1 := inR_lt hb.1
   have h2 := inR_lt hb.2
   refine ⟨_, h4, fun w => ⟨.int .u64 (.ofNat (Nat.land m (Nat.sub ones64 n))), ?_, fun β => by simp [VR]⟩⟩
   have hbv : ((BitVec.ofInt IntKind.u64.bits (Int.ofNat m)) &&& ~~~(BitVec.ofInt IntKind.u64.bits (Int.ofNat n))).toNat = Nat.land m (Nat.sub ones64 n) := by
    rw [BitVec.toNat_and, BitVec.toNat_not, bv_nat h1, bv_nat h2]
    rfl
   simp only [binOp, Op.intBits, ne_eq, not_true_eq_false, if_false, hbv, Sem.run_pure]
   exact congrArg (fun z => Result.ok (Value.int .u64 z) w) h3
 ·cases e
theorem wide_bits {p : IntKind} (h : (kindEq p .u64 || kindEq p .i64) = true) : p.bits = 64 := by
 rw [Bool.or_eq_true] at h
 rcases h with h | h <;> rw [kindEq_iff h] <;> rfl
theorem op_shl {t t' : TypeId} {y z : Operand} {xy xz : XV} (ho : o.op = .binOp .shl t y z t') (hy : cV y = some xy) (hz : cV z = some xz) (hw : WF h) (e : oShl xy xz c call sl h k = some r) : Says P ng o c sl h k r := by
 unfold oShl at e
 split at e
 ·rename_i p a q n h1 h2
  cases hb : (Nat.ble n 63 && (kindEq p .u64 || kindEq p .i64)) with
  | false => rw [hb] at e; cases e
  | true =>
   rw [hb] at e
   rw [Bool.and_eq_true] at hb
   have hn := Nat.le_of_ble_eq_true hb.1
   have hbits := wide_bits hb.2
   obtain ⟨h3, h4⟩ := intK_some e
   refine ⟨_, h, h4, did_bin ho hy hz hw fun β w u u' k1 k2 => ?_⟩
   rw [h1] at k1; rw [h2] at k2
   simp only [VR] at k1 k2; subst k1 k2
   refine ⟨by simp [eqGuard], .int p (Int.mul a (.ofNat (Nat.pow 2 n))), ?_, by simp [VR]⟩
   have hmin : min (Int.ofNat n).toNat p.bits = n := by rw [hbits]; simp; omega
   have hpow : a * 2 ^ n = Int.mul a (.ofNat (Nat.pow 2 n)) := by
    show a * 2 ^ n = a * (Int.ofNat (2 ^ n))
    congr 1
   have hneg : ¬ (Int.ofNat n < 0) := by simp
   simp only [binOp, Op.shift, hneg, if_false, hmin, Sem.run_pure]
   rw [hpow, h3]
 ·cases e
theorem op_shr {t t' : TypeId} {y z : Operand} {xy xz : XV} (ho : o.op = .binOp .shr t y z t') (hy : cV y = some xy) (hz : cV z = some xz) (hw : WF h) (e : oShr xy xz c call sl h k = some r) : Says P ng o c sl h k r := by
 unfold oShr at e
 split at e
 ·rename_i p m q n h1 h2
  cases hb : (Nat.ble n 63 && (kindEq p .u64 || kindEq p .i64)) with
  | false => rw [hb] at e; cases e
  | true =>
   rw [hb] at e
   rw [Bool.and_eq_true] at hb
   have hn := Nat.le_of_ble_eq_true hb.1
   have hbits := wide_bits hb.2
   obtain ⟨h3, h4⟩ := intK_some e
   refine ⟨_, h, h4, did_bin ho hy hz hw fun β w u u' k1 k2 => ?_⟩
   rw [h1] at k1; rw [h2] at k2
   simp only [VR] at k1 k2; subst k1 k2
   refine ⟨by simp [eqGuard], .int p (.ofNat (Nat.div m (Nat.pow 2 n))), ?_, by simp [VR]⟩
   have hmin : min (Int.ofNat n).toNat p.bits = n := by rw [hbits]; simp; omega
   have hdiv : (Int.ofNat m).fdiv (2 ^ n) = .ofNat (Nat.div m (Nat.pow 2 n)) := by
    have : (2 : Int) ^ n = Int.ofNat (2 ^ n) := by
     show (2 : Int) ^ n = ((2 ^ n : Nat) : Int)
     simp
    rw [this]
    show Int.fdiv (Int.ofNat m) (Int.ofNat (2 ^ n)) = Int.ofNat (m / 2 ^ n)
    exact (Int.fdiv_eq_ediv_of_nonneg (Int.ofNat m) (Int.natCast_nonneg (2 ^ n))).trans rfl
   have hneg : ¬ (Int.ofNat n < 0) := by simp
   simp only [binOp, Op.shift, hneg, if_false, hmin, Sem.run_pure]
   rw [hdiv]
 ·cases e
/-! arrays -/
theorem asNat_val {v : AV} {n : Nat} (hv : asNat v = some n) : ∃ p, v = .int p (.ofNat n) := by
 unfold asNat at hv
 split at hv
 ·cases hv; exact ⟨_, rfl⟩
 ·cases hv
theorem op_idx1 {t e0 : TypeId} {len : Nat} {y z : Operand} {xy xz : XV} (ho : o.op = .index t y z) (hy : cV y = some xy) (hz : cV z = some xz) (ht : P.underlying t = some (.array len e0)) (ha : isA P e0 = some none) (hs : szA P e0 = some 1) (hw : WF h)
  (e : oIdx1 len xy xz c call sl h k = some r) : Says P ng o c sl h k r := by
 unfold oIdx1 at e
 split at e
 ·rename_i vs i h1 h2
  obtain ⟨p, h2⟩ := asNat_val h2
  have hlt : i < len := by
   cases hb : Nat.blt i len with
   | false => rw [hb] at e; cases e
   | true => simpa [Nat.blt_eq] using hb
  have hb : Nat.blt i len = true := by simpa [Nat.blt_eq] using hlt
  rw [hb] at e
  simp only [cond] at e
  split at e
  ·rename_i v hn
   rw [nth_eq] at hn
   refine ⟨_, h, e, did_pure hw fun β a w hr hop => ?_⟩
   have k1 := hop y (by simp [ho, Op.operands]) xy hy
   have k2 := hop z (by simp [ho, Op.operands]) xz hz
   rw [h1] at k1; rw [h2] at k2
   simp only [VR] at k1 k2
   obtain ⟨cs, hu, hcs⟩ := k1
   obtain ⟨u, q1, q2⟩ := hcs.get hn
   have q3 : cs[i]? = some u := by simpa using q1
   refine ⟨u, ?_, q2⟩
   have hi : ((i : Nat) : Int) < ((len : Nat) : Int) := by omega
   have k2' : a.eval z = .int p ((i : Nat) : Int) := k2
   simp [execOp, ho, Instr.index, asIntOf, k2', hu, run_underlying ht, szA_some hs, part, isA_none ha, hi, hlt, q3]
  ·cases e
 ·cases e
theorem op_iaddrA {t e0 : TypeId} {len esz : Nat} {y z : Operand} {xy xz : XV} (ho : o.op = .indexAddr t y z) (hy : cV y = some xy) (hz : cV z = some xz) (ht : P.underlying t = some (.array len e0)) (hs : szA P e0 = some esz) (hw : WF h)
  (e : oIaddrA len esz xy xz c call sl h k = some r) : Says P ng o c sl h k r := by
 unfold oIaddrA at e
 split at e
 ·rename_i id off i h1 h2
  obtain ⟨p, h2⟩ := asNat_val h2
  cases hb : Nat.blt i len with
  | false => rw [hb] at e; cases e
  | true =>
   rw [hb] at e
   simp only [cond, forceNat_eq] at e
   have hlt : i < len := by simpa [Nat.blt_eq] using hb
   refine ⟨_, h, e, did_pure hw fun β a w hr hop => ?_⟩
   have k1 := hop y (by simp [ho, Op.operands]) xy hy
   have k2 := hop z (by simp [ho, Op.operands]) xz hz
   rw [h1] at k1; rw [h2] at k2
   simp only [VR] at k1 k2
   obtain ⟨L, hL, hu⟩ := k1
   have hi : ((i : Nat) : Int) < ((len : Nat) : Int) := by omega
   have k2' : a.eval z = .int p ((i : Nat) : Int) := k2
   refine ⟨.pointer (some ⟨L.blk, L.base + (off + i * esz), none⟩), ?_, by simp only [VR]; exact ⟨L, hL, rfl⟩⟩
   simp [execOp, ho, Instr.indexAt, Instr.sureAddr, asIntOf, k2', hu, run_underlying ht, szA_some hs, hi, hlt, add_lit, Nat.add_assoc]
 ·cases e
theorem op_mkmapH {t e0 e1 : TypeId} {y : Operand} {x : XV} (ho : o.op = .makeMap t (some y)) (ht : P.underlying t = some (.map e0 e1)) (hx : cV y = some x) (hw : WF h) (e : oMkmapH x c call sl h k = some r) : Says P ng o c sl h k r := by
 unfold oMkmapH at e
 split at e
 ·rename_i p n hv
  obtain ⟨hlt, e⟩ := newB_some e
  refine ⟨_, _, e, step_new hw hlt, fun β a w hgb hr hop hfr K Q hK => ?_⟩
  have hn := hfr h.n (Nat.le_refl _) (by simp)
  have k1 := hop y (by simp [ho, Op.operands]) x hx
  rw [hv] at k1; simp only [VR] at k1
  unfold Oper.wp
  have hrun : (execOp a.eval o).run P w = .ok (.value (.map (some w.heap.size))) { w with heap := w.heap.push (.map #[] 0) } := by
   simp [execOp, ho, Instr.makeMap, k1, run_underlying ht, asInt, asIntOf]
  rw [hrun]
  refine hK _ _ _ (post_push (L := ⟨w.heap.size, 0, 0, dv⟩) hr hlt hn rfl ⟨#[], by simp, by simp [ER]⟩) ?_
  simp only [VR]
  exact ⟨_, upd_same _ _ _, rfl⟩
 ·cases e
/-! slices with three indexes -/
theorem op_slice3 {t e0 : TypeId} {y mx : Operand} {lo hi : Option Operand} {xy : XV} {xl xh xm : Option XV} {esz : Nat} (ho : o.op = .slice t y lo hi (some mx)) (hy : cV y = some xy) (hl : cOpt lo = some xl) (hh : cOpt hi = some xh) (hm : cOpt (some mx) = some xm) (ht : P.underlying t = some (.slice e0)) (hs : szA P e0 = some esz) (hw : WF h) (hhs : hi.isSome = true)
  (e : oSlice3 esz xy xl xh xm c call sl h k = some r) : Says P ng o c sl h k r := by
 unfold oSlice3 at e
 split at e
 ·rename_i id off n es cap hv
  split at e
  ·rename_i l u m h2 h3 h4
   cases hb : (Nat.ble l u && Nat.ble u n && Nat.ble u m && capOk cap n m && Nat.beq es esz) with
   | false => rw [hb] at e; cases e
   | true =>
    rw [hb] at e
    simp only [Bool.and_eq_true] at hb
    obtain ⟨⟨⟨⟨c1, c2⟩, c3⟩, c4⟩, c5⟩ := hb
    have c1 := Nat.le_of_ble_eq_true c1
    have c2 := Nat.le_of_ble_eq_true c2
    have c3 := Nat.le_of_ble_eq_true c3
    have c5 : es = esz := Nat.eq_of_beq_eq_true c5
    subst c5
    simp only [cond, forceNat_eq] at e
    refine ⟨_, h, e, did_pure hw fun β a w hr hop => ?_⟩
    have k1 := hop y (by simp [ho, Op.operands]) xy hy
    rw [hv] at k1
    simp only [VR] at k1
    obtain ⟨L, oo, cp, hL, hu, hle, hsz, hoo, hcap⟩ := k1
    have hmc : m ≤ cp := by
     unfold capOk at c4
     cases cap with
     | none => have := Nat.le_of_ble_eq_true c4; omega
     | some cp' => have := Nat.le_of_ble_eq_true c4; rw [hcap cp' rfl]; exact this
    have b1 := opt_of (β := β) (a := a) hl (fun z hz q hq => hop z (by subst hz; simp [ho, Op.operands]) q hq) h2
    have b2 := opt_of (β := β) (a := a) hh (fun z hz q hq => hop z (by subst hz; simp [ho, Op.operands]) q hq) h3
    have b3 := opt_of (β := β) (a := a) hm (fun z hz q hq => hop z (by cases hz; simp [ho, Op.operands]) q hq) h4
    have hmsz : oo + m * es ≤ L.size := Nat.le_trans (Nat.add_le_add_left (Nat.mul_le_mul_right _ hmc) _) hsz
    have hoo' : oo = L.base + off ∨ (u = 0 ∧ m = 0) := by
     rcases hoo with q | ⟨q1, q2⟩
     ·exact Or.inl q
     ·exact Or.inr ⟨by omega, by omega⟩
    have hvr := vr_sliced (β := β) (id := id) (off := off) (len := u) (esz := es) (l := l) (u := u) (cp := m) (cap := some m) hL c3 hmsz hoo' (fun c hc => by cases hc; rfl) c1 (Nat.le_refl _)
    refine ⟨_, ?_, hvr⟩
    have g1 : ((l : Nat) : Int) ≤ ((u : Nat) : Int) := by omega
    have g2 : ((u : Nat) : Int) ≤ ((m : Nat) : Int) := by omega
    have g3 : ((m : Nat) : Int) ≤ ((cp : Nat) : Int) := by omega
    have g4 : ¬ cp < m := by omega
    have g5 : ¬ m < u := by omega
    have g6 : ¬ u < l := by omega
    rcases b3 with ⟨q, _⟩ | ⟨z3, q3, hz3, e3⟩
    ·cases q
    ·cases hz3
     rcases b2 with ⟨rfl, _⟩ | ⟨z2, q2, rfl, e2⟩
     ·cases hhs
     ·rcases b1 with ⟨rfl, rfl⟩ | ⟨z1, q1, rfl, e1⟩ <;>
       simp [execOp, ho, Instr.sliceAt, Instr.slice, Instr.sliceBounds, Instr.sliceBound, asIntOf, run_underlying ht, hu, szA_some hs, *]
  ·cases e
 ·cases e
/-! copy -/
theorem minN_eq (a b : Nat) : minN a b = Nat.min a b := by
 unfold minN
 cases hb : Nat.ble a b with
 | true => have := Nat.le_of_ble_eq_true hb; simp [cond, Nat.min_def, this]
 | false =>
  have : ¬ a ≤ b := fun q => by have := Nat.ble_eq_true_of_le q; rw [hb] at this; cases this
  simp [cond, Nat.min_def, this]
theorem copy_run {y z : Operand} {t t2 : TypeId} (ho : isBi o .copy y z #[t, t2]) (a : Act) (w : World) {u : Value} {w' : World} (hr : (Builtin.copy_ #[t, t2] o.type #[a.eval y, a.eval z]).run P w = .ok u w') : (execOp a.eval o).run P w = .ok (.value u) w' := by
 unfold isBi at ho
 simp [execOp, ho, resolve, invoke, builtin, hr]
theorem copy_none {w : World} {t t2 ty e0 : TypeId} {esz n n' cp cp' : Nat} {b b' : Option Addr} (ht : P.underlying t = some (.slice e0)) (hs : szA P e0 = some esz) (h0 : Nat.min n' n = 0) (hb : b' = none → n' = 0) :
  (Builtin.copy_ #[t, t2] ty #[.slice b n cp, .slice b' n' cp']).run P w = .ok (.int .i64 (0 : Nat)) w := by
 have hfc : (Builtin.firstCells esz 0 (.slice b' n' cp')).run P w = .ok #[] w := by
  cases b' with
  | none => simp [Builtin.firstCells]
  | some a =>
   simp only [Builtin.firstCells, Nat.zero_mul]
   exact run_loadCells_list w a [] (fun j v hj => by simp at hj)
 cases b <;> simp [Builtin.copy_, run_underlying ht, szA_some hs, Builtin.lenOf, h0, hfc, storeCells, goInt]
theorem op_copy {y z : Operand} {t t2 e0 e2 : TypeId} {esz : Nat} {xy xz : XV} (ho : isBi o .copy y z #[t, t2]) (ht : P.underlying t = some (.slice e0)) (ht2 : P.underlying t2 = some (.slice e2)) (hs : szA P e0 = some esz) (hy : cV y = some xy) (hz : cV z = some xz) (hw : WF h)
  (e : oCopy esz xy xz c call sl h k = some r) : Says P ng o c sl h k r := by
 obtain ⟨oy, oz⟩ := isBi_ops ho
 unfold oCopy at e
 split at e
 ·rename_i id off n es cap id' off' n' es' cap' h1 h2
  cases hb : (Nat.beq es esz && Nat.beq es' esz) with
  | false => rw [hb] at e; cases e
  | true =>
   rw [hb] at e
   simp only [Bool.and_eq_true] at hb
   have c1 : es = esz := Nat.eq_of_beq_eq_true hb.1
   have c2 : es' = esz := Nat.eq_of_beq_eq_true hb.2
   subst c1; subst c2
   simp only [cond, forceNat_eq, minN_eq] at e
   cases hq : Nat.beq (Nat.min n' n) 0 with
   | true =>
    rw [hq] at e
    have hq' : Nat.min n' n = 0 := Nat.eq_of_beq_eq_true hq
    refine ⟨_, h, e, did_pure hw fun β a w hr hop => ?_⟩
    have k1 := hop y oy xy hy
    have k2 := hop z oz xz hz
    rw [h1] at k1; rw [h2] at k2
    simp only [VR] at k1 k2
    obtain ⟨L, oo, cp, hL, hu, _⟩ := k1
    obtain ⟨L', oo', cp', hL', hu', _⟩ := k2
    refine ⟨.int .i64 (0 : Nat), copy_run ho a w ?_, by simp [VR]⟩
    rw [hu, hu']; exact copy_none ht hs hq' (fun q => by cases q)
   | false =>
    rw [hq] at e
    simp only at e
    have hq' : Nat.min n' n ≠ 0 := fun q => by rw [q] at hq; simp at hq
    obtain ⟨vs', hg', e⟩ := cellsAt_some e
    obtain ⟨d1, e⟩ := dropK_some e
    obtain ⟨d2, e⟩ := takeK_some e
    cases hon : ones ((vs'.drop off').take (Nat.mul (Nat.min n' n) es')) with
    | false => rw [hon] at e; cases e
    | true =>
     rw [hon] at e
     simp only at e
     obtain ⟨vs, hg, e⟩ := cellsAt_some e
     obtain ⟨d3, e⟩ := spliceK_some e
     obtain ⟨hf, hsn, e⟩ := setB_some e
     obtain ⟨g1, g2⟩ := getB_get hg
     have hid : id < 10000000 := Nat.lt_of_lt_of_le (lt_of_get hw g1) hw.small
     refine ⟨_, _, e, step_set hw g1 hf g2, fun β a w hgb hr hop hfr K Q hK => ?_⟩
     have k1 := hop y oy xy hy
     have k2 := hop z oz xz hz
     rw [h1] at k1; rw [h2] at k2
     simp only [VR] at k1 k2
     obtain ⟨L, oo, cp, hL, hu, hle, hsz, hoo, hcap⟩ := k1
     obtain ⟨L', oo', cp', hL', hu', hle', hsz', hoo', hcap'⟩ := k2
     have hnn : n ≠ 0 := fun q => hq' (by rw [q]; simp [Nat.min_def])
     have hnn' : n' ≠ 0 := fun q => hq' (by rw [q]; simp [Nat.min_def])
     have ho1 : oo = L.base + off := by
      rcases hoo with q | ⟨q, _⟩
      ·exact q
      ·exact absurd q hnn
     have ho2 : oo' = L'.base + off' := by
      rcases hoo' with q | ⟨q, _⟩
      ·exact q
      ·exact absurd q hnn'
     subst ho1; subst ho2
     obtain ⟨LL, p1, p2, p3⟩ := hr.at_ id _ (view_cells hg)
     rw [hL] at p1; cases p1
     obtain ⟨LL', p1', p2', p3'⟩ := hr.at_ id' _ (view_cells hg')
     rw [hL'] at p1'; cases p1'
     have hmul : Nat.mul (Nat.min n' n) es' = Nat.min n' n * es' := rfl
     rw [hmul] at d2 d3 hon
     have hlen : ((vs'.drop off').take (Nat.min n' n * es')).length = Nat.min n' n * es' := by rw [List.length_take]; exact Nat.min_eq_left d2
     obtain ⟨cs, s1, s2⟩ := part_of_br p3' (off := off') (n := Nat.min n' n * es') (by simp at d2; omega)
     have hcl : cs.length = Nat.min n' n * es' := by rw [← s1.length]; exact hlen
     have hld := run_loadCells_list (P := P) w _ cs s2
     rw [hcl] at hld
     have hst : (storeCells ⟨L.blk, L.base + off, none⟩ cs).run P w = .ok () (w.setCells L.blk (L.base + off) cs) := by
      obtain ⟨cur, et, b1, b2, b3⟩ := p3
      have := run_storeCells_cells (P := P) L.blk (L.base + off) cs 0 w (fun j hj => by
        have hj' : off + j < vs.length := by rw [hcl, ← hlen] at hj; omega
        have e1 : vs[off + j]? = some (vs[off + j]'hj') := by simp
        obtain ⟨u, q1, _⟩ := b3 _ _ e1
        simp [World.cell?, b1, Nat.add_assoc, q1]) (fun j hj => by unfold World.frozen?; simp only [b1]; exact b2.nf _ (by omega) (by have hft := b2.fit; have hj' : off + j < vs.length := (by rw [hcl, ← hlen] at hj; omega); omega)) (ones_of s1 hon)
      simpa using this
     have hrun : (Builtin.copy_ #[t, t2] o.type #[a.eval y, a.eval z]).run P w = .ok (.int .i64 ((Nat.min n' n : Nat) : Int)) (w.setCells L.blk (L.base + off) cs) := by
      rw [hu, hu']
      simp [Builtin.copy_, run_underlying ht, szA_some hs, Builtin.lenOf, Builtin.firstCells, hld, hst, goInt]
     unfold Oper.wp
     rw [copy_run ho a w hrun]
     obtain ⟨r1, r2, r3, r4⟩ := setCells_rest L.blk cs (L.base + off) w
     refine hK β _ _ (post_write hr (view_cells hg) hL hf (fun B hB => setCells_other L.blk B hB _ _ _) r1 r2 r3 r4 ?_ (fun j d ej => view_set hid ej)) (by simp [VR])
     rcases br_splice p3 s1 d3 with h5 | h5
     ·exact h5.1
     ·have e2 : cs = [] := by rw [← List.length_eq_zero_iff, ← s1.length, h5]; rfl
      have h5' : (vs'.drop off').take (Nat.mul (Nat.min n' n) es') = [] := h5
      rw [h5', e2]
      simpa [World.setCells] using p3
 ·rename_i h1 h2
  refine ⟨_, h, e, did_pure hw fun β a w hr hop => ?_⟩
  have k1 := hop y oy xy hy
  have k2 := hop z oz xz hz
  rw [h1] at k1; rw [h2] at k2
  simp only [VR] at k1 k2
  obtain ⟨L, oo, cp, hL, hu, _⟩ := k1
  refine ⟨.int .i64 (0 : Nat), copy_run ho a w ?_, by simp [VR]⟩
  rw [hu, k2]; exact copy_none ht hs (by simp [Nat.min_def]) (fun _ => rfl)
 ·rename_i h1 h2
  refine ⟨_, h, e, did_pure hw fun β a w hr hop => ?_⟩
  have k1 := hop y oy xy hy
  have k2 := hop z oz xz hz
  rw [h1] at k1; rw [h2] at k2
  simp only [VR] at k1 k2
  obtain ⟨L, oo, cp, hL, hu, _⟩ := k2
  refine ⟨.int .i64 (0 : Nat), copy_run ho a w ?_, by simp [VR]⟩
  rw [hu, k1]; exact copy_none ht hs (by simp [Nat.min_def]) (fun q => by cases q)
 ·rename_i h1 h2
  refine ⟨_, h, e, did_pure hw fun β a w hr hop => ?_⟩
  have k1 := hop y oy xy hy
  have k2 := hop z oz xz hz
  rw [h1] at k1; rw [h2] at k2
  simp only [VR] at k1 k2
  refine ⟨.int .i64 (0 : Nat), copy_run ho a w ?_, by simp [VR]⟩
  rw [k1, k2]; exact copy_none ht hs (by simp [Nat.min_def]) (fun _ => rfl)
 ·cases e
/-! ranges over maps -/
theorem op_range {t e0 e1 : TypeId} {y : Operand} {x : XV} (ho : o.op = .range t y) (ht : P.underlying t = some (.map e0 e1)) (hx : cV y = some x) (hw : WF h) (e : oRange x c call sl h k = some r) : Says P ng o c sl h k r := by
 unfold oRange at e
 split at e
 ·rename_i hv
  obtain ⟨hlt, e⟩ := newB_some e
  refine ⟨_, _, e, step_new hw hlt, fun β a w hgb hr hop hfr K Q hK => ?_⟩
  have hn := hfr h.n (Nat.le_refl _) (by simp)
  have k1 := hop y (by simp [ho, Op.operands]) x hx
  rw [hv] at k1; simp only [VR] at k1
  have hrun : (execOp a.eval o).run P w = .ok (.value (.pointer (some ⟨w.heap.size, 0, none⟩))) { w with heap := w.heap.push (.mapIter none 0 #[] 0) } := by
   simp [execOp, ho, Instr.range, k1, run_underlying ht]
  unfold Oper.wp
  rw [hrun]
  refine hK _ _ _ (post_push (L := ⟨w.heap.size, 0, 0, dv⟩) hr hlt hn rfl ⟨none, by simp, rfl, fun _ => rfl, fun i hi => by cases hi⟩) ?_
  simp only [VR]
  exact ⟨_, upd_same _ _ _, rfl⟩
 ·rename_i m hv
  split at e
  ·rename_i es clock hg
   obtain ⟨hlt, e⟩ := newB_some e
   refine ⟨_, _, e, step_new hw hlt, fun β a w hgb hr hop hfr K Q hK => ?_⟩
   have hn := hfr h.n (Nat.le_refl _) (by simp)
   have k1 := hop y (by simp [ho, Op.operands]) x hx
   rw [hv] at k1; simp only [VR] at k1
   obtain ⟨M, hM, hu⟩ := k1
   obtain ⟨M', q1, _, ces, q2, q3⟩ := hr.at_ m _ (view_map hg)
   rw [hM] at q1; cases q1
   have hrun : (execOp a.eval o).run P w = .ok (.value (.pointer (some ⟨w.heap.size, 0, none⟩))) { w with heap := w.heap.push (.mapIter (some M.blk) clock #[] clock) } := by
    simp [execOp, ho, Instr.range, hu, run_underlying ht, get_map q2]
   unfold Oper.wp
   rw [hrun]
   refine hK _ _ _ (post_push (L := ⟨w.heap.size, 0, 0, dv⟩) hr hlt hn rfl ⟨some M.blk, by simp, rfl, fun q => (by cases q), fun i hi => by cases hi; exact ⟨M, upd_sub _ hn _ _ hM, rfl⟩⟩) ?_
   simp only [VR]
   exact ⟨_, upd_same _ _ _, rfl⟩
  ·cases e
 ·cases e
theorem iter_of {β : Bet} {w : World} {id : Nat} {u : Value} {m : Option Nat} {since last : Nat} {seen : List Nat} (hr : HR c.floor β (view c h) w) (hv : VR β (.ptr id 0) u) (hg : getB c h id = some (.iter m since seen last)) :
  ∃ L om, β id = some L ∧ L.blk < w.heap.size ∧ u = .pointer (some ⟨L.blk, 0, none⟩) ∧ L.base = 0 ∧ w.heap[L.blk]? = some (.mapIter om since seen.toArray last) ∧ (m = none → om = none) ∧ ∀ i, m = some i → ∃ M, β i = some M ∧ om = some M.blk := by
 simp only [VR] at hv
 obtain ⟨L, h1, h2⟩ := hv
 obtain ⟨L', h3, h3', om, h4, h5, h6, h7⟩ := hr.at_ id _ (view_live hg (fun q => by cases q))
 rw [h1] at h3; cases h3
 exact ⟨L, om, h1, h3', by rw [h2, h5], h5, h4, h6, h7⟩
theorem get_iter {w : World} {b : Nat} {om : Option Nat} {since last : Nat} {seen : Array Nat} (hb : w.heap[b]? = some (.mapIter om since seen last)) : (getObj b).run P w = .ok (.mapIter om since seen last) w := by simp [getObj, Sem.run, hb]
theorem set_iter {w : World} {b : Nat} {om : Option Nat} {since last : Nat} {seen : Array Nat} (o' : Obj) (hb : w.heap[b]? = some (.mapIter om since seen last)) : (setObj b o').run P w = .ok () { w with heap := w.heap.setIfInBounds b o' } := by simp [setObj, Sem.run, hb]
theorem er_one {β : Bet} {e : AV × AV × Nat} {ces : List MapEntry} (h : ER β [e] ces) : ∃ ce, ces = [ce] ∧ VR β e.1 ce.key ∧ VR β e.2.1 ce.val ∧ ce.born = e.2.2 := by
 obtain ⟨ce, ces', h1, h2, h3, h4, h5⟩ := h
 have : ces' = [] := h5
 subst this
 exact ⟨ce, h1, h2, h3, h4⟩
theorem arr_one {α : Type} {a : Array α} {x : α} (h : a.toList = [x]) : a = #[x] := by apply Array.ext'; simpa using h
theorem op_next {y : Operand} {x : XV} (ho : o.op = .next y false) (hx : cV y = some x) (hw : WF h) (e : oNext x c call sl h k = some r) : Says P ng o c sl h k r := by
 unfold oNext at e
 split at e
 ·rename_i id hv
  split at e
  ·rename_i since seen last hg
   refine ⟨_, h, e, did_pure hw fun β a w hr hop => ?_⟩
   have k1 := hop y (by simp [ho, Op.operands]) x hx
   rw [hv] at k1
   obtain ⟨L, om, _, _, hu, _, q1, q2, _⟩ := iter_of hr k1 hg
   have q2' := q2 rfl
   subst q2'
   exact ⟨.tuple #[.bool false], by simp [execOp, ho, Instr.next, hu, get_iter q1], by simp [VR, VRs]⟩
  ·rename_i m since seen last hg
   split at e
   ·rename_i es clock hgm
    have body : ∀ β (a : Act) (w : World), HR c.floor β (view c h) w → OpsR β sl a o.op.operands.toList → ∃ L M ces, β id = some L ∧ L.blk < w.heap.size ∧ a.eval y = .pointer (some ⟨L.blk, 0, none⟩) ∧ L.base = 0 ∧ w.heap[L.blk]? = some (.mapIter (some M.blk) since seen.toArray last) ∧ β m = some M ∧ w.heap[M.blk]? = some (.map ces clock) ∧ ER β es ces.toList := fun β a w hr hop => by
     have k1 := hop y (by simp [ho, Op.operands]) x hx
     rw [hv] at k1
     obtain ⟨L, om, p1, p1', hu, p2, q1, _, q3⟩ := iter_of hr k1 hg
     obtain ⟨M, hM, rfl⟩ := q3 m rfl
     obtain ⟨M', z1, _, ces, z2, z3⟩ := hr.at_ m _ (view_map hgm)
     rw [hM] at z1; cases z1
     exact ⟨L, M, ces, p1, p1', hu, p2, q1, hM, z2, z3⟩
    split at e
    ·refine ⟨_, h, e, did_pure hw fun β a w hr hop => ?_⟩
     obtain ⟨L, M, ces, _, _, hu, _, q1, _, z2, z3⟩ := body β a w hr hop
     have hces : ces = #[] := by apply Array.ext'; exact z3
     subst hces
     exact ⟨.tuple #[.bool false], by simp [execOp, ho, Instr.next, hu, get_iter q1, get_map z2, Question.forced], by simp [VR, VRs]⟩
    ·rename_i e0
     split at e
     ·cases hb : Nat.blt e0.2.2 since with
      | false => rw [hb] at e; cases e
      | true =>
       rw [hb] at e
       have hlt : e0.2.2 < since := by simpa [Nat.blt_eq] using hb
       simp only [cond] at e
       obtain ⟨hf, hsn, e⟩ := setB_some e
       obtain ⟨g1, g2⟩ := getB_get hg
       have hid : id < 10000000 := Nat.lt_of_lt_of_le (lt_of_get hw g1) hw.small
       refine ⟨_, _, e, step_set hw g1 hf g2, fun β a w hgb hr hop hfr K Q hK => ?_⟩
       obtain ⟨L, M, ces, hL, hLs, hu, hbase, q1, hM, z2, z3⟩ := body β a w hr hop
       obtain ⟨ce, hce, v1, v2, v3⟩ := er_one z3
       have hces := arr_one hce
       subst hces
       have hlt' : ce.born < since := by rw [v3]; exact hlt
       have hnl : ¬ since ≤ ce.born := by omega
       have hrun : (execOp a.eval o).run P w = .ok (.value (.tuple #[.bool true, ce.key, ce.val])) { w with heap := w.heap.setIfInBounds L.blk (.mapIter (some M.blk) since #[ce.born] clock) } := by
        simp [execOp, ho, Instr.next, hu, get_iter q1, get_map z2, Question.forced, hlt', hnl, set_iter _ q1]
       unfold Oper.wp
       rw [hrun]
       have hs := MapKept.heap_set (o' := Obj.mapIter (some M.blk) since #[ce.born] clock) q1
       refine hK β _ _ (post_write (b := .iter (some m) since [e0.2.2] clock) hr (view_live hg (fun q => by cases q)) hL hf (fun B hB => hs.2 B hB) (by simp) rfl rfl rfl ⟨some M.blk, by rw [← v3]; exact hs.1, hbase, fun q => (by cases q), fun i hi => by cases hi; exact ⟨M, hM, rfl⟩⟩ (fun j d ej => view_set hid ej)) ?_
       simp only [VR]
       exact ⟨_, rfl, by simp only [VRs, VR]; exact ⟨_, _, rfl, rfl, _, _, rfl, v1, _, _, rfl, v2, rfl⟩⟩
     ·rename_i b
      cases hb : (Nat.beq b e0.2.2 && Nat.blt e0.2.2 last) with
      | false => rw [hb] at e; cases e
      | true =>
       rw [hb] at e
       rw [Bool.and_eq_true] at hb
       have hbe : b = e0.2.2 := Nat.eq_of_beq_eq_true hb.1
       have hlt : e0.2.2 < last := by simpa [Nat.blt_eq] using hb.2
       refine ⟨_, h, e, did_pure hw fun β a w hr hop => ?_⟩
       obtain ⟨L, M, ces, _, _, hu, _, q1, _, z2, z3⟩ := body β a w hr hop
       obtain ⟨ce, hce, v1, v2, v3⟩ := er_one z3
       have hces := arr_one hce
       subst hces
       have hnl : ¬ last ≤ ce.born := by rw [v3]; omega
       have hbb : b = ce.born := by rw [v3]; exact hbe
       subst hbb
       exact ⟨.tuple #[.bool false], by simp [execOp, ho, Instr.next, hu, get_iter q1, get_map z2, Question.forced, hnl], by simp [VR, VRs]⟩
     ·cases e
    ·cases e
   ·cases e
  ·cases e
 ·cases e
theorem lastL_eq : ∀ l : List Nat, lastL l = l.getLast?
 | [] => rfl
 | [x] => rfl
 | x :: y :: l => by
  unfold lastL
  simp only
  rw [lastL_eq (y :: l), List.getLast?_cons_cons]
theorem er_born {β : Bet} {b : Nat} : ∀ {es : List (AV × AV × Nat)} {ces : List MapEntry} {p : AV × AV}, ER β es ces → bornE b es = some p → ∃ ce, ces.find? (·.born == b) = some ce ∧ VR β p.1 ce.key ∧ VR β p.2 ce.val
 | [], ces, p, h, e => by cases e
 | x :: xs, ces, p, h, e => by
  obtain ⟨ce, ces', rfl, h1, h2, h3, h4⟩ := h
  unfold bornE at e
  cases hb : Nat.beq x.2.2 b with
  | true =>
   rw [hb] at e
   cases e
   have := Nat.eq_of_beq_eq_true hb
   exact ⟨ce, by rw [List.find?_cons_of_pos (by simp [h3, this])], h1, h2⟩
  | false =>
   rw [hb] at e
   obtain ⟨c', k1, k2, k3⟩ := er_born h4 e
   have hne : ¬ ce.born = b := fun q => by rw [h3] at q; rw [q] at hb; simp at hb
   exact ⟨c', by rw [List.find?_cons_of_neg (by simpa using hne)]; exact k1, k2, k3⟩
theorem entry_says {y : Operand} {x : XV} {id m stepped b : Nat} (ho : o.op = .entry y) (hx : cV y = some x) (hw : WF h) (e : entryK c h m stepped b k = some r)
  (hit : ∀ β (a : Act) (w : World), HR c.floor β (view c h) w → OpsR β sl a o.op.operands.toList → ∃ (L M : Loc) (since : Nat) (seen : Array Nat), a.eval y = .pointer (some ⟨L.blk, 0, none⟩) ∧ β m = some M ∧ w.heap[L.blk]? = some (.mapIter (some M.blk) since seen stepped) ∧ seen.back? = some b) : Says P ng o c sl h k r := by
 unfold entryK at e
 split at e
 ·rename_i es clock hgm
  cases hb : Nat.beq clock stepped with
  | false => rw [hb] at e; cases e
  | true =>
   rw [hb] at e
   have h1 : clock = stepped := Nat.eq_of_beq_eq_true hb
   simp only [cond] at e
   split at e
   ·rename_i p hp
    refine ⟨_, h, e, did_pure hw fun β a w hr hop => ?_⟩
    obtain ⟨L, M, since, seen, hu, hM, q1, hbk⟩ := hit β a w hr hop
    obtain ⟨M', z1, _, ces, z2, z3⟩ := hr.at_ m _ (view_map hgm)
    rw [hM] at z1; cases z1
    obtain ⟨ce, f1, v1, v2⟩ := er_born z3 hp
    rw [Array.find?_toList] at f1
    subst h1
    refine ⟨.tuple #[ce.key, ce.val], by simp [execOp, ho, Instr.entry, hu, get_iter q1, get_map z2, hbk, f1], ?_⟩
    simp only [VR]
    exact ⟨_, rfl, by simp only [VRs]; exact ⟨_, _, rfl, v1, _, _, rfl, v2, rfl⟩⟩
   ·cases e
 ·cases e
theorem op_entry {y : Operand} {x : XV} (ho : o.op = .entry y) (hx : cV y = some x) (hw : WF h) (e : oEntry x c call sl h k = some r) : Says P ng o c sl h k r := by
 unfold oEntry at e
 split at e
 ·rename_i id hv
  split at e
  ·rename_i m since seen stepped hg
   split at e
   ·rename_i b hlast
    refine entry_says (id := id) ho hx hw e fun β a w hr hop => ?_
    have k1 := hop y (by simp [ho, Op.operands]) x hx
    rw [hv] at k1
    obtain ⟨L, om, p1, p1', hu, p2, q1, _, q3⟩ := iter_of hr k1 hg
    obtain ⟨M, hM, rfl⟩ := q3 m rfl
    rw [lastL_eq] at hlast
    exact ⟨L, M, since, _, hu, hM, q1, by simpa using hlast⟩
   ·cases e
  ·rename_i m since b stepped v hg
   refine entry_says (id := id) ho hx hw e fun β a w hr hop => ?_
   have k1 := hop y (by simp [ho, Op.operands]) x hx
   rw [hv] at k1
   simp only [VR] at k1
   obtain ⟨L, h1, h2⟩ := k1
   obtain ⟨L', h3, _, M, S, seen, q1, q2, q3, q4, q5, q6⟩ := hr.at_ id _ (view_live hg (fun q => by cases q))
   rw [h1] at h3; cases h3
   exact ⟨L, M, since, seen, by rw [h2, q6], q1, q5, q4⟩
  ·cases e
 ·cases e
end
section
variable {P : Program} {ng : Nat} {o : Oper} {c : C} {call : Caller} {sl : Tr AV} {h : H} {k : Kont} {r : Tr AV × H}
theorem op_sliceA {t e0 : TypeId} {n : Nat} {y : Operand} {lo hi : Option Operand} {xy : XV} {xl xh : Option XV} {esz : Nat} (ho : o.op = .slice t y lo hi none) (hy : cV y = some xy) (hl : cOpt lo = some xl) (hh : cOpt hi = some xh) (ht : P.underlying t = some (.array n e0)) (hs : szA P e0 = some esz) (hw : WF h)
  (e : oSliceA n esz xy xl xh c call sl h k = some r) : Says P ng o c sl h k r := by
 unfold oSliceA at e
 split at e
 ·rename_i id off hv
  split at e
  ·rename_i l u h2 h3
   cases hb : (Nat.ble l u && Nat.ble u n) with
   | false => rw [hb] at e; cases e
   | true =>
    rw [hb, cond_true] at e
    simp only [Bool.and_eq_true] at hb
    have c1 := Nat.le_of_ble_eq_true hb.1
    have c2 := Nat.le_of_ble_eq_true hb.2
    obtain ⟨vs, hg, e⟩ := cellsAt_some e
    cases hb2 : Nat.ble (Nat.add off (Nat.mul n esz)) (lenN vs) with
    | false => rw [hb2] at e; cases e
    | true =>
     rw [hb2, cond_true] at e
     have c3 : off + n * esz ≤ vs.length := by have := Nat.le_of_ble_eq_true hb2; rw [lenN_eq] at this; exact this
     simp only [forceNat_eq] at e
     refine ⟨_, h, e, did_pure hw fun β a w hr hop => ?_⟩
     have k1 := hop y (by simp [ho, Op.operands]) xy hy
     rw [hv] at k1; simp only [VR] at k1
     obtain ⟨L, hL, hu⟩ := k1
     obtain ⟨L', q1, _, cur, et, b1, b2, b3⟩ := hr.at_ id _ (view_cells hg)
     rw [hL] at q1; cases q1
     have hfit := b2.fit
     have d1 := opt_of (β := β) (a := a) hl (fun z hz q hq => hop z (by subst hz; simp [ho, Op.operands]) q hq) h2
     have d2 := opt_of (β := β) (a := a) hh (fun z hz q hq => hop z (by subst hz; simp [ho, Op.operands]) q hq) h3
     refine ⟨.slice (some (if n = l then ⟨L.blk, L.base + off, none⟩ else (⟨L.blk, L.base + off, none⟩ : Addr).add (l * esz))) (u - l) (n - l), ?_, ?_⟩
     ·have hlz : ((l : Nat) : Int) ≤ ((u : Nat) : Int) := by omega
      have huz : ((u : Nat) : Int) ≤ ((n : Nat) : Int) := by omega
      have hnu : ¬ n < u := by omega
      have hnl : ¬ u < l := by omega
      rcases d1 with ⟨rfl, rfl⟩ | ⟨z1, p1, rfl, e1⟩ <;> rcases d2 with ⟨rfl, rfl⟩ | ⟨z2, p2, rfl, e2⟩ <;>
       simp [execOp, ho, Instr.sliceAt, Instr.slice, Instr.sliceBounds, Instr.sliceBound, asIntOf, Instr.sureAddr, run_underlying ht, hu, szA_some hs, *]
     ·have hmul : l * esz + (n - l) * esz = n * esz := by rw [← Nat.add_mul]; congr 1; omega
      simp only [VR]
      by_cases hnl : n = l
      ·refine ⟨L, L.base + off, n - l, hL, by rw [if_pos hnl]; rfl, by show u - l ≤ n - l; omega, ?_, Or.inr ⟨by show u - l = 0; omega, by omega⟩, fun c hc => by cases hc; rfl⟩
       have : n - l = 0 := by omega
       rw [this]; simp; omega
      ·refine ⟨L, L.base + off + l * esz, n - l, hL, by rw [if_neg hnl, add_lit]; rfl, by show u - l ≤ n - l; omega, by omega, Or.inl (by show L.base + off + l * esz = L.base + (off + l * esz); omega), fun c hc => by cases hc; rfl⟩
  ·cases e
 ·cases e
def isCap (o : Oper) (y : Operand) (t : TypeId) : Prop := o.op = .call { callee := .builtin .cap, args := #[y], argTypes := #[t] }
theorem cap_run {y : Operand} {t : TypeId} (ho : isCap o y t) (a : Act) (w : World) {u : Value} (hr : (Builtin.cap_ #[t] o.type #[a.eval y]).run P w = .ok u w) : (execOp a.eval o).run P w = .ok (.value u) w := by
 unfold isCap at ho
 simp [execOp, ho, resolve, invoke, builtin, hr]
theorem op_cap {y : Operand} {x : XV} {t e0 : TypeId} (ho : isCap o y t) (hx : cV y = some x) (ht : P.underlying t = some (.slice e0)) (hw : WF h) (e : oCap x c call sl h k = some r) : Says P ng o c sl h k r := by
 have hm : y ∈ o.op.operands.toList := by unfold isCap at ho; simp [ho, Op.operands, Call.operands]
 unfold oCap at e
 split at e
 ·rename_i hv
  refine ⟨_, h, e, did_pure hw fun β a w hr hop => ?_⟩
  have h1 := hop y hm x hx
  rw [hv] at h1; simp only [VR] at h1
  exact ⟨.int .i64 (0 : Nat), cap_run ho a w (by simp [Builtin.cap_, h1, run_underlying ht, goInt]), by simp [VR]⟩
 ·rename_i id off n es cp hv
  refine ⟨_, h, e, did_pure hw fun β a w hr hop => ?_⟩
  have h1 := hop y hm x hx
  rw [hv] at h1; simp only [VR] at h1
  obtain ⟨L, oo, cp', hL, hu, _, _, _, hc⟩ := h1
  have := hc cp rfl
  subst this
  exact ⟨.int .i64 (cp' : Nat), cap_run ho a w (by simp [Builtin.cap_, hu, run_underlying ht, goInt]), by simp [VR]⟩
 ·cases e
theorem op_mkfnB {f : Nat} {fs ys : Array Operand} {xfs xs : List XV} (ho : o.op = .makeFunc (.func f) fs ys) (hf : fs.toList.mapM cV = some xfs) (hx : ys.toList.mapM cV = some xs) (hw : WF h) (e : oMkfnB f xfs xs c call sl h k = some r) : Says P ng o c sl h k r := by
 unfold oMkfnB at e
 rw [evVs_eq, evVs_eq] at e
 refine ⟨_, h, e, did_pure hw fun β a w hr hop => ?_⟩
 refine ⟨.func (.func f) (fs.map a.eval) (ys.map a.eval), by simp [execOp, ho, Instr.makeFunc], ?_⟩
 simp only [VR]
 refine ⟨_, _, rfl, ?_, ?_⟩
 ·have := mapM_cV (sl := sl) (β := β) (a := a) fs.toList xfs hf fun y hy => hop y (by simp [ho, Op.operands]; left; simpa using hy)
  simpa using this
 ·have := mapM_cV (sl := sl) (β := β) (a := a) ys.toList xs hx fun y hy => hop y (by simp [ho, Op.operands]; right; simpa using hy)
  simpa using this
theorem zeros_vr {β : Bet} {zz : AV} {zv : Value} (hcv : VRs β zz.cells zv.cells.toList) (n : Nat) : VRs β (List.replicate n zz.cells).flatten (Builtin.zeroCells zv.cells n).toList := by
 have hzl : zz.cells.length = zv.cells.size := by have := hcv.length; simpa using this
 refine VRs.of ?_ fun m v u h1 h2 => ?_
 ·simp [hzl, size_zeroCells]
 ·have hm : m < n * zv.cells.size := by
   have := (List.getElem?_eq_some_iff.1 h1).1
   simpa [hzl] using this
  have hpos : 0 < zv.cells.size := by
   rcases Nat.eq_zero_or_pos zv.cells.size with q | q
   ·rw [q] at hm; simp at hm
   ·exact q
  have hmod : m % zv.cells.size < zv.cells.size := Nat.mod_lt _ hpos
  have e1 : (List.replicate n zz.cells).flatten[m]? = zz.cells[m % zv.cells.size]? := by
   rw [← hzl]
   have key : ∀ (n m : Nat) (l : List AV), m < n * l.length → (List.replicate n l).flatten[m]? = l[m % l.length]? := by
    intro n
    induction n with
    | zero => intro m l hm; simp at hm
    | succ n ih =>
     intro m l hm
     rw [List.replicate_succ, List.flatten_cons]
     by_cases q : m < l.length
     ·rw [List.getElem?_append_left q, Nat.mod_eq_of_lt q]
     ·rw [List.getElem?_append_right (by omega), ih (m - l.length) l (by rw [Nat.succ_mul] at hm; omega)]
      congr 1
      have : m = (m - l.length) + l.length := by omega
      rw [this, Nat.add_mod_right]
      congr 1
      omega
   exact key n m zz.cells (by rw [hzl]; exact hm)
  have e2 : (Builtin.zeroCells zv.cells n).toList[m]? = some (zv.cells[m % zv.cells.size]'hmod) := by
   simp [Builtin.zeroCells, hm, hmod]
  rw [e1] at h1
  rw [e2] at h2
  cases h2
  obtain ⟨u', u1, u2⟩ := hcv.get h1
  have : zv.cells.toList[m % zv.cells.size]? = some (zv.cells[m % zv.cells.size]'hmod) := by simp [hmod]
  rw [this] at u1
  cases u1
  exact u2
def isClr (o : Oper) (y : Operand) (t : TypeId) : Prop := o.op = .call { callee := .builtin .clear, args := #[y], argTypes := #[t] }
theorem clr_run {y : Operand} {t : TypeId} (ho : isClr o y t) (a : Act) (w : World) {u : Value} {w' : World} (hr : (Builtin.clear_ #[t] o.type #[a.eval y]).run P w = .ok u w') : (execOp a.eval o).run P w = .ok (.value u) w' := by
 unfold isClr at ho
 simp [execOp, ho, resolve, invoke, builtin, hr]
theorem op_clear {y : Operand} {t e0 : TypeId} {s : Nat} {zz : AV} {xy : XV} (ho : isClr o y t) (ht : P.underlying t = some (.slice e0)) (ha : appOk P e0 = some s) (hzz : zeroA P e0 = some zz) (hy : cV y = some xy) (hw : WF h)
  (e : oClear s zz.cells xy c call sl h k = some r) : Says P ng o c sl h k r := by
 obtain ⟨i, zv, i1, i2, i3, i4, rfl⟩ := appOk_some ha
 obtain ⟨i', zv', j1, j2, j3⟩ := zeroA_some hzz
 rw [i1] at j1; cases j1
 rw [i2] at j2; cases j2
 have hzl : zz.cells.length = i.size := by have := ((j3 (fun _ => none)).cells (zeroA_ne hzz)).length; simpa [i3] using this
 have hm : y ∈ o.op.operands.toList := by unfold isClr at ho; simp [ho, Op.operands, Call.operands]
 unfold oClear at e
 split at e
 ·rename_i hv
  refine ⟨_, h, e, did_pure hw fun β a w hr hop => ?_⟩
  have k1 := hop y hm xy hy
  rw [hv] at k1; simp only [VR] at k1
  exact ⟨.tuple #[], clr_run ho a w (by simp [Builtin.clear_, k1, run_underlying ht]), by simp [VR, VRs]⟩
 ·rename_i id off n es cap hv
  cases hb : Nat.beq es i.size with
  | false => rw [hb] at e; cases e
  | true =>
   rw [hb] at e
   have c1 : es = i.size := Nat.eq_of_beq_eq_true hb
   subst c1
   simp only [cond] at e
   cases hq : Nat.beq n 0 with
   | true =>
    rw [hq] at e
    have hq' : n = 0 := Nat.eq_of_beq_eq_true hq
    subst hq'
    refine ⟨_, h, e, did_pure hw fun β a w hr hop => ?_⟩
    have k1 := hop y hm xy hy
    rw [hv] at k1; simp only [VR] at k1
    obtain ⟨L, oo, cp, hL, hu, _⟩ := k1
    exact ⟨.tuple #[], clr_run ho a w (by simp [Builtin.clear_, hu, run_underlying ht]), by simp [VR, VRs]⟩
   | false =>
    rw [hq] at e
    simp only [repK_eq] at e
    have hq' : n ≠ 0 := fun q => by rw [q] at hq; simp at hq
    cases hon : ones (List.replicate n zz.cells).flatten with
    | false => rw [hon] at e; cases e
    | true =>
     rw [hon] at e
     simp only at e
     obtain ⟨vs, hg, e⟩ := cellsAt_some e
     obtain ⟨d3, e⟩ := spliceK_some e
     obtain ⟨hf, hsn, e⟩ := setB_some e
     obtain ⟨g1, g2⟩ := getB_get hg
     have hid : id < 10000000 := Nat.lt_of_lt_of_le (lt_of_get hw g1) hw.small
     refine ⟨_, _, e, step_set hw g1 hf g2, fun β a w hgb hr hop hfr K Q hK => ?_⟩
     have k1 := hop y hm xy hy
     rw [hv] at k1
     simp only [VR] at k1
     obtain ⟨L, oo, cp, hL, hu, hle, hsz, hoo, hcap⟩ := k1
     have ho1 : oo = L.base + off := by
      rcases hoo with q | ⟨q, _⟩
      ·exact q
      ·exact absurd q hq'
     subst ho1
     obtain ⟨LL, p1, p2, p3⟩ := hr.at_ id _ (view_cells hg)
     rw [hL] at p1; cases p1
     have s1 := zeros_vr ((j3 β).cells (zeroA_ne hzz)) n
     generalize hcs : (Builtin.zeroCells zv.cells n).toList = cs at s1
     have hcl : cs.length = (List.replicate n zz.cells).flatten.length := s1.length.symm
     have hst : (storeCells ⟨L.blk, L.base + off, none⟩ cs).run P w = .ok () (w.setCells L.blk (L.base + off) cs) := by
      obtain ⟨cur, et, b1, b2, b3⟩ := p3
      have := run_storeCells_cells (P := P) L.blk (L.base + off) cs 0 w (fun j hj => by
        have hj' : off + j < vs.length := by omega
        have e1 : vs[off + j]? = some (vs[off + j]'hj') := by simp
        obtain ⟨u, q1, _⟩ := b3 _ _ e1
        simp [World.cell?, b1, Nat.add_assoc, q1]) (fun j hj => by unfold World.frozen?; simp only [b1]; exact b2.nf _ (by omega) (by have hft := b2.fit; omega)) (ones_of s1 hon)
      simpa using this
     have hrun : (Builtin.clear_ #[t] o.type #[a.eval y]).run P w = .ok (.tuple #[]) (w.setCells L.blk (L.base + off) cs) := by
      obtain ⟨n', rfl⟩ : ∃ n', n = n' + 1 := ⟨n - 1, by omega⟩
      rw [hu]
      simp [Builtin.clear_, run_underlying ht, zeroValue, run_typeInfo w i1, i2, hcs, hst]
     unfold Oper.wp
     rw [clr_run ho a w hrun]
     obtain ⟨r1, r2, r3, r4⟩ := setCells_rest L.blk cs (L.base + off) w
     refine hK β _ _ (post_write hr (view_cells hg) hL hf (fun B hB => setCells_other L.blk B hB _ _ _) r1 r2 r3 r4 ?_ (fun j d ej => view_set hid ej)) (by simp [VR, VRs])
     rcases br_splice p3 s1 d3 with h5 | h5
     ·exact h5.1
     ·have e2 : cs = [] := by rw [← List.length_eq_zero_iff, hcl, h5]; rfl
      rw [h5, e2]
      simpa [World.setCells] using p3
 ·cases e
theorem op_appendZ {y z : Operand} {t t2 e0 : TypeId} {q : IntKind} {s : Nat} {zz : AV} {xy xz : XV} (ho : isApp o y z t t2) (ht : P.underlying t = some (.slice e0)) (ht2 : P.underlying t2 = some (.int q)) (ha : appOk P e0 = some s) (hzz : zeroA P e0 = some zz) (hy : cV y = some xy) (hz : cV z = some xz) (hw : WF h)
  (e : oAppendZ s zz.cells xy xz c call sl h k = some r) : Says P ng o c sl h k r := by
 obtain ⟨i, zv, i1, i2, i3, i4, rfl⟩ := appOk_some ha
 obtain ⟨i', zv', j1, j2, j3⟩ := zeroA_some hzz
 rw [i1] at j1; cases j1
 rw [i2] at j2; cases j2
 have hzl : zz.cells.length = i.size := by have := ((j3 (fun _ => none)).cells (zeroA_ne hzz)).length; simpa [i3] using this
 obtain ⟨oy, oz⟩ := isApp_ops ho
 unfold oAppendZ at e
 split at e
 ·rename_i n hv1 hv2
  cases hb : (Nat.blt 0 i.size && (Nat.blt 0 n && Nat.blt n 1000000)) with
  | false => rw [hb] at e; cases e
  | true =>
   rw [hb] at e
   simp only [Bool.and_eq_true, Nat.blt_eq] at hb
   obtain ⟨hsp, hn0, hn1⟩ := hb
   simp only [cond, repK_eq] at e
   obtain ⟨hlt, e⟩ := newB_some e
   refine ⟨_, _, e, step_new hw hlt, fun β a w hgb hr hop hfr K Q hK => ?_⟩
   have hn := hfr h.n (Nat.le_refl _) (by simp)
   have k1 := hop y oy xy hy
   have k2 := hop z oz xz hz
   rw [hv1] at k1; rw [hv2] at k2
   simp only [VR] at k1 k2
   have hnv : VRs β (List.replicate n zz.cells).flatten (Builtin.zeroCells zv.cells n).toList := zeros_vr ((j3 β).cells (zeroA_ne hzz)) n
   have hfit : Builtin.nextslicecap (0 + n) 0 * i.bytes ≤ 281474976710656 := by
    have := nextslicecap_le (need := 0 + n) (old := 0) (by omega)
    calc Builtin.nextslicecap (0 + n) 0 * i.bytes ≤ (2 * (0 + n)) * 1000000 := Nat.mul_le_mul this i4
     _ ≤ 281474976710656 := by omega
   have hfit' : ¬ (281474976710656 < Builtin.nextslicecap n 0 * i.bytes) := by rw [Nat.zero_add] at hfit; omega
   have hby : ¬ (281474976710656 < (n : Int) * (i.bytes : Int)) := by
    have : n * i.bytes ≤ 1000000 * 1000000 := Nat.mul_le_mul (by omega) i4
    have h3 : ((n * i.bytes : Nat) : Int) ≤ ((1000000 * 1000000 : Nat) : Int) := Int.ofNat_le.2 this
    rw [Int.natCast_mul] at h3
    omega
   have hwr : IntKind.wrap .i64 (n : Int) = (n : Int) := by
    unfold IntKind.wrap
    simp [IntKind.bits, IntKind.signed]
    omega
   have hn2 : ¬ (n ≤ 0) := by omega
   have hn3 : ¬ ((n : Int) < 0) := by omega
   have hn4 : ¬ (n = 0) := by omega
   have hn5 : ¬ (9223372036854775807 < (n : Int)) := by omega
   have hge := grownCap_ge w n 0 e0
   have hsz : ¬ (n * i.size = 0) ∨ n * i.size = 0 := by omega
   have hrun0 : (Builtin.append_ #[t, t2] o.type #[.slice none 0 0, .int .i64 (n : Int)]).run P w = .ok (.slice (some ⟨w.heap.size, 0, none⟩) n (grownCap w n 0 e0)) (w.drew.alloc (.cells (Builtin.zeroCells zv.cells n ++ Builtin.zeroCells zv.cells (grownCap w n 0 e0 - n)) e0)) := by
    have q0 : 0 < n * i.size := Nat.mul_pos hn0 hsp
    have hq : ¬ (n * i.size = 0) := by omega
    have hq1 : ¬ (i.size = 0) := by omega
    simp [Builtin.append_, run_underlying ht, run_underlying ht2, sizeOf, typeInfo, zeroValue, i1, i2, asInt, asIntOf, hwr, hn2, hn3, hby, hn5, hfit', Question.forced, Builtin.firstCells, newRow, grownCap, hq, hq1, hn4]
   have hp := post_grown (c := c) (f := c.floor) (e := e0) (rest := Builtin.zeroCells zv.cells (grownCap w n 0 e0 - n)) hr hlt hn hnv
   rw [Array.toArray_toList] at hp
   unfold Oper.wp
   rw [app_run ho a w (by rw [k1, k2]; exact hrun0)]
   refine hK _ _ _ hp ?_
   simp only [VR]
   refine ⟨_, 0, _, upd_same _ _ _, rfl, hge, ?_, Or.inl rfl, fun d hd => by cases hd⟩
   simp only [size_zeroCells, Array.length_toList]
   rw [i3, Nat.zero_add, ← Nat.add_mul]
   apply Nat.mul_le_mul_right
   omega
 ·cases e
/-! entries -/
theorem er_key {β : Bet} : ∀ {es : List (AV × AV × Nat)} {ces : List MapEntry} {i : Nat} {key : Value}, ER β es ces → (∀ e, es[i]? = some e → VR β e.1 key) → ER β es (ces.modify i fun e => { e with key := key })
 | [], ces, i, key, he, hk => by
  have : ces = [] := he
  subst this
  cases i <;> exact rfl
 | x :: xs, ces, i, key, he, hk => by
  obtain ⟨ce, ces', rfl, h1, h2, h3, h4⟩ := he
  cases i with
  | zero => exact ⟨_, _, rfl, hk x rfl, h2, h3, h4⟩
  | succ i => exact ⟨ce, ces'.modify i fun e => { e with key := key }, by simp [List.modify_succ_cons], h1, h2, h3, er_key (i := i) h4 fun e he => hk e (by simpa using he)⟩
theorem er_at {β : Bet} : ∀ {es : List (AV × AV × Nat)} {ces : List MapEntry} {j : Nat} {e : AV × AV × Nat} {ce : MapEntry}, ER β es ces → es[j]? = some e → ces[j]? = some ce → VR β e.1 ce.key ∧ VR β e.2.1 ce.val ∧ ce.born = e.2.2
 | [], ces, j, e, ce, he, h1, h2 => by simp at h1
 | x :: xs, ces, j, e, ce, he, h1, h2 => by
  obtain ⟨y, ys, rfl, p1, p2, p3, p4⟩ := he
  cases j with
  | zero => simp at h1 h2; subst h1 h2; exact ⟨p1, p2, p3⟩
  | succ j => exact er_at p4 (by simpa using h1) (by simpa using h2)
theorem setV_some {q : Tr AV × H} {v : AV} : ∀ {i : Nat} {es : List (AV × AV × Nat)} {f : List (AV × AV × Nat) → Out}, setV v i es f = some q → ∃ es', f es' = some q ∧ ∀ β (ces : List MapEntry) (u : Value), ER β es ces → VR β v u → ER β es' (ces.modify i fun e => { e with val := u })
 | i, [], f, e => by cases i <;> cases e
 | 0, e0 :: es, f, e => ⟨_, e, fun β ces u he hv => by
   obtain ⟨ce, ces', rfl, h1, h2, h3, h4⟩ := he
   exact ⟨_, _, rfl, h1, hv, h3, h4⟩⟩
 | i + 1, e0 :: es, f, e => by
  obtain ⟨es', h1, h2⟩ := setV_some (i := i) (es := es) (f := fun es => f (e0 :: es)) e
  refine ⟨e0 :: es', h1, fun β ces u he hv => ?_⟩
  obtain ⟨ce, ces', rfl, k1, k2, k3, k4⟩ := he
  exact ⟨ce, _, by simp [List.modify_succ_cons], k1, k2, k3, h2 β ces' u k4 hv⟩
theorem bornIdx_some {β : Bet} {b : Nat} : ∀ {es : List (AV × AV × Nat)} {ces : List MapEntry} {k i : Nat}, ER β es ces → bornIdx b es k = some i → ∃ j, i = k + j ∧ ces.findIdx? (fun e => (e.born : Int) == (b : Int)) = some j
 | [], ces, k, i, he, e => by simp [bornIdx] at e
 | x :: xs, ces, k, i, he, e => by
  obtain ⟨ce, ces', rfl, h1, h2, h3, h4⟩ := he
  unfold bornIdx at e
  cases hb : Nat.beq x.2.2 b with
  | true =>
   rw [hb] at e
   simp only [cond, Option.some.injEq] at e
   have := Nat.eq_of_beq_eq_true hb
   refine ⟨0, by omega, ?_⟩
   rw [List.findIdx?_cons]
   simp [h3, this]
  | false =>
   rw [hb] at e
   simp only [cond] at e
   obtain ⟨j, q1, q2⟩ := bornIdx_some (k := Nat.succ k) h4 e
   refine ⟨j + 1, by omega, ?_⟩
   have hne : ¬ (x.2.2 = b) := fun q => by rw [q] at hb; simp at hb
   have hne' : ¬ ((x.2.2 : Int) = (b : Int)) := by omega
   rw [List.findIdx?_cons, q2]
   simp [h3, hne']
theorem wr_map {id : Nat} {es : List (AV × AV × Nat)} {clock : Nat} {b : AB} {v : AV} (hg : getB c h id = some (.map es clock)) (hw : WF h) (hf : c.floor ≤ id) (hb : ∀ β (a : Act) (w : World), HR c.floor β (view c h) w → OpsR β sl a o.op.operands.toList → ∃ L ces clock' u nx, β id = some L ∧ (∃ ob, w.heap[L.blk]? = some ob) ∧ (nx = .value u ∨ (nx = .skip ∧ u = undef)) ∧ (execOp a.eval o).run P w = .ok nx { w with heap := w.heap.setIfInBounds L.blk (.map ces clock') } ∧ VR β v u ∧ ∃ es', b = .map es' clock' ∧ ER β es' ces.toList) :
  Did P ng o c sl h v ⟨Tr.set depth h.t id b, h.n⟩ := by
 obtain ⟨g1, g2⟩ := getB_get hg
 have hid : id < 10000000 := Nat.lt_of_lt_of_le (lt_of_get hw g1) hw.small
 refine ⟨step_set hw g1 hf g2, fun β a w hgb hr hop hfr K Q hK => ?_⟩
 obtain ⟨L, ces, clock', u, nx, b1, ⟨ob, b2⟩, bn, b3, bv, es', rfl, b5⟩ := hb β a w hr hop
 unfold Oper.wp
 rw [b3]
 have hs := MapKept.heap_set (o' := Obj.map ces clock') b2
 rcases bn with rfl | ⟨rfl, rfl⟩
 ·exact hK β u _ (post_write (b := .map es' clock') hr (view_map hg) b1 hf (fun B hB => hs.2 B hB) (by simp) rfl rfl rfl ⟨ces, hs.1, b5⟩ (fun j d e => view_set hid e)) bv
 ·exact hK β undef _ (post_write (b := .map es' clock') hr (view_map hg) b1 hf (fun B hB => hs.2 B hB) (by simp) rfl rfl rfl ⟨ces, hs.1, b5⟩ (fun j d e => view_set hid e)) bv
theorem op_mapentry {t q e0 : TypeId} {y z : Operand} {xy xz : XV} {eq : EqF} {zz : AV} (ho : o.op = .mapEntry t y z) (ht : P.underlying t = some (.map q e0)) (heq : KeyOk P q eq) (hzz : zeroA P e0 = some zz) (hy : cV y = some xy) (hz : cV z = some xz) (hw : WF h)
  (e : oMapEntry eq zz xy xz c call sl h k = some r) : Says P ng o c sl h k r := by
 obtain ⟨ti, zv, i1, i2, i3⟩ := zeroA_some hzz
 unfold oMapEntry at e
 obtain ⟨hfit, e⟩ := fitK_some e
 split at e
 ·rename_i id hv
  split at e
  ·rename_i es clock hg
   have body : ∀ β (a : Act) (w : World), HR c.floor β (view c h) w → OpsR β sl a o.op.operands.toList → ∃ L ces, β id = some L ∧ a.eval y = .map (some L.blk) ∧ w.heap[L.blk]? = some (.map ces clock) ∧ ER β es ces.toList ∧ VR β (evV sl xz) (a.eval z) := fun β a w hr hop => by
    have a1 := hop y (by simp [ho, Op.operands]) xy hy
    rw [hv] at a1; simp only [VR] at a1
    obtain ⟨L, hL, hu⟩ := a1
    obtain ⟨L', q1, _, ces, q2, q3⟩ := hr.at_ id _ (view_map hg)
    rw [hL] at q1; cases q1
    exact ⟨L, ces, hL, hu, q2, q3, hop z (by simp [ho, Op.operands]) xz hz⟩
   split at e
   ·rename_i j v1 hf
    split at e
    ·rename_i e1 hn1
     rw [nth_eq] at hn1
     obtain ⟨hfl, _, e⟩ := setB_some e
     refine ⟨_, _, e, wr_map hg hw hfl fun β a w hr hop => ?_⟩
     obtain ⟨L, ces, b1, b2, b3, b4, b5⟩ := body β a w hr hop
     rcases heq.find β _ _ b5 es ces.toList _ hf b4 w with ⟨q1, _⟩ | ⟨j', v', cv, e', ce', q1, q2, q3, q4, q5, q6, q7, q8⟩
     ·cases q1
     ·simp only [Option.some.injEq, Prod.mk.injEq] at q1
      obtain ⟨rfl, rfl⟩ := q1
      rw [q4] at hn1; cases hn1
      obtain ⟨hkey, hval, hborn⟩ := er_at b4 q4 q5
      obtain ⟨s1, s2⟩ := heq.same β _ _ _ _ q6 b5 hkey
      have q5' : ces[j]? = some ce' := by simpa using q5
      have hstay : (Instr.keyThatStays ce'.key (a.eval z)).run P w = .ok (a.eval z) w := by rw [s1]; simp [Instr.keyThatStays, s2]
      refine ⟨L, ces.modify j fun e => { e with key := a.eval z }, clock, .tuple #[cv, goInt ce'.born], .value (.tuple #[cv, goInt ce'.born]), b1, ⟨_, b3⟩, Or.inl rfl, ?_, ?_, es, rfl, ?_⟩
      ·have hrun : (Instr.mapEntry t (.map (some L.blk)) (a.eval z)).run P w = .ok (.tuple #[cv, goInt ce'.born]) { w with heap := w.heap.setIfInBounds L.blk (.map (ces.modify j fun e => { e with key := a.eval z }) clock) } := by
        simp [Instr.mapEntry, run_underlying ht, get_map b3, heq.check β _ _ hfit b5, q2, q5', hstay, set_map _ b3]
       simp [execOp, ho, b2, hrun]
      ·simp only [VR, VRs]
       exact ⟨_, rfl, cv, [goInt ce'.born], rfl, q3, goInt ce'.born, [], rfl, by simp [goInt, hborn], rfl⟩
      ·rw [Array.toList_modify]
       exact er_key b4 fun e2 he2 => by rw [q4] at he2; cases he2; rw [← s1]; exact hkey
    ·cases e
   ·rename_i hf
    rw [appK_eq, forceNat_eq] at e
    obtain ⟨hfl, _, e⟩ := setB_some e
    refine ⟨_, _, e, wr_map hg hw hfl fun β a w hr hop => ?_⟩
    obtain ⟨L, ces, b1, b2, b3, b4, b5⟩ := body β a w hr hop
    rcases heq.find β _ _ b5 es ces.toList _ hf b4 w with ⟨_, q2⟩ | ⟨j', v', cv, e', ce', q1, _⟩
    ·refine ⟨L, ces.push { key := a.eval z, val := zv, born := clock }, clock + 1, .tuple #[zv, goInt clock], .value (.tuple #[zv, goInt clock]), b1, ⟨_, b3⟩, Or.inl rfl, ?_, ?_, _, rfl, ?_⟩
     ·have hrun : (Instr.mapEntry t (.map (some L.blk)) (a.eval z)).run P w = .ok (.tuple #[zv, goInt clock]) { w with heap := w.heap.setIfInBounds L.blk (.map (ces.push { key := a.eval z, val := zv, born := clock }) (clock + 1)) } := by
       simp [Instr.mapEntry, run_underlying ht, get_map b3, heq.check β _ _ hfit b5, q2, run_zero w i1 i2, set_map _ b3]
      simp [execOp, ho, b2, hrun]
     ·simp only [VR, VRs]
      exact ⟨_, rfl, zv, [goInt clock], rfl, i3 β, goInt clock, [], rfl, by simp [goInt], rfl⟩
     ·rw [Array.toList_push]
      exact b4.append ⟨_, [], rfl, b5, i3 β, rfl, rfl⟩
    ·cases q1
   ·cases e
  ·cases e
 ·cases e
theorem op_entrystore {t : TypeId} {y z v : Operand} {xy xz xv : XV} (ho : o.op = .entryStore t y z v) (hy : cV y = some xy) (hz : cV z = some xz) (hv0 : cV v = some xv) (hw : WF h) (e : oEntryStore xy xz xv c call sl h k = some r) : Says P ng o c sl h k r := by
 unfold oEntryStore at e
 split at e
 ·rename_i id q b hv1 hv2
  split at e
  ·rename_i es clock hg
   split at e
   ·rename_i i hi
    obtain ⟨es', e, h1⟩ := setV_some e
    obtain ⟨hfl, _, e⟩ := setB_some e
    refine ⟨_, _, e, wr_map hg hw hfl fun β a w hr hop => ?_⟩
    have a1 := hop y (by simp [ho, Op.operands]) xy hy
    have a2 := hop z (by simp [ho, Op.operands]) xz hz
    have a3 := hop v (by simp [ho, Op.operands]) xv hv0
    rw [hv1] at a1; rw [hv2] at a2; simp only [VR] at a1 a2
    obtain ⟨L, hL, hu⟩ := a1
    obtain ⟨L', q1, _, ces, q2, q3⟩ := hr.at_ id _ (view_map hg)
    rw [hL] at q1; cases q1
    obtain ⟨j, p1, p2⟩ := bornIdx_some q3 hi
    rw [Nat.zero_add] at p1
    subst p1
    have p2' : ces.findIdx? (fun e => (e.born : Int) == (b : Int)) = some i := by
     obtain ⟨l⟩ := ces
     simpa using p2
    refine ⟨L, ces.modify i fun e => { e with val := a.eval v }, clock, undef, .skip, hL, ⟨_, q2⟩, Or.inr ⟨rfl, rfl⟩, ?_, vr_undef, es', rfl, ?_⟩
    ·have a2' : a.eval z = .int q (b : Int) := a2
     have hrun : (Instr.entryStore t (.map (some L.blk)) (.int q (b : Int)) (a.eval v)).run P w = .ok () { w with heap := w.heap.setIfInBounds L.blk (.map (ces.modify i fun e => { e with val := a.eval v }) clock) } := by
      simp [Instr.entryStore, get_map q2, asInt, asIntOf, p2', set_map _ q2]
     simp [execOp, ho, hu, a2', hrun]
    ·rw [Array.toList_modify]; exact h1 β ces.toList (a.eval v) q3 a3
   ·cases e
  ·cases e
 ·cases e
end
end Go.Proofs.YtmdceifbbmnfgaaGreatDoor.Ev
