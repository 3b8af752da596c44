/- Soundness of the operations: append. -/
import Derived.Test.YtfoahdpnalbbgaaGreatDoorEvI
import Derived.Deep.AppendSrc
set_option linter.unusedVariables false
set_option linter.unusedSimpArgs false
namespace Go.Proofs.YtfoahdpnalbbgaaGreatDoor.Ev
open Go
section
variable {P : Program} {ng : Nat} {o : Oper} {c : C} {sl : Tr AV} {h : H}
theorem cellsAt_some {id : Nat} {k : List AV → Out} {r : Tr AV × H} (e : cellsAt c h id k = some r) : ∃ vs, getB c h id = some (.cells vs) ∧ k vs = some r := by
  unfold cellsAt at e
  split at e
  · exact ⟨_, by assumption, e⟩
  · cases e
/-- what is appended -/
theorem srcK_some {esz : Nat} {x : AV} {k : Nat → List AV → Out} {r : Tr AV × H} (e : srcK c h esz x k = some r) :
    ∃ n news, k n news = some r ∧ news.length = n * esz ∧ ∀ (t2 e' : TypeId), P.underlying t2 = some (.slice e') → ∀ β w u, HR β (view c h) w → VR β x u → ones news = true → ∃ cs, Src P esz t2 u n cs w ∧ VRs β news cs := by
  unfold srcK at e
  split at e
  · refine ⟨0, [], e, by simp, fun t2 e' ht β w u hr hv _ => ?_⟩
    simp only [VR] at hv
    subst hv
    exact ⟨[], Src.ofNil w ht 0, by simp [VRs]⟩
  · rename_i id off n es cap
    cases hb : Nat.beq es esz with
    | false => rw [hb] at e; cases e
    | true =>
      rw [hb] at e
      simp only [cond] at e
      obtain ⟨vs, hg, e⟩ := cellsAt_some e
      obtain ⟨h1, e⟩ := dropK_some e
      obtain ⟨h2, e⟩ := takeK_some e
      have hl : ((vs.drop off).take (Nat.mul n esz)).length = n * esz := by
        rw [List.length_take]; exact Nat.min_eq_left h2
      refine ⟨n, _, e, hl, fun t2 e' ht β w u hr hv ho => ?_⟩
      simp only [VR] at hv
      obtain ⟨L, oo, cp, hL, hu, hle, hsz, hoo, hcap⟩ := hv
      obtain ⟨L', h3, _, h4⟩ := hr.at_ id _ (view_cells hg)
      rw [hL] at h3; cases h3
      have hn2 : off + n * esz ≤ vs.length := by
        have : n * esz ≤ (vs.drop off).length := h2
        simp at this; omega
      obtain ⟨cs, k1, k2⟩ := part_of_br h4 hn2
      refine ⟨cs, ?_, k1⟩
      subst hu
      refine Src.ofSlice w ht _ n cp cs (by rw [← k1.length]; exact hl) (fun j u hj => ?_) (ones_of k1 ho)
      rcases hoo with rfl | ⟨z1, z2⟩
      · exact k2 j u hj
      · have : cs = [] := by rw [← List.length_eq_zero_iff, ← k1.length]; simp; left; rw [z1]; simp
        subst this; simp at hj
  · cases e
/-- the row that append makes -/
theorem post_grown {f : Nat} {β : Bet} {w : World} {vs : List AV} {cs : List Value} {e : TypeId} {rest : Array Value} (hr : HR β (view c h) w) (hlt : h.n < 10000000) (hn : β h.n = none) (hv : VRs β vs cs) :
    Post f h.n (h.n + 1) β (view c h) w (upd β h.n ⟨w.heap.size, 0, cs.length + rest.size⟩) (view c ⟨Tr.set depth h.t h.n (.cells vs), h.n + 1⟩) (w.drew.alloc (.cells (cs.toArray ++ rest) e)) := by
  refine post_alloc hr hn rfl (fun B hB => ?_) ?_ rfl rfl rfl ?_ (fun id d e => view_new hlt e)
  · show (w.heap.push _)[B]? = _
    simp [Array.getElem?_push, Nat.ne_of_lt hB]
  · show (w.heap.push _).size = _
    simp
  · refine ⟨cs.toArray ++ rest, e, ?_, by simp, fun i v hi => ?_⟩
    · show (w.heap.push _)[w.heap.size]? = _
      simp
    · obtain ⟨u, h1, h2⟩ := hv.get hi
      have hlt' := (List.getElem?_eq_some_iff.1 h1).1
      refine ⟨u, ?_, VR.mono (upd_sub _ hn) _ _ h2⟩
      rw [Nat.zero_add, Array.getElem?_append_left (by simpa using hlt')]
      simpa using h1
def isApp (o : Oper) (y z : Operand) (t t2 : TypeId) : Prop := o.op = .call { callee := .builtin .append, args := #[y, z], argTypes := #[t, t2] }
theorem app_run {y z : Operand} {t t2 : TypeId} (ho : isApp o y z t t2) (a : Act) (w : World) {u : Value} {w' : World} (hr : (Builtin.append_ #[t, t2] o.type #[a.eval y, a.eval z]).run P w = .ok u w') : (execOp a.eval o).run P w = .ok (.value u) w' := by
  unfold isApp at ho
  simp [execOp, ho, resolve, invoke, builtin, hr]
/-- append makes a new row -/
theorem app_grow {f : Nat} {β : Bet} {a : Act} {w : World} {y z : Operand} {t t2 e : TypeId} {i : TypeInfo} {zv : Value} {esz n m cp : Nat} {base : Option Addr} {ovs news : List AV} {olds cs : List Value} (ho : isApp o y z t t2) (ht : P.underlying t = some (.slice e)) (hi : P.info? e = some i) (hz : i.zero = some zv)
    (hsz : i.size = esz) (hzs : zv.cells.size = esz) (hby : i.bytes ≤ 1000000) (hr : HR β (view c h) w) (hlt : h.n < 10000000) (hn : β h.n = none) (hy : a.eval y = .slice base m cp)
    (hold : (Builtin.firstCells i.size m (.slice base m cp)).run P w.drew = .ok olds.toArray w.drew) (hov : VRs β ovs olds) (hol : olds.length = m * esz) (hs : Src P esz t2 (a.eval z) n cs w) (hnv : VRs β news cs) (hg : cp < m + n) (hb : m + n ≤ 1000000) :
    ∃ val w' β', (execOp a.eval o).run P w = .ok (.value val) w' ∧ VR β' (.sl h.n 0 (m + n) esz none) val ∧ Post f h.n (h.n + 1) β (view c h) w β' (view c ⟨Tr.set depth h.t h.n (.cells (ovs ++ news)), h.n + 1⟩) w' := by
  have hfit : Builtin.nextslicecap (m + n) cp * i.bytes ≤ 281474976710656 := by
    have := nextslicecap_le hg
    calc Builtin.nextslicecap (m + n) cp * i.bytes ≤ (2 * (m + n)) * 1000000 := Nat.mul_le_mul this hby
      _ ≤ 281474976710656 := by omega
  subst hsz
  have hrun := run_append_grow_src (P := P) w t t2 o.type e i zv ht hi hz base m cp olds hold (a.eval z) n cs hs hg (by omega) hfit
  rw [← hy] at hrun
  have hp := post_grown (f := f) (e := e) (rest := Builtin.zeroCells zv.cells (grownCap w (m + n) cp e - (m + n))) hr hlt hn (hov.append hnv)
  refine ⟨_, _, _, app_run ho a w hrun, ?_, hp⟩
  have hge := grownCap_ge w (m + n) cp e
  simp only [VR]
  refine ⟨_, 0, _, upd_same _ _ _, rfl, hge, ?_, Or.inl rfl, fun d hd => by cases hd⟩
  have hnl := hs.newsLen
  simp only [List.length_append, size_zeroCells, hzs, hol, hnl, ← Nat.add_mul]
  rw [Nat.zero_add]
  apply Nat.mul_le_mul_right
  omega
/-- append writes behind the row's end -/
theorem app_room {f : Nat} {β : Bet} {a : Act} {w : World} {y z : Operand} {t t2 e : TypeId} {i : TypeInfo} {esz n m cp id oo off : Nat} {vs news : List AV} {cs : List Value} {L : Loc} (ho : isApp o y z t t2) (ht : P.underlying t = some (.slice e)) (hi : P.info? e = some i)
    (hsz : i.size = esz) (hw : WF h) (hr : HR β (view c h) w) (hlt : h.n < 10000000) (hn : β h.n = none) (hg : getB c h id = some (.cells vs)) (hL : β id = some L) (hf : f ≤ id) (hy : a.eval y = .slice (some ⟨L.blk, oo, none⟩) m cp)
    (hoo : oo = L.base + off) (hbd : oo + cp * esz ≤ L.size) (hov : off + m * esz ≤ vs.length) (hs : Src P esz t2 (a.eval z) n cs w) (hnv : VRs β news cs) (hroom : m + n ≤ cp) :
    ∃ val w' β', (execOp a.eval o).run P w = .ok (.value val) w' ∧ VR β' (.sl h.n 0 (m + n) esz none) val ∧
      Post f h.n (h.n + 1) β (view c h) w β' (view c ⟨Tr.set depth (Tr.set depth h.t id .dead) h.n (.cells ((vs.drop off).take (m * esz) ++ news)), h.n + 1⟩) w' := by
  subst hsz
  subst hoo
  obtain ⟨g1, g2⟩ := getB_get hg
  have hid := lt_of_get hw g1
  obtain ⟨L', h3, h4, hb⟩ := hr.at_ id _ (view_cells hg)
  rw [hL] at h3; cases h3
  obtain ⟨cur, et, b1, b2, b3⟩ := hb
  have hnl := hs.newsLen
  have hmul : m * i.size + n * i.size ≤ cp * i.size := by rw [← Nat.add_mul]; exact Nat.mul_le_mul_right _ hroom
  have hrun := run_append_room_src (P := P) w t t2 o.type e i ht hi L.blk (L.base + off) m cp (a.eval z) n cs hs hroom (fun j hj => by
      have : L.base + off + m * i.size + j < cur.size := by omega
      simp [World.cell?, b1, this]) (fun j hj => by simp [World.frozen?, b1])
  rw [← hy] at hrun
  obtain ⟨cur', c1, c2, c3, c4⟩ := setCells_block L.blk et (0, 0) cs (L.base + off + m * i.size) w cur b1 (by omega)
  obtain ⟨r1, r2, r3, r4⟩ := setCells_rest L.blk cs (L.base + off + m * i.size) w
  have hp : Post f h.n (h.n + 1) β (view c h) w (upd β h.n ⟨L.blk, L.base + off, L.size⟩) (view c ⟨Tr.set depth (Tr.set depth h.t id .dead) h.n (.cells ((vs.drop off).take (m * i.size) ++ news)), h.n + 1⟩) (w.setCells L.blk (L.base + off + m * i.size) cs) := by
    refine post_move (b := .cells ((vs.drop off).take (m * i.size) ++ news)) hr (view_cells hg) hL hf hn rfl (fun B hB => setCells_other L.blk B hB _ _ _) r1 r2 r3 r4 ?_ (fun j d ej => ?_)
    · refine ⟨cur', et, c1, c2.trans b2, fun k v hk => ?_⟩
      have e0 : ((vs.drop off).take (m * i.size)).length = m * i.size := by simp; omega
      by_cases x : k < m * i.size
      · rw [List.getElem?_append_left (by omega), List.getElem?_take_of_lt x, List.getElem?_drop] at hk
        obtain ⟨u, d1, d2⟩ := b3 _ v hk
        refine ⟨u, ?_, VR.mono (upd_sub _ hn) _ _ d2⟩
        rw [c3 _ (by simp; omega), ← d1, Nat.add_assoc]
      · rw [List.getElem?_append_right (by omega), e0] at hk
        obtain ⟨u, d1, d2⟩ := hnv.get hk
        refine ⟨u, ?_, VR.mono (upd_sub _ hn) _ _ d2⟩
        have := c4 (k - m * i.size) (List.getElem?_eq_some_iff.1 d1).1
        rw [← d1, ← this]; congr 1; simp; omega
    · have hlt2 : (⟨Tr.set depth h.t id .dead, h.n⟩ : H).n < 10000000 := hlt
      rcases view_new (h := ⟨Tr.set depth h.t id .dead, h.n⟩) hlt2 ej with ⟨q1, q2⟩ | ⟨q1, q2⟩
      · exact Or.inl ⟨q1, q2⟩
      · rcases view_set (h := h) (by omega) q2 with ⟨p1, p2⟩ | ⟨p1, p2⟩
        · subst p2
          have := view_get q2
          unfold view at q2
          rw [this] at q2; cases q2
        · exact Or.inr ⟨q1, p1, p2⟩
  refine ⟨_, _, _, app_run ho a w hrun, ?_, hp⟩
  simp only [VR]
  exact ⟨_, L.base + off, cp, upd_same _ _ _, rfl, hroom, hbd, Or.inl rfl, fun d hd => by cases hd⟩
end
end Go.Proofs.YtfoahdpnalbbgaaGreatDoor.Ev
