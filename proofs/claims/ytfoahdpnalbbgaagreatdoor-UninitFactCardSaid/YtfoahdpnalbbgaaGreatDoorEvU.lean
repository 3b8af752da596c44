/- Soundness of the operations: nil, conversions, slices, calls of len. -/
import Derived.Test.YtfoahdpnalbbgaaGreatDoorEvT
import Derived.Laws.BytesString
import Derived.Lib.Strings
set_option linter.unusedVariables false
set_option linter.unusedSimpArgs false
namespace Go.Proofs.YtfoahdpnalbbgaaGreatDoor.Ev
open Go
section
variable {P : Program} {ng : Nat} {o : Oper} {c : C} {call : Caller} {sl : Tr AV} {h : H} {k : Kont} {r : Tr AV × H}
def NegOp (op : BinOp) (neg : Bool) : Prop := (op = .eql ∧ neg = false) ∨ (op = .neq ∧ neg = true)
theorem did_nil {op : BinOp} {neg q : Bool} {t t' : TypeId} {y : Operand} {n : Value} {xy : XV} (ho : o.op = .binOp op t y (.const n) t') (hop : NegOp op neg) (hy : cV y = some xy) (hw : WF h)
    (hrun : ∀ β (w : World) u, VR β (evV sl xy) u → (∀ op' a a', (eqGuard op' t a a' u n).run P w = .ok () w) ∧ (binOp .eql t u n).run P w = .ok (.bool q) w ∧ (binOp .neq t u n).run P w = .ok (.bool (!q)) w) : Did P ng o c sl h (.bool (bne q neg)) h := by
  refine did_pure hw fun β a w hr hopr => ?_
  obtain ⟨h1, h2, h3⟩ := hrun β w (a.eval y) (hopr y (by simp [ho, Op.operands]) xy hy)
  have e : a.eval (.const n) = n := rfl
  rcases hop with ⟨rfl, rfl⟩ | ⟨rfl, rfl⟩
  · exact ⟨.bool q, by simp [execOp, ho, e, h1, h2], by cases q <;> simp [VR]⟩
  · exact ⟨.bool (!q), by simp [execOp, ho, e, h1, h3], by cases q <;> simp [VR]⟩
theorem nil_runs {t : TypeId} {u n : Value} {q : Bool} (w : World) (hg : ∀ op' a a', (eqGuard op' t a a' u n).run P w = .ok () w) (hin : ∀ d, (Op.equalIn (d + 1) t u n).run P w = .ok q w)
    (h1 : binOp .eql t u n = (do pure (.bool (← Op.equal t u n)))) (h2 : binOp .neq t u n = (do pure (.bool (!(← Op.equal t u n))))) :
    (∀ op' a a', (eqGuard op' t a a' u n).run P w = .ok () w) ∧ (binOp .eql t u n).run P w = .ok (.bool q) w ∧ (binOp .neq t u n).run P w = .ok (.bool (!q)) w := by
  have hin' : (Op.equal t u n).run P w = .ok q w := hin 9999
  exact ⟨hg, by rw [h1]; simp [hin'], by rw [h2]; simp [hin']⟩
theorem op_nilP {op : BinOp} {neg : Bool} {t t' e0 : TypeId} {y : Operand} {xy : XV} (ho : o.op = .binOp op t y (.const (.pointer none)) t') (hop : NegOp op neg) (ht : P.underlying t = some (.pointer e0)) (hy : cV y = some xy) (hw : WF h) (e : oNilP neg xy c call sl h k = some r) : Says P ng o c sl h k r := by
  unfold oNilP at e
  split at e
  · rename_i hv
    refine ⟨_, h, e, ?_⟩
    have := did_nil (P := P) (ng := ng) (c := c) (sl := sl) (q := true) ho hop hy hw fun β w u hu => by
      rw [hv] at hu; simp only [VR] at hu; subst hu
      exact nil_runs w (fun op' a a' => by cases op' <;> simp [eqGuard]) (fun d => by simp [Op.equalIn, run_underlying ht]) rfl rfl
    rcases hop with ⟨_, rfl⟩ | ⟨_, rfl⟩ <;> exact this
  · rename_i id off hv
    refine ⟨_, h, e, ?_⟩
    have := did_nil (P := P) (ng := ng) (c := c) (sl := sl) (q := false) ho hop hy hw fun β w u hu => by
      rw [hv] at hu; simp only [VR] at hu
      obtain ⟨L, _, rfl⟩ := hu
      exact nil_runs w (fun op' a a' => by cases op' <;> simp [eqGuard]) (fun d => by simp [Op.equalIn, run_underlying ht]) rfl rfl
    rcases hop with ⟨_, rfl⟩ | ⟨_, rfl⟩ <;> exact this
  · cases e
theorem op_nilS {op : BinOp} {neg : Bool} {t t' e0 : TypeId} {y : Operand} {xy : XV} (ho : o.op = .binOp op t y (.const (.slice none 0 0)) t') (hop : NegOp op neg) (ht : P.underlying t = some (.slice e0)) (hy : cV y = some xy) (hw : WF h) (e : oNilS neg xy c call sl h k = some r) : Says P ng o c sl h k r := by
  unfold oNilS at e
  split at e
  · rename_i hv
    refine ⟨_, h, e, ?_⟩
    have := did_nil (P := P) (ng := ng) (c := c) (sl := sl) (q := true) ho hop hy hw fun β w u hu => by
      rw [hv] at hu; simp only [VR] at hu; subst hu
      exact nil_runs w (fun op' a a' => by cases op' <;> simp [eqGuard]) (fun d => by simp [Op.equalIn, run_underlying ht]) rfl rfl
    rcases hop with ⟨_, rfl⟩ | ⟨_, rfl⟩ <;> exact this
  · rename_i hv
    refine ⟨_, h, e, ?_⟩
    have := did_nil (P := P) (ng := ng) (c := c) (sl := sl) (q := false) ho hop hy hw fun β w u hu => by
      rw [hv] at hu; simp only [VR] at hu
      obtain ⟨L, oo, cp, _, rfl, _⟩ := hu
      exact nil_runs w (fun op' a a' => by cases op' <;> simp [eqGuard]) (fun d => by simp [Op.equalIn, run_underlying ht]) rfl rfl
    rcases hop with ⟨_, rfl⟩ | ⟨_, rfl⟩ <;> exact this
  · cases e
theorem op_nilM {op : BinOp} {neg : Bool} {t t' e0 e1 : TypeId} {y : Operand} {xy : XV} (ho : o.op = .binOp op t y (.const (.map none)) t') (hop : NegOp op neg) (ht : P.underlying t = some (.map e0 e1)) (hy : cV y = some xy) (hw : WF h) (e : oNilM neg xy c call sl h k = some r) : Says P ng o c sl h k r := by
  unfold oNilM at e
  split at e
  · rename_i hv
    refine ⟨_, h, e, ?_⟩
    have := did_nil (P := P) (ng := ng) (c := c) (sl := sl) (q := true) ho hop hy hw fun β w u hu => by
      rw [hv] at hu; simp only [VR] at hu; subst hu
      exact nil_runs w (fun op' a a' => by cases op' <;> simp [eqGuard]) (fun d => by simp [Op.equalIn, run_underlying ht]) rfl rfl
    rcases hop with ⟨_, rfl⟩ | ⟨_, rfl⟩ <;> exact this
  · rename_i hv
    refine ⟨_, h, e, ?_⟩
    have := did_nil (P := P) (ng := ng) (c := c) (sl := sl) (q := false) ho hop hy hw fun β w u hu => by
      rw [hv] at hu; simp only [VR] at hu
      obtain ⟨L, _, rfl⟩ := hu
      exact nil_runs w (fun op' a a' => by cases op' <;> simp [eqGuard]) (fun d => by simp [Op.equalIn, run_underlying ht]) rfl rfl
    rcases hop with ⟨_, rfl⟩ | ⟨_, rfl⟩ <;> exact this
  · cases e
theorem op_nilF {op : BinOp} {neg v0 : Bool} {t t' : TypeId} {ps rs : Array TypeId} {y : Operand} {xy : XV} (ho : o.op = .binOp op t y (.const .nilFunc) t') (hop : NegOp op neg) (ht : P.underlying t = some (.func ps rs v0)) (hy : cV y = some xy) (hw : WF h) (e : oNilF neg xy c call sl h k = some r) : Says P ng o c sl h k r := by
  unfold oNilF at e
  split at e
  · rename_i hv
    refine ⟨_, h, e, ?_⟩
    have := did_nil (P := P) (ng := ng) (c := c) (sl := sl) (q := true) ho hop hy hw fun β w u hu => by
      rw [hv] at hu; simp only [VR] at hu; subst hu
      exact nil_runs w (fun op' a a' => by cases op' <;> simp [eqGuard]) (fun d => by simp [Op.equalIn, run_underlying ht]) rfl rfl
    rcases hop with ⟨_, rfl⟩ | ⟨_, rfl⟩ <;> exact this
  · rename_i hv
    refine ⟨_, h, e, ?_⟩
    have := did_nil (P := P) (ng := ng) (c := c) (sl := sl) (q := false) ho hop hy hw fun β w u hu => by
      rw [hv] at hu; simp only [VR] at hu
      obtain ⟨ds, rfl, _⟩ := hu
      exact nil_runs w (fun op' a a' => by cases op' <;> simp [eqGuard]) (fun d => by simp [Op.equalIn, run_underlying ht]) rfl rfl
    rcases hop with ⟨_, rfl⟩ | ⟨_, rfl⟩ <;> exact this
  · cases e

theorem get_map {w : World} {b : Nat} {es : Array MapEntry} {clock : Nat} (hb : w.heap[b]? = some (.map es clock)) : (getObj b).run P w = .ok (.map es clock) w := by simp [getObj, Sem.run, hb]
theorem set_map {w : World} {b : Nat} {es : Array MapEntry} {clock : Nat} (o' : Obj) (hb : w.heap[b]? = some (.map es clock)) : (setObj b o').run P w = .ok () { w with heap := w.heap.setIfInBounds b o' } := by simp [setObj, Sem.run, hb]
/-! one operand -/
theorem op_not {t : TypeId} {y : Operand} {x : XV} (ho : o.op = .unOp .not t y) (hx : cV y = some x) (hw : WF h) (e : oNot x c call sl h k = some r) : Says P ng o c sl h k r := by
  unfold oNot at e
  split at e
  · rename_i b hv
    exact ⟨_, h, boolK_some e, did_not ho hx hv hw⟩
  · cases e
theorem op_neg {t : TypeId} {y : Operand} {x : XV} (ho : o.op = .unOp .neg t y) (hx : cV y = some x) (hw : WF h) (e : oNeg x c call sl h k = some r) : Says P ng o c sl h k r := by
  unfold oNeg at e
  split at e
  · rename_i p n hv
    obtain ⟨h1, h2⟩ := intK_some e
    have h1' : p.wrap (-n) = -n := h1
    refine ⟨.int p (-n), h, h2, did_pure hw fun β a w hr hop => ?_⟩
    have k1 := hop y (by simp [ho, Op.operands]) x hx
    rw [hv] at k1; simp only [VR] at k1
    exact ⟨.int p (-n), by simp [execOp, ho, Op.unary, Op.intArith, k1, h1'], by simp [VR]⟩
  · cases e
theorem op_toInt {s d : TypeId} {k0 p : IntKind} {y : Operand} {x : XV} (ho : o.op = .convert s d y) (hs : P.underlying s = some (.int k0)) (hd : P.underlying d = some (.int p)) (hx : cV y = some x) (hw : WF h) (e : oToInt p x c call sl h k = some r) : Says P ng o c sl h k r := by
  unfold oToInt at e
  split at e
  · rename_i q n hv
    obtain ⟨h1, h2⟩ := intK_some e
    refine ⟨_, h, h2, did_pure hw fun β a w hr hop => ?_⟩
    have k1 := hop y (by simp [ho, Op.operands]) x hx
    rw [hv] at k1; simp only [VR] at k1
    exact ⟨.int p n, by simp [execOp, ho, convert, run_underlying hs, run_underlying hd, Conv.intToInt, k1, h1], by simp [VR]⟩
  · cases e
theorem op_same {s d : TypeId} {y : Operand} {x : XV} (ho : o.op = .convert s d y) (hs : P.underlying s = some .string) (hd : P.underlying d = some .string) (hx : cV y = some x) (hw : WF h) (e : oSame x c call sl h k = some r) : Says P ng o c sl h k r := by
  unfold oSame at e
  split at e
  · rename_i q hv
    refine ⟨_, h, e, did_pure hw fun β a w hr hop => ?_⟩
    have k1 := hop y (by simp [ho, Op.operands]) x hx
    rw [hv] at k1
    have k2 := k1
    simp only [VR] at k1
    obtain ⟨b, hb, _⟩ := k1
    exact ⟨a.eval y, by simp [execOp, ho, convert, run_underlying hs, run_underlying hd, hb], k2⟩
  · cases e
theorem bytesK_some {R : Type} {q : R} : ∀ {vs : List AV} {f : List Nat → Option R}, bytesK vs f = some q → ∃ bs : List Nat, f bs = some q ∧ vs = bs.map (fun b => AV.int .u8 (.ofNat b)) ∧ ∀ b ∈ bs, b ≤ 255
  | [], f, e => ⟨[], e, rfl, by simp⟩
  | v :: vs, f, e => by
    unfold bytesK at e
    split at e
    · rename_i b
      cases hb : Nat.ble b 255 with
      | false => rw [hb] at e; cases e
      | true =>
        rw [hb] at e
        obtain ⟨bs, h1, h2, h3⟩ := bytesK_some (vs := vs) e
        refine ⟨b :: bs, h1, by rw [h2]; rfl, fun x hx => ?_⟩
        rcases List.mem_cons.1 hx with rfl | hx
        · exact Nat.le_of_ble_eq_true hb
        · exact h3 x hx
    · cases e
theorem vrs_bytes {β : Bet} : ∀ {bs : List Nat} {cs : List Value}, VRs β (bs.map (fun b => AV.int .u8 (.ofNat b))) cs → cs = (bs.map (fun b => Int.ofNat b)).map (Value.int .u8)
  | [], cs, h => by simp only [List.map_nil, VRs] at h; simp [h]
  | b :: bs, cs, h => by
    simp only [List.map_cons, VRs, VR] at h
    obtain ⟨u, us, rfl, h1, h2⟩ := h
    rw [h1, vrs_bytes h2]; simp
theorem fold_bytes : ∀ (bs : List Nat) (s : ByteArray), (∀ b ∈ bs, b ≤ 255) → (((bs.map (fun b => Int.ofNat b)).foldl (fun r n => r.push (UInt8.ofNat n.toNat)) s).data.toList.map UInt8.toNat) = s.data.toList.map UInt8.toNat ++ bs
  | [], s, _ => by simp
  | b :: bs, s, h => by
    have hb := h b (by simp)
    simp only [List.map_cons, List.foldl_cons]
    rw [fold_bytes bs _ (fun x hx => h x (by simp [hx]))]
    have : (UInt8.ofNat b).toNat = b := by simp [UInt8.toNat_ofNat']; omega
    simp [ByteArray.push, this]
theorem op_bytesStr {s d e0 : TypeId} {y : Operand} {x : XV} (ho : o.op = .convert s d y) (hs : P.underlying s = some (.slice e0)) (hd : P.underlying d = some .string) (he : P.underlying e0 = some (.int .u8)) (hx : cV y = some x) (hw : WF h) (e : oBytesStr x c call sl h k = some r) : Says P ng o c sl h k r := by
  unfold oBytesStr at e
  split at e
  · rename_i hv
    refine ⟨_, h, e, did_pure hw fun β a w hr hop => ?_⟩
    have k1 := hop y (by simp [ho, Op.operands]) x hx
    rw [hv] at k1; simp only [VR] at k1
    refine ⟨.string .empty, by simp [execOp, ho, convert, run_underlying hs, run_underlying hd, run_underlying he, k1, Conv.bytesToString], ?_⟩
    simp only [VR]
    exact ⟨_, rfl, rfl⟩
  · rename_i id off n es cap hv
    obtain ⟨vs, hg, e⟩ := cellsAt_some e
    obtain ⟨h1, e⟩ := dropK_some e
    obtain ⟨h2, e⟩ := takeK_some e
    obtain ⟨bs, e, h3, h4⟩ := bytesK_some e
    refine ⟨_, h, e, did_pure hw fun β a w hr hop => ?_⟩
    have k1 := hop y (by simp [ho, Op.operands]) x hx
    rw [hv] at k1; simp only [VR] at k1
    obtain ⟨L, oo, cp, hL, hu, hle, hsz, hoo, hcap⟩ := k1
    obtain ⟨L', q1, _, q2⟩ := hr.at_ id _ (view_cells hg)
    rw [hL] at q1; cases q1
    have hlen : ((vs.drop off).take n).length = n := by rw [List.length_take]; exact Nat.min_eq_left h2
    obtain ⟨cs, p1, p2⟩ := part_of_br q2 (off := off) (n := n) (by simp at h2; omega)
    have hcl : cs.length = n := by rw [← p1.length]; exact hlen
    rw [h3] at p1
    have hcs := vrs_bytes p1
    have hld : (loadCells ⟨L.blk, oo, none⟩ n).run P w = .ok ((bs.map (fun b => Int.ofNat b)).map (Value.int .u8)).toArray w := by
      rw [← hcs, ← hcl]
      refine run_loadCells_list w _ cs fun j u hj => ?_
      rcases hoo with rfl | ⟨z1, z2⟩
      · exact p2 j u hj
      · have := (List.getElem?_eq_some_iff.1 hj).1
        omega
    refine ⟨.string ((bs.map (fun b => Int.ofNat b)).foldl (fun r n => r.push (UInt8.ofNat n.toNat)) ByteArray.empty), ?_, ?_⟩
    · simp [execOp, ho, convert, run_underlying hs, run_underlying hd, run_underlying he, hu, run_bytesToString w _ n cp _ hld]
    · simp only [VR]
      exact ⟨_, rfl, by rw [fold_bytes bs _ h4]; rfl⟩
  · cases e

/-! slices -/
theorem op_slice {t e0 : TypeId} {y : Operand} {lo hi : Option Operand} {xy : XV} {xl xh : Option XV} {esz : Nat} (ho : o.op = .slice t y lo hi none) (hy : cV y = some xy) (hl : cOpt lo = some xl) (hh : cOpt hi = some xh) (ht : P.underlying t = some (.slice e0)) (hs : szA P e0 = some esz) (hw : WF h)
    (e : oSlice esz xy xl xh c call sl h k = some r) : Says P ng o c sl h k r := by
  unfold oSlice at e
  split at e
  · rename_i hv
    split at e
    · rename_i h2 h3
      refine ⟨_, h, e, did_pure hw fun β a w hr hop => ?_⟩
      have k1 := hop y (by simp [ho, Op.operands]) xy hy
      rw [hv] at k1; simp only [VR] at k1
      have b1 := opt_of (β := β) (a := a) hl (fun z hz q hq => hop z (by subst hz; simp [ho, Op.operands]) q hq) h2
      have b2 := opt_of (β := β) (a := a) hh (fun z hz q hq => hop z (by subst hz; simp [ho, Op.operands]) q hq) h3
      refine ⟨.slice none 0 0, ?_, by simp [VR]⟩
      rcases b1 with ⟨rfl, _⟩ | ⟨z1, q1, rfl, e1⟩ <;> rcases b2 with ⟨rfl, _⟩ | ⟨z2, q2, rfl, e2⟩ <;>
        simp [execOp, ho, Instr.sliceAt, Instr.slice, Instr.sliceBounds, Instr.sliceBound, asIntOf, run_underlying ht, k1, szA_some hs, *]
    · cases e
  · rename_i id off n es cap hv
    split at e
    · rename_i l u h2 h3
      cases hb : (Nat.ble l u && Nat.ble u n && Nat.beq es esz) with
      | false => rw [hb] at e; cases e
      | true =>
        rw [hb] at e
        simp only [Bool.and_eq_true] at hb
        have c1 := Nat.le_of_ble_eq_true hb.1.1
        have c2 := Nat.le_of_ble_eq_true hb.1.2
        have c3 : es = esz := Nat.eq_of_beq_eq_true hb.2
        subst c3
        simp only [cond, forceNat_eq] at e
        have d := did_slice (P := P) (ng := ng) (c := c) ho hy hl hh ht hs hv h2 h3 c1 c2 hw
        cases cap with
        | none => exact ⟨_, h, e, d⟩
        | some cp =>
          simp only [forceNat_eq] at e
          exact ⟨_, h, e, d⟩
    · cases e
  · cases e
theorem op_sliceS {t : TypeId} {y : Operand} {lo hi : Option Operand} {xy : XV} {xl xh : Option XV} (ho : o.op = .slice t y lo hi none) (hy : cV y = some xy) (hl : cOpt lo = some xl) (hh : cOpt hi = some xh) (ht : P.underlying t = some .string) (hw : WF h)
    (e : oSliceS xy xl xh c call sl h k = some r) : Says P ng o c sl h k r := by
  unfold oSliceS at e
  split at e
  · rename_i s hv
    split at e
    · rename_i l u h2 h3
      cases hb : (Nat.ble l u && Nat.ble u (lenN s)) with
      | false => rw [hb] at e; cases e
      | true =>
        rw [hb] at e
        simp only [Bool.and_eq_true] at hb
        have c1 := Nat.le_of_ble_eq_true hb.1
        have c2 := Nat.le_of_ble_eq_true hb.2
        rw [lenN_eq] at c2 h3
        simp only [cond] at e
        obtain ⟨_, e⟩ := dropK_some e
        obtain ⟨_, e⟩ := takeK_some e
        refine ⟨_, h, e, did_pure hw fun β a w hr hop => ?_⟩
        have k1 := hop y (by simp [ho, Op.operands]) xy hy
        rw [hv] at k1; simp only [VR] at k1
        obtain ⟨b, hbv, hbs⟩ := k1
        have hsz : s.length = b.size := by rw [← hbs]; simp
        have b1 := opt_of (β := β) (a := a) hl (fun z hz q hq => hop z (by subst hz; simp [ho, Op.operands]) q hq) h2
        have b2 := opt_of (β := β) (a := a) hh (fun z hz q hq => hop z (by subst hz; simp [ho, Op.operands]) q hq) h3
        refine ⟨.string (b.extract l u), ?_, ?_⟩
        · have g1 : l ≤ u := c1
          have g2 : u ≤ b.size := by omega
          have g3 : ((l : Nat) : Int) ≤ ((u : Nat) : Int) := by omega
          have g4 : ((u : Nat) : Int) ≤ ((b.size : Nat) : Int) := by omega
          have g5 : s.length = b.size := hsz
          have g6 : ¬ b.size < l := by omega
          have g7 : ¬ u < l := by omega
          have g8 : ¬ b.size < u := by omega
          have g9 : ¬ ((b.size : Nat) : Int) < ((l : Nat) : Int) := by omega
          rcases b1 with ⟨rfl, q1⟩ | ⟨z1, q1, rfl, e1⟩ <;> rcases b2 with ⟨rfl, q2⟩ | ⟨z2, q2, rfl, e2⟩ <;>
            simp [execOp, ho, Instr.sliceAt, Instr.slice, Instr.sliceBounds, Instr.sliceBound, asIntOf, run_underlying ht, *]
        · simp only [VR]
          refine ⟨_, rfl, ?_⟩
          rw [Lib.extract_data, ← hbs]
          simp [List.map_take, List.map_drop]
    · cases e
  · cases e

/-! len -/
theorem op_lenS {y : Operand} {x : XV} {t : TypeId} (ho : isLen o y t) (hx : cV y = some x) (ht : P.underlying t = some .string) (hw : WF h) (e : oLenS x c call sl h k = some r) : Says P ng o c sl h k r := by
  unfold oLenS at e
  split at e
  · rename_i s hv
    rw [forceNat_eq, lenN_eq] at e
    exact ⟨_, h, e, did_len_str ho hx ht hv hw⟩
  · cases e
theorem op_lenL {y : Operand} {x : XV} {t e0 : TypeId} (ho : isLen o y t) (hx : cV y = some x) (ht : P.underlying t = some (.slice e0)) (hw : WF h) (e : oLenL x c call sl h k = some r) : Says P ng o c sl h k r := by
  unfold oLenL at e
  split at e
  · rename_i hv
    exact ⟨_, h, e, did_len_nils ho hx ht hv hw⟩
  · rename_i hv
    exact ⟨_, h, e, did_len_sl ho hx ht hv hw⟩
  · cases e
theorem ER.len {β : Bet} : ∀ {xs : List (AV × AV × Nat)} {es : List MapEntry}, ER β xs es → xs.length = es.length
  | [], es, h => by have : es = [] := h; subst this; rfl
  | x :: xs, es, ⟨e, es', h1, _, _, _, h5⟩ => by subst h1; simp [ER.len h5]
theorem op_lenM {y : Operand} {x : XV} {t e0 e1 : TypeId} (ho : isLen o y t) (hx : cV y = some x) (ht : P.underlying t = some (.map e0 e1)) (hw : WF h) (e : oLenM x c call sl h k = some r) : Says P ng o c sl h k r := by
  unfold oLenM at e
  split at e
  · rename_i hv
    refine ⟨_, h, e, did_pure hw fun β a w hr hop => ?_⟩
    have h1 := hop y (by unfold isLen at ho; simp [ho, Op.operands, Call.operands]) x hx
    rw [hv] at h1; simp only [VR] at h1
    exact ⟨.int .i64 (0 : Nat), len_run ho a w (by simp [Builtin.len_, h1, run_underlying ht, goInt]), by simp [VR]⟩
  · rename_i id hv
    split at e
    · rename_i es clock hg
      rw [forceNat_eq, lenN_eq] at e
      refine ⟨_, h, e, did_pure hw fun β a w hr hop => ?_⟩
      have h1 := hop y (by unfold isLen at ho; simp [ho, Op.operands, Call.operands]) x hx
      rw [hv] at h1; simp only [VR] at h1
      obtain ⟨L, hL, hu⟩ := h1
      obtain ⟨L', q1, _, ces, q2, q3⟩ := hr.at_ id _ (view_map hg)
      rw [hL] at q1; cases q1
      have hl : es.length = ces.size := by rw [q3.len]; simp
      exact ⟨.int .i64 ces.size, len_run ho a w (by simp [Builtin.len_, hu, run_underlying ht, get_map q2, goInt]), by simp [VR, hl]⟩
    · cases e
  · cases e
end
end Go.Proofs.YtfoahdpnalbbgaaGreatDoor.Ev
