/- Soundness of the operations: arithmetic, strings, equality. -/
import Derived.Test.YtfoahdpnalbbgaaGreatDoorEvO
import Derived.Laws.StructEq
import Derived.Laws.Strings
import Derived.Laws.Cover3
import Derived.Laws.Pointers
set_option linter.unusedVariables false
set_option linter.unusedSimpArgs false
namespace Go.Proofs.YtfoahdpnalbbgaaGreatDoor.Ev
open Go
/-- what an operation's theorem says -/
def Says (P : Program) (ng : Nat) (o : Oper) (c : C) (sl : Tr AV) (h : H) (k : Kont) (r : Tr AV × H) : Prop := ∃ v h', k v h' = some r ∧ Did P ng o c sl h v h'
section
variable {P : Program} {ng : Nat} {o : Oper} {c : C} {call : Caller} {sl : Tr AV} {h : H} {k : Kont} {r : Tr AV × H}
theorem kindEq_iff {a b : IntKind} (h : kindEq a b = true) : a = b := by simpa [kindEq] using h
theorem ints_some {f : IntKind → Int → Int → H → Kont → Out} {x y : XV} (e : ints f x y c call sl h k = some r) : ∃ p a b, evV sl x = .int p a ∧ evV sl y = .int p b ∧ f p a b h k = some r := by
  unfold ints at e
  split at e
  · rename_i p a q b h1 h2
    cases hb : kindEq p q with
    | false => rw [hb] at e; cases e
    | true =>
      rw [hb] at e
      have := kindEq_iff hb
      subst this
      exact ⟨p, a, b, h1, h2, e⟩
  · cases e
def IntFact (P : Program) (op : BinOp) (t : TypeId) (f : IntKind → Int → Int → H → Kont → Out) : Prop := ∀ p a b (h : H) (k : Kont) (r : Tr AV × H), f p a b h k = some r → ∃ v, k v h = some r ∧ ∀ w : World, ∃ u, (binOp op t (.int p a) (.int p b)).run P w = .ok u w ∧ ∀ β, VR β v u
theorem op_int2 {op : BinOp} {t t' : TypeId} {y z : Operand} {xy xz : XV} {f : IntKind → Int → Int → H → Kont → Out} (ho : o.op = .binOp op t y z t') (hy : cV y = some xy) (hz : cV z = some xz) (hg : op ≠ .eql ∧ op ≠ .neq) (hw : WF h)
    (hf : IntFact P op t f) (e : ints f xy xz c call sl h k = some r) : Says P ng o c sl h k r := by
  obtain ⟨p, a, b, h1, h2, e⟩ := ints_some e
  obtain ⟨v, k1, k2⟩ := hf p a b h k r e
  exact ⟨v, h, k1, did_int2 ho hy hz h1 h2 hg hw k2⟩
theorem fact_add {t : TypeId} : IntFact P .add t fAdd := fun p a b h k r e => by
  obtain ⟨h1, h2⟩ := intK_some e
  have h1' : p.wrap (a + b) = a + b := h1
  exact ⟨.int p (a + b), h2, fun w => ⟨.int p (a + b), by simp [binOp, Op.intArith, h1'], fun β => by simp [VR]⟩⟩
theorem fact_sub {t : TypeId} : IntFact P .sub t fSub := fun p a b h k r e => by
  obtain ⟨h1, h2⟩ := intK_some e
  have h1' : p.wrap (a - b) = a - b := h1
  exact ⟨.int p (a - b), h2, fun w => ⟨.int p (a - b), by simp [binOp, Op.intArith, h1'], fun β => by simp [VR]⟩⟩
theorem fact_mul {t : TypeId} : IntFact P .mul t fMul := fun p a b h k r e => by
  obtain ⟨h1, h2⟩ := intK_some e
  have h1' : p.wrap (a * b) = a * b := h1
  exact ⟨.int p (a * b), h2, fun w => ⟨.int p (a * b), by simp [binOp, Op.intArith, h1'], fun β => by simp [VR]⟩⟩
theorem fact_quo {t : TypeId} : IntFact P .quo t fQuo := fun p a b h k r e => by
  unfold fQuo at e
  cases hb : eqI b 0 with
  | true => rw [hb] at e; cases e
  | false =>
    rw [hb] at e
    rw [eqI_eq, decide_eq_false_iff_not] at hb
    obtain ⟨h1, h2⟩ := intK_some e
    exact ⟨.int p (a.tdiv b), h2, fun w => ⟨.int p (a.tdiv b), by simp [binOp, Op.intDiv, hb, h1], fun β => by simp [VR]⟩⟩
theorem fact_rem {t : TypeId} : IntFact P .rem t fRem := fun p a b h k r e => by
  unfold fRem at e
  cases hb : eqI b 0 with
  | true => rw [hb] at e; cases e
  | false =>
    rw [hb] at e
    rw [eqI_eq, decide_eq_false_iff_not] at hb
    obtain ⟨h1, h2⟩ := intK_some e
    exact ⟨.int p (a.tmod b), h2, fun w => ⟨.int p (a.tmod b), by simp [binOp, Op.intDiv, hb], fun β => by simp [VR]⟩⟩
theorem fact_lss {t : TypeId} : IntFact P .lss t fLss := fun p a b h k r e =>
  ⟨_, boolK_some e, fun w => ⟨.bool (ltI a b), by simp [binOp, Op.intCmp, ltI_eq], fun β => by simp [VR]⟩⟩
theorem fact_leq {t : TypeId} : IntFact P .leq t fLeq := fun p a b h k r e =>
  ⟨_, boolK_some e, fun w => ⟨.bool (!ltI b a), by simp [binOp, Op.intCmp, ltI_eq]; rw [Bool.eq_iff_iff]; simp, fun β => by simp [VR]⟩⟩
theorem fact_gtr {t : TypeId} : IntFact P .gtr t fGtr := fun p a b h k r e =>
  ⟨_, boolK_some e, fun w => ⟨.bool (ltI b a), by simp [binOp, Op.intCmp, ltI_eq], fun β => by simp [VR]⟩⟩
theorem fact_geq {t : TypeId} : IntFact P .geq t fGeq := fun p a b h k r e =>
  ⟨_, boolK_some e, fun w => ⟨.bool (!ltI a b), by simp [binOp, Op.intCmp, ltI_eq]; rw [Bool.eq_iff_iff]; simp, fun β => by simp [VR]⟩⟩
/-- any operation on two operands -/
theorem did_bin {op : BinOp} {t t' : TypeId} {y z : Operand} {xy xz : XV} {v : AV} (ho : o.op = .binOp op t y z t') (hy : cV y = some xy) (hz : cV z = some xz) (hw : WF h)
    (hrun : ∀ β (w : World) u u', VR β (evV sl xy) u → VR β (evV sl xz) u' → (eqGuard op t y z u u').run P w = .ok () w ∧ ∃ q, (binOp op t u u').run P w = .ok q w ∧ VR β v q) : Did P ng o c sl h v h := by
  refine did_pure hw fun β a w hr hop => ?_
  obtain ⟨h1, q, h2, h3⟩ := hrun β w (a.eval y) (a.eval z) (hop y (by simp [ho, Op.operands]) xy hy) (hop z (by simp [ho, Op.operands]) xz hz)
  exact ⟨q, by simp [execOp, ho, h1, h2], h3⟩

/-! strings -/
theorem guard_str {op : BinOp} {t : TypeId} {y z : Operand} {a b : ByteArray} (w : World) : (eqGuard op t y z (.string a) (.string b)).run P w = .ok () w := by
  cases op <;> simp [eqGuard]
theorem toNat_inj : ∀ (l m : List UInt8), l.map UInt8.toNat = m.map UInt8.toNat → l = m
  | [], [], _ => rfl
  | [], _ :: _, h => by simp at h
  | _ :: _, [], h => by simp at h
  | a :: l, b :: m, h => by
    simp only [List.map_cons, List.cons.injEq] at h
    rw [UInt8.toNat_inj.1 h.1, toNat_inj l m h.2]
theorem eqL_bytes (l m : List UInt8) : eqL (l.map UInt8.toNat) (m.map UInt8.toNat) = (l == m) := by
  rw [eqL_eq, Bool.eq_iff_iff, decide_eq_true_eq, beq_iff_eq]
  exact ⟨toNat_inj l m, fun e => by rw [e]⟩
theorem ltL_bytes : ∀ (l m : List UInt8), ltL (l.map UInt8.toNat) (m.map UInt8.toNat) = Op.bytesLess l m
  | [], [] => rfl
  | _ :: _, [] => rfl
  | [], _ :: _ => rfl
  | a :: l, b :: m => by
    simp only [List.map_cons, ltL, Op.bytesLess]
    rw [ltL_bytes l m, beq_dec]
    by_cases h1 : a < b
    · have : a.toNat < b.toNat := UInt8.lt_iff_toNat_lt.1 h1
      simp [h1, this, Nat.blt_eq]
    · have h2 : ¬ a.toNat < b.toNat := fun x => h1 (UInt8.lt_iff_toNat_lt.2 x)
      have h3 : Nat.blt a.toNat b.toNat = false := by
        cases hb : Nat.blt a.toNat b.toNat with
        | false => rfl
        | true => exact absurd (by simpa [Nat.blt_eq] using hb) h2
      rw [h3]
      by_cases h4 : a = b
      · subst h4; simp
      · have h5 : a.toNat ≠ b.toNat := fun x => h4 (UInt8.toNat_inj.1 x)
        simp [h1, h4, h5]
theorem op_cat {t t' : TypeId} {y z : Operand} {xy xz : XV} (ho : o.op = .binOp .add t y z t') (hy : cV y = some xy) (hz : cV z = some xz) (hw : WF h) (e : oCat xy xz c call sl h k = some r) : Says P ng o c sl h k r := by
  unfold oCat at e
  split at e
  · rename_i a b h1 h2
    cases hb : Nat.blt (Nat.add (lenN a) (lenN b)) 10000000 with
    | false => rw [hb] at e; cases e
    | true =>
      rw [hb] at e
      simp only [cond, appK_eq] at e
      have hlt : a.length + b.length < 10000000 := by
        have : Nat.add (lenN a) (lenN b) < 10000000 := by simpa [Nat.blt_eq] using hb
        rw [lenN_eq, lenN_eq] at this
        exact this
      refine ⟨_, h, e, did_bin ho hy hz hw fun β w u u' k1 k2 => ?_⟩
      rw [h1] at k1; rw [h2] at k2
      simp only [VR] at k1 k2
      obtain ⟨x, rfl, hx⟩ := k1
      obtain ⟨x', rfl, hx'⟩ := k2
      refine ⟨guard_str w, .string (x ++ x'), ?_, ?_⟩
      · have s1 : a.length = x.size := by rw [← hx]; simp
        have s2 : b.length = x'.size := by rw [← hx']; simp
        have : ¬ (((x.size + x'.size : Nat) : Int) > IntKind.i64.max) := by
          have : IntKind.i64.max = 9223372036854775807 := by decide
          rw [this]; omega
        simp only [binOp, Op.stringOp, this, if_false, Sem.run_pure]
      · simp only [VR]
        refine ⟨_, rfl, ?_⟩
        rw [← hx, ← hx']
        simp [ByteArray.data_append]
  · cases e
theorem op_scmp {op : BinOp} {f : List Nat → List Nat → Bool} {t t' : TypeId} {y z : Operand} {xy xz : XV} (ho : o.op = .binOp op t y z t') (hy : cV y = some xy) (hz : cV z = some xz) (hw : WF h)
    (hf : ∀ (w : World) (a b : ByteArray), (binOp op t (.string a) (.string b)).run P w = .ok (.bool (f (a.data.toList.map UInt8.toNat) (b.data.toList.map UInt8.toNat))) w) (e : oScmp f xy xz c call sl h k = some r) : Says P ng o c sl h k r := by
  unfold oScmp at e
  split at e
  · rename_i a b h1 h2
    refine ⟨_, h, boolK_some e, did_bin ho hy hz hw fun β w u u' k1 k2 => ?_⟩
    rw [h1] at k1; rw [h2] at k2
    simp only [VR] at k1 k2
    obtain ⟨x, rfl, hx⟩ := k1
    obtain ⟨x', rfl, hx'⟩ := k2
    refine ⟨guard_str w, _, hf w x x', ?_⟩
    rw [hx, hx']; simp [VR]
  · cases e
theorem cmp_lss {t : TypeId} (w : World) (a b : ByteArray) : (binOp .lss t (.string a) (.string b)).run P w = .ok (.bool (sLss (a.data.toList.map UInt8.toNat) (b.data.toList.map UInt8.toNat))) w := by
  simp only [binOp, Op.stringOp, sLss, ltL_bytes, ByteArray.toList_eq, Sem.run_pure]
theorem cmp_leq {t : TypeId} (w : World) (a b : ByteArray) : (binOp .leq t (.string a) (.string b)).run P w = .ok (.bool (sLeq (a.data.toList.map UInt8.toNat) (b.data.toList.map UInt8.toNat))) w := by
  simp only [binOp, Op.stringOp, sLeq, ltL_bytes, eqL_bytes, ByteArray.toList_eq, Sem.run_pure]
theorem cmp_gtr {t : TypeId} (w : World) (a b : ByteArray) : (binOp .gtr t (.string a) (.string b)).run P w = .ok (.bool (sGtr (a.data.toList.map UInt8.toNat) (b.data.toList.map UInt8.toNat))) w := by
  simp only [binOp, Op.stringOp, sGtr, ltL_bytes, eqL_bytes, ByteArray.toList_eq, Sem.run_pure]
theorem cmp_geq {t : TypeId} (w : World) (a b : ByteArray) : (binOp .geq t (.string a) (.string b)).run P w = .ok (.bool (sGeq (a.data.toList.map UInt8.toNat) (b.data.toList.map UInt8.toNat))) w := by
  simp only [binOp, Op.stringOp, sGeq, ltL_bytes, ByteArray.toList_eq, Sem.run_pure]

/-! equality -/
/-- a test of equality by type -/
def EqOk (P : Program) (t : TypeId) (eq : EqF) : Prop := ∀ β x y u u' b, eq x y = some b → VR β x u → VR β y u' → ∀ (w : World), (∀ op a a', (eqGuard op t a a' u u').run P w = .ok () w) ∧ (binOp .eql t u u').run P w = .ok (.bool b) w ∧ (binOp .neq t u u').run P w = .ok (.bool (!b)) w
theorem eqInt_some {x y : AV} {b : Bool} (e : eqInt x y = some b) : ∃ p m n, x = .int p m ∧ y = .int p n ∧ b = (m == n) := by
  unfold eqInt at e
  split at e
  · rename_i p m q n
    cases hb : kindEq p q with
    | false => rw [hb] at e; cases e
    | true =>
      rw [hb] at e
      have := kindEq_iff hb
      subst this
      simp only [cond, Option.some.injEq] at e
      refine ⟨p, m, n, rfl, rfl, ?_⟩
      rw [← e, eqI_eq, Bool.eq_iff_iff]; simp
  · cases e
theorem eqStr_some {x y : AV} {b : Bool} (e : eqStr x y = some b) : ∃ s s', x = .str s ∧ y = .str s' ∧ b = eqL s s' := by
  unfold eqStr at e
  split at e
  · simp only [Option.some.injEq] at e
    exact ⟨_, _, rfl, rfl, e.symm⟩
  · cases e
theorem eqBl_some {x y : AV} {b : Bool} (e : eqBl x y = some b) : ∃ s s', x = .bool s ∧ y = .bool s' ∧ b = (s == s') := by
  unfold eqBl at e
  split at e
  · simp only [Option.some.injEq] at e
    exact ⟨_, _, rfl, rfl, e.symm⟩
  · cases e
/-- the three plain kinds -/
theorem eqB_cases {t : TypeId} {eq : EqF} (h : eqB P t = some eq) : (∃ k, P.underlying t = some (.int k) ∧ eq = eqInt) ∨ (P.underlying t = some .string ∧ eq = eqStr) ∨ (P.underlying t = some .bool ∧ eq = eqBl) := by
  unfold eqB at h
  split at h
  · rename_i k hk; cases h; exact Or.inl ⟨k, hk, rfl⟩
  · rename_i hk; cases h; exact Or.inr (Or.inl ⟨hk, rfl⟩)
  · rename_i hk; cases h; exact Or.inr (Or.inr ⟨hk, rfl⟩)
  · cases h
theorem eqB_in {t : TypeId} {eq : EqF} (h : eqB P t = some eq) {β : Bet} {x y : AV} {u u' : Value} {b : Bool} (e : eq x y = some b) (hx : VR β x u) (hy : VR β y u') (d : Nat) (w : World) : (Op.equalIn (d + 1) t u u').run P w = .ok b w := by
  rcases eqB_cases h with ⟨k, hk, rfl⟩ | ⟨hk, rfl⟩ | ⟨hk, rfl⟩
  · obtain ⟨p, m, n, rfl, rfl, rfl⟩ := eqInt_some e
    simp only [VR] at hx hy; subst hx hy
    exact run_equalIn_int w d t p k m n hk
  · obtain ⟨s, s', rfl, rfl, rfl⟩ := eqStr_some e
    simp only [VR] at hx hy
    obtain ⟨q, rfl, rfl⟩ := hx
    obtain ⟨q', rfl, rfl⟩ := hy
    rw [run_equalIn_string w d t q q' hk, eqL_bytes, ByteArray.toList_eq, ByteArray.toList_eq]
  · obtain ⟨s, s', rfl, rfl, rfl⟩ := eqBl_some e
    simp only [VR] at hx hy; subst hx hy
    exact run_equalIn_bool w d t s s' hk
theorem eqB_ok {t : TypeId} {eq : EqF} (h : eqB P t = some eq) : EqOk P t eq := fun β x y u u' b e hx hy w => by
  have hin := eqB_in h e hx hy 9999 w
  rcases eqB_cases h with ⟨k, hk, rfl⟩ | ⟨hk, rfl⟩ | ⟨hk, rfl⟩
  · obtain ⟨p, m, n, rfl, rfl, rfl⟩ := eqInt_some e
    simp only [VR] at hx hy; subst hx hy
    exact ⟨fun op a a' => by cases op <;> simp [eqGuard], by simp [binOp, Op.intCmp], by simp [binOp, Op.intCmp, bne]⟩
  · obtain ⟨s, s', rfl, rfl, rfl⟩ := eqStr_some e
    simp only [VR] at hx hy
    obtain ⟨q, rfl, rfl⟩ := hx
    obtain ⟨q', rfl, rfl⟩ := hy
    refine ⟨fun op a a' => guard_str w, ?_, ?_⟩
    · simp only [binOp, Op.stringOp, eqL_bytes, ByteArray.toList_eq, Sem.run_pure]
    · simp only [binOp, Op.stringOp, eqL_bytes, ByteArray.toList_eq, Sem.run_pure]
  · obtain ⟨s, s', rfl, rfl, rfl⟩ := eqBl_some e
    simp only [VR] at hx hy; subst hx hy
    have hin' : (Op.equal t (.bool s) (.bool s')).run P w = .ok (s == s') w := hin
    exact ⟨fun op a a' => by cases op <;> simp [eqGuard], by simp [binOp, hin'], by simp [binOp, hin']⟩
theorem eqB_isA {t : TypeId} {eq : EqF} (h : eqB P t = some eq) (w : World) : (isAgg t).run P w = .ok false w := by
  rcases eqB_cases h with ⟨k, hk, _⟩ | ⟨hk, _⟩ | ⟨hk, _⟩ <;> simp [isAgg, run_underlying hk]
theorem drop_cons {α : Type} {l : List α} {i : Nat} {x : α} {m : List α} (h : l.drop i = x :: m) : l[i]? = some x ∧ l.drop (i + 1) = m := by
  have h1 : (l.drop i)[0]? = some x := by rw [h]; rfl
  have h2 : (l.drop i).drop 1 = m := by rw [h]; rfl
  rw [List.getElem?_drop, Nat.add_zero] at h1
  rw [List.drop_drop] at h2
  exact ⟨h1, h2⟩
theorem flatFs_run {β : Bet} {xs ys : List AV} {cs ds : Array Value} (hx : VRs β xs cs.toList) (hy : VRs β ys ds.toList) (d : Nat) (w : World) : ∀ (fs : List Field) (i : Nat) (eqs : List EqF) (b : Bool), flatFs P i fs = some eqs → eqFs eqs (xs.drop i) (ys.drop i) = some b →
    (Op.eqFields (d + 1) cs ds fs).run P w = .ok b w
  | [], i, eqs, b, h, e => by
    simp only [flatFs, Option.some.injEq] at h
    subst h
    unfold eqFs at e
    split at e
    · simp only [Option.some.injEq] at e; subst e; simp [Op.eqFields]
    · rename_i hh _ _; cases hh
    · cases e
  | f :: fs, i, eqs, b, h, e => by
    unfold flatFs at h
    split at h
    · rename_i hf
      obtain ⟨hoff, hname⟩ := hf
      simp only [Option.bind_eq_bind, Option.bind_eq_some_iff, Option.pure_def, Option.some.injEq] at h
      obtain ⟨g, hg, gs, hgs, rfl⟩ := h
      cases hx1 : xs.drop i with
      | nil => rw [hx1] at e; simp [eqFs] at e
      | cons x xs' =>
        cases hy1 : ys.drop i with
        | nil => rw [hx1, hy1] at e; simp [eqFs] at e
        | cons y ys' =>
          rw [hx1, hy1] at e
          obtain ⟨p1, p2⟩ := drop_cons hx1
          obtain ⟨q1, q2⟩ := drop_cons hy1
          obtain ⟨u, u1, u2⟩ := hx.get p1
          obtain ⟨u', u1', u2'⟩ := hy.get q1
          have a1 : cs[i]? = some u := by simpa using u1
          have a2 : ds[i]? = some u' := by simpa using u1'
          simp only [eqFs] at e
          cases hb : g x y with
          | none => rw [hb] at e; cases e
          | some b1 =>
            rw [hb] at e
            have hin := eqB_in hg hb u2 u2' d w
            cases b1 with
            | false =>
              simp only [Option.some.injEq] at e; subst e
              simp [Op.eqFields, hname, part, eqB_isA hg, hoff, a1, a2, hin]
            | true =>
              simp only at e
              rw [← p2, ← q2] at e
              have ih := flatFs_run hx hy d w fs (i + 1) gs b hgs e
              simp [Op.eqFields, hname, part, eqB_isA hg, hoff, a1, a2, hin, ih]
    · cases h
theorem eqT_ok {t : TypeId} {eq : EqF} (h : eqT P t = some eq) : EqOk P t eq := by
  unfold eqT at h
  split at h
  · rename_i fs hu
    split at h
    · rename_i hh
      simp only [Option.map_eq_some_iff] at h
      obtain ⟨eqs, h1, rfl⟩ := h
      intro β x y u u' b e hx hy w
      unfold eqSt at e
      split at e
      · rename_i xs ys
        simp only [VR] at hx hy
        obtain ⟨cs, rfl, hcs⟩ := hx
        obtain ⟨ds, rfl, hds⟩ := hy
        have hfo : P.fieldsOf t = fs := by unfold Program.fieldsOf; rw [hu]
        have hrun := flatFs_run hcs hds 9998 w fs.toList 0 eqs b h1 (by simpa using e)
        have hin := run_equalIn_struct w 9999 t cs ds (by rw [hfo]; exact hu) hh.1
        rw [hfo] at hin
        have hin' : (Op.equalIn 10000 t (.agg cs) (.agg ds)).run P w = .ok b w := hin.trans hrun
        exact ⟨fun op a a' => run_eqGuard_agg w op t a a' cs ds hh.2, by rw [run_eql_struct, hin']; rfl, by rw [run_neq_struct, hin']; rfl⟩
      · cases e
    · cases h
  · exact eqB_ok h
theorem op_eql {op : BinOp} {neg : Bool} {eq : EqF} {t t' : TypeId} {y z : Operand} {xy xz : XV} (ho : o.op = .binOp op t y z t') (hop : (op = .eql ∧ neg = false) ∨ (op = .neq ∧ neg = true)) (hy : cV y = some xy) (hz : cV z = some xz) (hw : WF h) (heq : EqOk P t eq)
    (e : oEql eq neg xy xz c call sl h k = some r) : Says P ng o c sl h k r := by
  unfold oEql at e
  split at e
  · rename_i b hb
    refine ⟨_, h, boolK_some e, did_bin ho hy hz hw fun β w u u' k1 k2 => ?_⟩
    obtain ⟨h1, h2, h3⟩ := heq β _ _ u u' b hb k1 k2 w
    rcases hop with ⟨rfl, rfl⟩ | ⟨rfl, rfl⟩
    · exact ⟨h1 _ _ _, _, h2, by cases b <;> simp [VR]⟩
    · exact ⟨h1 _ _ _, _, h3, by cases b <;> simp [VR]⟩
  · cases e
end
end Go.Proofs.YtfoahdpnalbbgaaGreatDoor.Ev
