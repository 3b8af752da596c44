/- The evaluator: operations. -/
import Derived.Test.YtmdceifbbmnfgaaGreatDoorEvK
import Derived.Laws.StructEq
import Derived.Laws.Strings
import Derived.Laws.Cover3
import Derived.Laws.Pointers
import Derived.Laws.BytesString
import Derived.Lib.Strings
import Derived.ChangeKeysEq
import Derived.Laws.Tables
import Derived.Great.BuildSlice
import Derived.Laws.MakeOwn
set_option linter.unusedVariables false
set_option linter.unusedSimpArgs false
namespace Go.Proofs.YtmdceifbbmnfgaaGreatDoor.Ev
open Go
def Says (P : Program) (ng : Nat) (o : Oper) (c : C) (sl : Tr AV) (h : H) (k : Kont) (r : Tr AV × H) : Prop := ∃ v h', k v h' = some r ∧ Did P ng o c sl h v h'
section
variable {P : Program} {ng : Nat} {o : Oper} {c : C} {call : Caller} {sl : Tr AV} {h : H} {k : Kont} {r : Tr AV × H}
theorem kindEq_iff {a b : IntKind} (h : kindEq a b = true) : a = b := by simpa [kindEq] using h
theorem ints_some {f : IntKind → Int → Int → H → Kont → Out} {x y : XV} (e : ints f x y c call sl h k = some r) : ∃ p a b, evV sl x = .int p a ∧ evV sl y = .int p b ∧ f p a b h k = some r := by
 unfold ints at e
 split at e
 ·rename_i p a q b h1 h2
  cases hb : kindEq p q with
  | false => rw [hb] at e; cases e
  | true =>
   rw [hb] at e
   have := kindEq_iff hb
   subst this
   exact ⟨p, a, b, h1, h2, e⟩
 ·cases e
def IntFact (P : Program) (op : BinOp) (t : TypeId) (f : IntKind → Int → Int → H → Kont → Out) : Prop := ∀ p a b (h : H) (k : Kont) (r : Tr AV × H), f p a b h k = some r → ∃ v, k v h = some r ∧ ∀ w : World, ∃ u, (binOp op t (.int p a) (.int p b)).run P w = .ok u w ∧ ∀ β, VR β v u
theorem op_int2 {op : BinOp} {t t' : TypeId} {y z : Operand} {xy xz : XV} {f : IntKind → Int → Int → H → Kont → Out} (ho : o.op = .binOp op t y z t') (hy : cV y = some xy) (hz : cV z = some xz) (hg : op ≠ .eql ∧ op ≠ .neq) (hw : WF h)
  (hf : IntFact P op t f) (e : ints f xy xz c call sl h k = some r) : Says P ng o c sl h k r := by
 obtain ⟨p, a, b, h1, h2, e⟩ := ints_some e
 obtain ⟨v, k1, k2⟩ := hf p a b h k r e
 exact ⟨v, h, k1, did_int2 ho hy hz h1 h2 hg hw k2⟩
theorem fact_add {t : TypeId} : IntFact P .add t fAdd := fun p a b h k r e => by
 obtain ⟨h1, h2⟩ := intK_some e
 have h1' : p.wrap (a + b) = a + b := h1
 exact ⟨.int p (a + b), h2, fun w => ⟨.int p (a + b), by simp [binOp, Op.intArith, h1'], fun β => by simp [VR]⟩⟩
theorem fact_sub {t : TypeId} : IntFact P .sub t fSub := fun p a b h k r e => by
 obtain ⟨h1, h2⟩ := intK_some e
 have h1' : p.wrap (a - b) = a - b := h1
 exact ⟨.int p (a - b), h2, fun w => ⟨.int p (a - b), by simp [binOp, Op.intArith, h1'], fun β => by simp [VR]⟩⟩
theorem fact_mul {t : TypeId} : IntFact P .mul t fMul := fun p a b h k r e => by
 obtain ⟨h1, h2⟩ := intK_some e
 have h1' : p.wrap (a * b) = a * b := h1
 exact ⟨.int p (a * b), h2, fun w => ⟨.int p (a * b), by simp [binOp, Op.intArith, h1'], fun β => by simp [VR]⟩⟩
theorem fact_quo {t : TypeId} : IntFact P .quo t fQuo := fun p a b h k r e => by
 unfold fQuo at e
 cases hb : eqI b 0 with
 | true => rw [hb] at e; cases e
 | false =>
  rw [hb] at e
  rw [eqI_eq, decide_eq_false_iff_not] at hb
  obtain ⟨h1, h2⟩ := intK_some e
  exact ⟨.int p (a.tdiv b), h2, fun w => ⟨.int p (a.tdiv b), by simp [binOp, Op.intDiv, hb, h1], fun β => by simp [VR]⟩⟩
theorem fact_rem {t : TypeId} : IntFact P .rem t fRem := fun p a b h k r e => by
 unfold fRem at e
 cases hb : eqI b 0 with
 | true => rw [hb] at e; cases e
 | false =>
  rw [hb] at e
  rw [eqI_eq, decide_eq_false_iff_not] at hb
  obtain ⟨h1, h2⟩ := intK_some e
  exact ⟨.int p (a.tmod b), h2, fun w => ⟨.int p (a.tmod b), by simp [binOp, Op.intDiv, hb], fun β => by simp [VR]⟩⟩
theorem fact_lss {t : TypeId} : IntFact P .lss t fLss := fun p a b h k r e =>
 ⟨_, boolK_some e, fun w => ⟨.bool (ltI a b), by simp [binOp, Op.intCmp, ltI_eq], fun β => by simp [VR]⟩⟩
theorem fact_leq {t : TypeId} : IntFact P .leq t fLeq := fun p a b h k r e =>
 ⟨_, boolK_some e, fun w => ⟨.bool (!ltI b a), by simp [binOp, Op.intCmp, ltI_eq]; rw [Bool.eq_iff_iff]; simp, fun β => by simp [VR]⟩⟩
theorem fact_gtr {t : TypeId} : IntFact P .gtr t fGtr := fun p a b h k r e =>
 ⟨_, boolK_some e, fun w => ⟨.bool (ltI b a), by simp [binOp, Op.intCmp, ltI_eq], fun β => by simp [VR]⟩⟩
theorem fact_geq {t : TypeId} : IntFact P .geq t fGeq := fun p a b h k r e =>
 ⟨_, boolK_some e, fun w => ⟨.bool (!ltI a b), by simp [binOp, Op.intCmp, ltI_eq]; rw [Bool.eq_iff_iff]; simp, fun β => by simp [VR]⟩⟩
theorem did_bin {op : BinOp} {t t' : TypeId} {y z : Operand} {xy xz : XV} {v : AV} (ho : o.op = .binOp op t y z t') (hy : cV y = some xy) (hz : cV z = some xz) (hw : WF h)
  (hrun : ∀ β (w : World) u u', VR β (evV sl xy) u → VR β (evV sl xz) u' → (eqGuard op t y z u u').run P w = .ok () w ∧ ∃ q, (binOp op t u u').run P w = .ok q w ∧ VR β v q) : Did P ng o c sl h v h := by
 refine did_pure hw fun β a w hr hop => ?_
 obtain ⟨h1, q, h2, h3⟩ := hrun β w (a.eval y) (a.eval z) (hop y (by simp [ho, Op.operands]) xy hy) (hop z (by simp [ho, Op.operands]) xz hz)
 exact ⟨q, by simp [execOp, ho, h1, h2], h3⟩
/-! strings -/
theorem guard_str {op : BinOp} {t : TypeId} {y z : Operand} {a b : ByteArray} (w : World) : (eqGuard op t y z (.string a) (.string b)).run P w = .ok () w := by
 cases op <;> simp [eqGuard]
theorem toNat_inj : ∀ (l m : List UInt8), l.map UInt8.toNat = m.map UInt8.toNat → l = m
 | [], [], _ => rfl
 | [], _ :: _, h => by simp at h
 | _ :: _, [], h => by simp at h
 | a :: l, b :: m, h => by
  simp only [List.map_cons, List.cons.injEq] at h
  rw [UInt8.toNat_inj.1 h.1, toNat_inj l m h.2]
theorem eqL_bytes (l m : List UInt8) : eqL (l.map UInt8.toNat) (m.map UInt8.toNat) = (l == m) := by
 rw [eqL_eq, Bool.eq_iff_iff, decide_eq_true_eq, beq_iff_eq]
 exact ⟨toNat_inj l m, fun e => by rw [e]⟩
theorem ltL_bytes : ∀ (l m : List UInt8), ltL (l.map UInt8.toNat) (m.map UInt8.toNat) = Op.bytesLess l m
 | [], [] => rfl
 | _ :: _, [] => rfl
 | [], _ :: _ => rfl
 | a :: l, b :: m => by
  simp only [List.map_cons, ltL, Op.bytesLess]
  rw [ltL_bytes l m, beq_dec]
  by_cases h1 : a < b
  ·have : a.toNat < b.toNat := UInt8.lt_iff_toNat_lt.1 h1
   simp [h1, this, Nat.blt_eq]
  ·have h2 : ¬ a.toNat < b.toNat := fun x => h1 (UInt8.lt_iff_toNat_lt.2 x)
   have h3 : Nat.blt a.toNat b.toNat = false := by
    cases hb : Nat.blt a.toNat b.toNat with
    | false => rfl
    | true => exact absurd (by simpa [Nat.blt_eq] using hb) h2
   rw [h3]
   by_cases h4 : a = b
   ·subst h4; simp
   ·have h5 : a.toNat ≠ b.toNat := fun x => h4 (UInt8.toNat_inj.1 x)
    simp [h1, h4, h5]
theorem op_cat {t t' : TypeId} {y z : Operand} {xy xz : XV} (ho : o.op = .binOp .add t y z t') (hy : cV y = some xy) (hz : cV z = some xz) (hw : WF h) (e : oCat xy xz c call sl h k = some r) : Says P ng o c sl h k r := by
 unfold oCat at e
 split at e
 ·rename_i a b h1 h2
  cases hb : Nat.blt (Nat.add (lenN a) (lenN b)) 10000000 with
  | false => rw [hb] at e; cases e
  | true =>
   rw [hb] at e
   simp only [cond, appK_eq] at e
   have hlt : a.length + b.length < 10000000 := by
    have : Nat.add (lenN a) (lenN b) < 10000000 := by simpa [Nat.blt_eq] using hb
    rw [lenN_eq, lenN_eq] at this
    exact this
   refine ⟨_, h, e, did_bin ho hy hz hw fun β w u u' k1 k2 => ?_⟩
   rw [h1] at k1; rw [h2] at k2
   simp only [VR] at k1 k2
   obtain ⟨x, rfl, hx⟩ := k1
   obtain ⟨x', rfl, hx'⟩ := k2
   refine ⟨guard_str w, .string (x ++ x'), ?_, ?_⟩
   ·have s1 : a.length = x.size := by rw [← hx]; simp
    have s2 : b.length = x'.size := by rw [← hx']; simp
    have : ¬ (((x.size + x'.size : Nat) : Int) > IntKind.i64.max) := by
     have : IntKind.i64.max = 9223372036854775807 := by decide
     rw [this]; omega
    simp only [binOp, Op.stringOp, this, if_false, Sem.run_pure]
   ·simp only [VR]
    refine ⟨_, rfl, ?_⟩
    rw [← hx, ← hx']
    simp [ByteArray.data_append]
 ·cases e
theorem op_scmp {op : BinOp} {f : List Nat → List Nat → Bool} {t t' : TypeId} {y z : Operand} {xy xz : XV} (ho : o.op = .binOp op t y z t') (hy : cV y = some xy) (hz : cV z = some xz) (hw : WF h)
  (hf : ∀ (w : World) (a b : ByteArray), (binOp op t (.string a) (.string b)).run P w = .ok (.bool (f (a.data.toList.map UInt8.toNat) (b.data.toList.map UInt8.toNat))) w) (e : oScmp f xy xz c call sl h k = some r) : Says P ng o c sl h k r := by
 unfold oScmp at e
 split at e
 ·rename_i a b h1 h2
  refine ⟨_, h, boolK_some e, did_bin ho hy hz hw fun β w u u' k1 k2 => ?_⟩
  rw [h1] at k1; rw [h2] at k2
  simp only [VR] at k1 k2
  obtain ⟨x, rfl, hx⟩ := k1
  obtain ⟨x', rfl, hx'⟩ := k2
  refine ⟨guard_str w, _, hf w x x', ?_⟩
  rw [hx, hx']; simp [VR]
 ·cases e
theorem cmp_lss {t : TypeId} (w : World) (a b : ByteArray) : (binOp .lss t (.string a) (.string b)).run P w = .ok (.bool (sLss (a.data.toList.map UInt8.toNat) (b.data.toList.map UInt8.toNat))) w := by
 simp only [binOp, Op.stringOp, sLss, ltL_bytes, ByteArray.toList_eq, Sem.run_pure]
theorem cmp_leq {t : TypeId} (w : World) (a b : ByteArray) : (binOp .leq t (.string a) (.string b)).run P w = .ok (.bool (sLeq (a.data.toList.map UInt8.toNat) (b.data.toList.map UInt8.toNat))) w := by
 simp only [binOp, Op.stringOp, sLeq, ltL_bytes, eqL_bytes, ByteArray.toList_eq, Sem.run_pure]
theorem cmp_gtr {t : TypeId} (w : World) (a b : ByteArray) : (binOp .gtr t (.string a) (.string b)).run P w = .ok (.bool (sGtr (a.data.toList.map UInt8.toNat) (b.data.toList.map UInt8.toNat))) w := by
 simp only [binOp, Op.stringOp, sGtr, ltL_bytes, eqL_bytes, ByteArray.toList_eq, Sem.run_pure]
theorem cmp_geq {t : TypeId} (w : World) (a b : ByteArray) : (binOp .geq t (.string a) (.string b)).run P w = .ok (.bool (sGeq (a.data.toList.map UInt8.toNat) (b.data.toList.map UInt8.toNat))) w := by
 simp only [binOp, Op.stringOp, sGeq, ltL_bytes, ByteArray.toList_eq, Sem.run_pure]
/-! equality -/
def EqOk (P : Program) (t : TypeId) (eq : EqF) : Prop := ∀ β x y u u' b, eq x y = some b → VR β x u → VR β y u' → ∀ (w : World), (∀ op a a', (eqGuard op t a a' u u').run P w = .ok () w) ∧ (binOp .eql t u u').run P w = .ok (.bool b) w ∧ (binOp .neq t u u').run P w = .ok (.bool (!b)) w
theorem eqInt_some {x y : AV} {b : Bool} (e : eqInt x y = some b) : ∃ p m n, x = .int p m ∧ y = .int p n ∧ b = (m == n) := by
 unfold eqInt at e
 split at e
 ·rename_i p m q n
  cases hb : kindEq p q with
  | false => rw [hb] at e; cases e
  | true =>
   rw [hb] at e
   have := kindEq_iff hb
   subst this
   simp only [cond, Option.some.injEq] at e
   refine ⟨p, m, n, rfl, rfl, ?_⟩
   rw [← e, eqI_eq, Bool.eq_iff_iff]; simp
 ·cases e
theorem eqStr_some {x y : AV} {b : Bool} (e : eqStr x y = some b) : ∃ s s', x = .str s ∧ y = .str s' ∧ b = eqL s s' := by
 unfold eqStr at e
 split at e
 ·simp only [Option.some.injEq] at e
  exact ⟨_, _, rfl, rfl, e.symm⟩
 ·cases e
theorem eqBl_some {x y : AV} {b : Bool} (e : eqBl x y = some b) : ∃ s s', x = .bool s ∧ y = .bool s' ∧ b = (s == s') := by
 unfold eqBl at e
 split at e
 ·simp only [Option.some.injEq] at e
  exact ⟨_, _, rfl, rfl, e.symm⟩
 ·cases e
theorem eqB_cases {t : TypeId} {eq : EqF} (h : eqB P t = some eq) : (∃ k, P.underlying t = some (.int k) ∧ eq = eqInt) ∨ (P.underlying t = some .string ∧ eq = eqStr) ∨ (P.underlying t = some .bool ∧ eq = eqBl) := by
 unfold eqB at h
 split at h
 ·rename_i k hk; cases h; exact Or.inl ⟨k, hk, rfl⟩
 ·rename_i hk; cases h; exact Or.inr (Or.inl ⟨hk, rfl⟩)
 ·rename_i hk; cases h; exact Or.inr (Or.inr ⟨hk, rfl⟩)
 ·cases h
theorem eqB_in {t : TypeId} {eq : EqF} (h : eqB P t = some eq) {β : Bet} {x y : AV} {u u' : Value} {b : Bool} (e : eq x y = some b) (hx : VR β x u) (hy : VR β y u') (d : Nat) (w : World) : (Op.equalIn (d + 1) t u u').run P w = .ok b w := by
 rcases eqB_cases h with ⟨k, hk, rfl⟩ | ⟨hk, rfl⟩ | ⟨hk, rfl⟩
 ·obtain ⟨p, m, n, rfl, rfl, rfl⟩ := eqInt_some e
  simp only [VR] at hx hy; subst hx hy
  exact run_equalIn_int w d t p k m n hk
 ·obtain ⟨s, s', rfl, rfl, rfl⟩ := eqStr_some e
  simp only [VR] at hx hy
  obtain ⟨q, rfl, rfl⟩ := hx
  obtain ⟨q', rfl, rfl⟩ := hy
  rw [run_equalIn_string w d t q q' hk, eqL_bytes, ByteArray.toList_eq, ByteArray.toList_eq]
 ·obtain ⟨s, s', rfl, rfl, rfl⟩ := eqBl_some e
  simp only [VR] at hx hy; subst hx hy
  exact run_equalIn_bool w d t s s' hk
theorem eqB_ok {t : TypeId} {eq : EqF} (h : eqB P t = some eq) : EqOk P t eq := fun β x y u u' b e hx hy w => by
 have hin := eqB_in h e hx hy 9999 w
 rcases eqB_cases h with ⟨k, hk, rfl⟩ | ⟨hk, rfl⟩ | ⟨hk, rfl⟩
 ·obtain ⟨p, m, n, rfl, rfl, rfl⟩ := eqInt_some e
  simp only [VR] at hx hy; subst hx hy
  exact ⟨fun op a a' => by cases op <;> simp [eqGuard], by simp [binOp, Op.intCmp], by simp [binOp, Op.intCmp, bne]⟩
 ·obtain ⟨s, s', rfl, rfl, rfl⟩ := eqStr_some e
  simp only [VR] at hx hy
  obtain ⟨q, rfl, rfl⟩ := hx
  obtain ⟨q', rfl, rfl⟩ := hy
  refine ⟨fun op a a' => guard_str w, ?_, ?_⟩
  ·simp only [binOp, Op.stringOp, eqL_bytes, ByteArray.toList_eq, Sem.run_pure]
  ·simp only [binOp, Op.stringOp, eqL_bytes, ByteArray.toList_eq, Sem.run_pure]
 ·obtain ⟨s, s', rfl, rfl, rfl⟩ := eqBl_some e
  simp only [VR] at hx hy; subst hx hy
  have hin' : (Op.equal t (.bool s) (.bool s')).run P w = .ok (s == s') w := hin
  exact ⟨fun op a a' => by cases op <;> simp [eqGuard], by simp [binOp, hin'], by simp [binOp, hin']⟩
theorem eqB_isA {t : TypeId} {eq : EqF} (h : eqB P t = some eq) (w : World) : (isAgg t).run P w = .ok false w := by
 rcases eqB_cases h with ⟨k, hk, _⟩ | ⟨hk, _⟩ | ⟨hk, _⟩ <;> simp [isAgg, run_underlying hk]
theorem drop_cons {α : Type} {l : List α} {i : Nat} {x : α} {m : List α} (h : l.drop i = x :: m) : l[i]? = some x ∧ l.drop (i + 1) = m := by
 have h1 : (l.drop i)[0]? = some x := by rw [h]; rfl
 have h2 : (l.drop i).drop 1 = m := by rw [h]; rfl
 rw [List.getElem?_drop, Nat.add_zero] at h1
 rw [List.drop_drop] at h2
 exact ⟨h1, h2⟩
theorem flatFs_run {β : Bet} {xs ys : List AV} {cs ds : Array Value} (hx : VRs β xs cs.toList) (hy : VRs β ys ds.toList) (d : Nat) (w : World) : ∀ (fs : List Field) (i : Nat) (eqs : List EqF) (b : Bool), flatFs P i fs = some eqs → eqFs eqs (xs.drop i) (ys.drop i) = some b →
  (Op.eqFields (d + 1) cs ds fs).run P w = .ok b w
 | [], i, eqs, b, h, e => by
  simp only [flatFs, Option.some.injEq] at h
  subst h
  unfold eqFs at e
  split at e
  ·simp only [Option.some.injEq] at e; subst e; simp [Op.eqFields]
  ·rename_i hh _ _; cases hh
  ·cases e
 | f :: fs, i, eqs, b, h, e => by
  unfold flatFs at h
  split at h
  ·rename_i hf
   obtain ⟨hoff, hname⟩ := hf
   simp only [Option.bind_eq_bind, Option.bind_eq_some_iff, Option.pure_def, Option.some.injEq] at h
   obtain ⟨g, hg, gs, hgs, rfl⟩ := h
   cases hx1 : xs.drop i with
   | nil => rw [hx1] at e; simp [eqFs] at e
   | cons x xs' =>
    cases hy1 : ys.drop i with
    | nil => rw [hx1, hy1] at e; simp [eqFs] at e
    | cons y ys' =>
     rw [hx1, hy1] at e
     obtain ⟨p1, p2⟩ := drop_cons hx1
     obtain ⟨q1, q2⟩ := drop_cons hy1
     obtain ⟨u, u1, u2⟩ := hx.get p1
     obtain ⟨u', u1', u2'⟩ := hy.get q1
     have a1 : cs[i]? = some u := by simpa using u1
     have a2 : ds[i]? = some u' := by simpa using u1'
     simp only [eqFs] at e
     cases hb : g x y with
     | none => rw [hb] at e; cases e
     | some b1 =>
      rw [hb] at e
      have hin := eqB_in hg hb u2 u2' d w
      cases b1 with
      | false =>
       simp only [Option.some.injEq] at e; subst e
       simp [Op.eqFields, hname, part, eqB_isA hg, hoff, a1, a2, hin]
      | true =>
       simp only at e
       rw [← p2, ← q2] at e
       have ih := flatFs_run hx hy d w fs (i + 1) gs b hgs e
       simp [Op.eqFields, hname, part, eqB_isA hg, hoff, a1, a2, hin, ih]
  ·cases h
theorem eqT_ok {t : TypeId} {eq : EqF} (h : eqT P t = some eq) : EqOk P t eq := by
 unfold eqT at h
 split at h
 ·rename_i fs hu
  split at h
  ·rename_i hh
   simp only [Option.map_eq_some_iff] at h
   obtain ⟨eqs, h1, rfl⟩ := h
   intro β x y u u' b e hx hy w
   unfold eqSt at e
   split at e
   ·rename_i xs ys
    simp only [VR] at hx hy
    obtain ⟨cs, rfl, hcs⟩ := hx
    obtain ⟨ds, rfl, hds⟩ := hy
    have hfo : P.fieldsOf t = fs := by unfold Program.fieldsOf; rw [hu]
    have hrun := flatFs_run hcs hds 9998 w fs.toList 0 eqs b h1 (by simpa using e)
    have hin := run_equalIn_struct w 9999 t cs ds (by rw [hfo]; exact hu) hh.1
    rw [hfo] at hin
    have hin' : (Op.equalIn 10000 t (.agg cs) (.agg ds)).run P w = .ok b w := hin.trans hrun
    exact ⟨fun op a a' => run_eqGuard_agg w op t a a' cs ds hh.2, by rw [run_eql_struct, hin']; rfl, by rw [run_neq_struct, hin']; rfl⟩
   ·cases e
  ·cases h
 ·exact eqB_ok h
theorem op_eql {op : BinOp} {neg : Bool} {eq : EqF} {t t' : TypeId} {y z : Operand} {xy xz : XV} (ho : o.op = .binOp op t y z t') (hop : (op = .eql ∧ neg = false) ∨ (op = .neq ∧ neg = true)) (hy : cV y = some xy) (hz : cV z = some xz) (hw : WF h) (heq : EqOk P t eq)
  (e : oEql eq neg xy xz c call sl h k = some r) : Says P ng o c sl h k r := by
 unfold oEql at e
 split at e
 ·rename_i b hb
  refine ⟨_, h, boolK_some e, did_bin ho hy hz hw fun β w u u' k1 k2 => ?_⟩
  obtain ⟨h1, h2, h3⟩ := heq β _ _ u u' b hb k1 k2 w
  rcases hop with ⟨rfl, rfl⟩ | ⟨rfl, rfl⟩
  ·exact ⟨h1 _ _ _, _, h2, by cases b <;> simp [VR]⟩
  ·exact ⟨h1 _ _ _, _, h3, by cases b <;> simp [VR]⟩
 ·cases e
end
section
variable {P : Program} {ng : Nat} {o : Oper} {c : C} {call : Caller} {sl : Tr AV} {h : H} {k : Kont} {r : Tr AV × H}
def NegOp (op : BinOp) (neg : Bool) : Prop := (op = .eql ∧ neg = false) ∨ (op = .neq ∧ neg = true)
theorem did_nil {op : BinOp} {neg q : Bool} {t t' : TypeId} {y : Operand} {n : Value} {xy : XV} (ho : o.op = .binOp op t y (.const n) t') (hop : NegOp op neg) (hy : cV y = some xy) (hw : WF h)
  (hrun : ∀ β (w : World) u, VR β (evV sl xy) u → (∀ op' a a', (eqGuard op' t a a' u n).run P w = .ok () w) ∧ (binOp .eql t u n).run P w = .ok (.bool q) w ∧ (binOp .neq t u n).run P w = .ok (.bool (!q)) w) : Did P ng o c sl h (.bool (bne q neg)) h := by
 refine did_pure hw fun β a w hr hopr => ?_
 obtain ⟨h1, h2, h3⟩ := hrun β w (a.eval y) (hopr y (by simp [ho, Op.operands]) xy hy)
 have e : a.eval (.const n) = n := rfl
 rcases hop with ⟨rfl, rfl⟩ | ⟨rfl, rfl⟩
 ·exact ⟨.bool q, by simp [execOp, ho, e, h1, h2], by cases q <;> simp [VR]⟩
 ·exact ⟨.bool (!q), by simp [execOp, ho, e, h1, h3], by cases q <;> simp [VR]⟩
theorem nil_runs {t : TypeId} {u n : Value} {q : Bool} (w : World) (hg : ∀ op' a a', (eqGuard op' t a a' u n).run P w = .ok () w) (hin : ∀ d, (Op.equalIn (d + 1) t u n).run P w = .ok q w)
  (h1 : binOp .eql t u n = (do pure (.bool (← Op.equal t u n)))) (h2 : binOp .neq t u n = (do pure (.bool (!(← Op.equal t u n))))) :
  (∀ op' a a', (eqGuard op' t a a' u n).run P w = .ok () w) ∧ (binOp .eql t u n).run P w = .ok (.bool q) w ∧ (binOp .neq t u n).run P w = .ok (.bool (!q)) w := by
 have hin' : (Op.equal t u n).run P w = .ok q w := hin 9999
 exact ⟨hg, by rw [h1]; simp [hin'], by rw [h2]; simp [hin']⟩
theorem op_nilP {op : BinOp} {neg : Bool} {t t' e0 : TypeId} {y : Operand} {xy : XV} (ho : o.op = .binOp op t y (.const (.pointer none)) t') (hop : NegOp op neg) (ht : P.underlying t = some (.pointer e0)) (hy : cV y = some xy) (hw : WF h) (e : oNilP neg xy c call sl h k = some r) : Says P ng o c sl h k r := by
 unfold oNilP at e
 split at e
 ·rename_i hv
  refine ⟨_, h, e, ?_⟩
  have := did_nil (P := P) (ng := ng) (c := c) (sl := sl) (q := true) ho hop hy hw fun β w u hu => by
   rw [hv] at hu; simp only [VR] at hu; subst hu
   exact nil_runs w (fun op' a a' => by cases op' <;> simp [eqGuard]) (fun d => by simp [Op.equalIn, run_underlying ht]) rfl rfl
  rcases hop with ⟨_, rfl⟩ | ⟨_, rfl⟩ <;> exact this
 ·rename_i id off hv
  refine ⟨_, h, e, ?_⟩
  have := did_nil (P := P) (ng := ng) (c := c) (sl := sl) (q := false) ho hop hy hw fun β w u hu => by
   rw [hv] at hu; simp only [VR] at hu
   obtain ⟨L, _, rfl⟩ := hu
   exact nil_runs w (fun op' a a' => by cases op' <;> simp [eqGuard]) (fun d => by simp [Op.equalIn, run_underlying ht]) rfl rfl
  rcases hop with ⟨_, rfl⟩ | ⟨_, rfl⟩ <;> exact this
 ·cases e
theorem op_nilS {op : BinOp} {neg : Bool} {t t' e0 : TypeId} {y : Operand} {xy : XV} (ho : o.op = .binOp op t y (.const (.slice none 0 0)) t') (hop : NegOp op neg) (ht : P.underlying t = some (.slice e0)) (hy : cV y = some xy) (hw : WF h) (e : oNilS neg xy c call sl h k = some r) : Says P ng o c sl h k r := by
 unfold oNilS at e
 split at e
 ·rename_i hv
  refine ⟨_, h, e, ?_⟩
  have := did_nil (P := P) (ng := ng) (c := c) (sl := sl) (q := true) ho hop hy hw fun β w u hu => by
   rw [hv] at hu; simp only [VR] at hu; subst hu
   exact nil_runs w (fun op' a a' => by cases op' <;> simp [eqGuard]) (fun d => by simp [Op.equalIn, run_underlying ht]) rfl rfl
  rcases hop with ⟨_, rfl⟩ | ⟨_, rfl⟩ <;> exact this
 ·rename_i hv
  refine ⟨_, h, e, ?_⟩
  have := did_nil (P := P) (ng := ng) (c := c) (sl := sl) (q := false) ho hop hy hw fun β w u hu => by
   rw [hv] at hu; simp only [VR] at hu
   obtain ⟨L, oo, cp, _, rfl, _⟩ := hu
   exact nil_runs w (fun op' a a' => by cases op' <;> simp [eqGuard]) (fun d => by simp [Op.equalIn, run_underlying ht]) rfl rfl
  rcases hop with ⟨_, rfl⟩ | ⟨_, rfl⟩ <;> exact this
 ·cases e
theorem op_nilM {op : BinOp} {neg : Bool} {t t' e0 e1 : TypeId} {y : Operand} {xy : XV} (ho : o.op = .binOp op t y (.const (.map none)) t') (hop : NegOp op neg) (ht : P.underlying t = some (.map e0 e1)) (hy : cV y = some xy) (hw : WF h) (e : oNilM neg xy c call sl h k = some r) : Says P ng o c sl h k r := by
 unfold oNilM at e
 split at e
 ·rename_i hv
  refine ⟨_, h, e, ?_⟩
  have := did_nil (P := P) (ng := ng) (c := c) (sl := sl) (q := true) ho hop hy hw fun β w u hu => by
   rw [hv] at hu; simp only [VR] at hu; subst hu
   exact nil_runs w (fun op' a a' => by cases op' <;> simp [eqGuard]) (fun d => by simp [Op.equalIn, run_underlying ht]) rfl rfl
  rcases hop with ⟨_, rfl⟩ | ⟨_, rfl⟩ <;> exact this
 ·rename_i hv
  refine ⟨_, h, e, ?_⟩
  have := did_nil (P := P) (ng := ng) (c := c) (sl := sl) (q := false) ho hop hy hw fun β w u hu => by
   rw [hv] at hu; simp only [VR] at hu
   obtain ⟨L, _, rfl⟩ := hu
   exact nil_runs w (fun op' a a' => by cases op' <;> simp [eqGuard]) (fun d => by simp [Op.equalIn, run_underlying ht]) rfl rfl
  rcases hop with ⟨_, rfl⟩ | ⟨_, rfl⟩ <;> exact this
 ·cases e
theorem op_nilF {op : BinOp} {neg v0 : Bool} {t t' : TypeId} {ps rs : Array TypeId} {y : Operand} {xy : XV} (ho : o.op = .binOp op t y (.const .nilFunc) t') (hop : NegOp op neg) (ht : P.underlying t = some (.func ps rs v0)) (hy : cV y = some xy) (hw : WF h) (e : oNilF neg xy c call sl h k = some r) : Says P ng o c sl h k r := by
 unfold oNilF at e
 split at e
 ·rename_i hv
  refine ⟨_, h, e, ?_⟩
  have := did_nil (P := P) (ng := ng) (c := c) (sl := sl) (q := true) ho hop hy hw fun β w u hu => by
   rw [hv] at hu; simp only [VR] at hu; subst hu
   exact nil_runs w (fun op' a a' => by cases op' <;> simp [eqGuard]) (fun d => by simp [Op.equalIn, run_underlying ht]) rfl rfl
  rcases hop with ⟨_, rfl⟩ | ⟨_, rfl⟩ <;> exact this
 ·rename_i hv
  refine ⟨_, h, e, ?_⟩
  have := did_nil (P := P) (ng := ng) (c := c) (sl := sl) (q := false) ho hop hy hw fun β w u hu => by
   rw [hv] at hu; simp only [VR] at hu
   obtain ⟨ds, rfl, _⟩ := hu
   exact nil_runs w (fun op' a a' => by cases op' <;> simp [eqGuard]) (fun d => by simp [Op.equalIn, run_underlying ht]) rfl rfl
  rcases hop with ⟨_, rfl⟩ | ⟨_, rfl⟩ <;> exact this
 ·cases e
theorem did_nilC {op : BinOp} {neg q : Bool} {t t' : TypeId} {y : Operand} {n : Value} {xy : XV} (ho : o.op = .binOp op t y (.const n) t') (hop : NegOp op neg) (hy : cV y = some xy) (hw : WF h)
  (hrun : ∀ β (w : World) u, VR β (evV sl xy) u → (∀ op' a, (eqGuard op' t a (.const n) u n).run P w = .ok () w) ∧ (binOp .eql t u n).run P w = .ok (.bool q) w ∧ (binOp .neq t u n).run P w = .ok (.bool (!q)) w) : Did P ng o c sl h (.bool (bne q neg)) h := by
 refine did_pure hw fun β a w hr hopr => ?_
 obtain ⟨h1, h2, h3⟩ := hrun β w (a.eval y) (hopr y (by simp [ho, Op.operands]) xy hy)
 have e : a.eval (.const n) = n := rfl
 rcases hop with ⟨rfl, rfl⟩ | ⟨rfl, rfl⟩
 ·exact ⟨.bool q, by simp [execOp, ho, e, h1, h2], by cases q <;> simp [VR]⟩
 ·exact ⟨.bool (!q), by simp [execOp, ho, e, h1, h3], by cases q <;> simp [VR]⟩
theorem nil_runsC {t : TypeId} {u n : Value} {q : Bool} (w : World) (hg : ∀ op' a, (eqGuard op' t a (.const n) u n).run P w = .ok () w) (hin : ∀ d, (Op.equalIn (d + 1) t u n).run P w = .ok q w)
  (h1 : binOp .eql t u n = (do pure (.bool (← Op.equal t u n)))) (h2 : binOp .neq t u n = (do pure (.bool (!(← Op.equal t u n))))) :
  (∀ op' a, (eqGuard op' t a (.const n) u n).run P w = .ok () w) ∧ (binOp .eql t u n).run P w = .ok (.bool q) w ∧ (binOp .neq t u n).run P w = .ok (.bool (!q)) w := by
 have hin' : (Op.equal t u n).run P w = .ok q w := hin 9999
 exact ⟨hg, by rw [h1]; simp [hin'], by rw [h2]; simp [hin']⟩
theorem op_nilI {op : BinOp} {neg : Bool} {t t' : TypeId} {ms : Array (String × TypeId)} {y : Operand} {xy : XV} (ho : o.op = .binOp op t y (.const .nilIface) t') (hop : NegOp op neg) (ht : P.underlying t = some (.interface ms)) (hy : cV y = some xy) (hw : WF h) (e : oNilI neg xy c call sl h k = some r) : Says P ng o c sl h k r := by
 unfold oNilI at e
 split at e
 ·rename_i hv
  refine ⟨_, h, e, ?_⟩
  have := did_nilC (P := P) (ng := ng) (c := c) (sl := sl) (q := true) ho hop hy hw fun β w u hu => by
   rw [hv] at hu; simp only [VR] at hu; subst hu
   exact nil_runsC w (fun op' a => by cases op' <;> simp [eqGuard]) (fun d => by simp [Op.equalIn, run_underlying ht]) rfl rfl
  rcases hop with ⟨_, rfl⟩ | ⟨_, rfl⟩ <;> exact this
 ·rename_i hv
  refine ⟨_, h, e, ?_⟩
  have := did_nilC (P := P) (ng := ng) (c := c) (sl := sl) (q := false) ho hop hy hw fun β w u hu => by
   rw [hv] at hu; simp only [VR] at hu
   obtain ⟨ds, rfl, _⟩ := hu
   exact nil_runsC w (fun op' a => by cases op' <;> simp [eqGuard]) (fun d => by simp [Op.equalIn, run_underlying ht]) rfl rfl
  rcases hop with ⟨_, rfl⟩ | ⟨_, rfl⟩ <;> exact this
 ·cases e
theorem get_map {w : World} {b : Nat} {es : Array MapEntry} {clock : Nat} (hb : w.heap[b]? = some (.map es clock)) : (getObj b).run P w = .ok (.map es clock) w := by simp [getObj, Sem.run, hb]
theorem set_map {w : World} {b : Nat} {es : Array MapEntry} {clock : Nat} (o' : Obj) (hb : w.heap[b]? = some (.map es clock)) : (setObj b o').run P w = .ok () { w with heap := w.heap.setIfInBounds b o' } := by simp [setObj, Sem.run, hb]
/-! one operand -/
theorem op_not {t : TypeId} {y : Operand} {x : XV} (ho : o.op = .unOp .not t y) (hx : cV y = some x) (hw : WF h) (e : oNot x c call sl h k = some r) : Says P ng o c sl h k r := by
 unfold oNot at e
 split at e
 ·rename_i b hv
  exact ⟨_, h, boolK_some e, did_not ho hx hv hw⟩
 ·cases e
theorem op_neg {t : TypeId} {y : Operand} {x : XV} (ho : o.op = .unOp .neg t y) (hx : cV y = some x) (hw : WF h) (e : oNeg x c call sl h k = some r) : Says P ng o c sl h k r := by
 unfold oNeg at e
 split at e
 ·rename_i p n hv
  have h2 := intW_some e
  refine ⟨.int p (p.wrap (-n)), h, h2, did_pure hw fun β a w hr hop => ?_⟩
  have k1 := hop y (by simp [ho, Op.operands]) x hx
  rw [hv] at k1; simp only [VR] at k1
  exact ⟨.int p (p.wrap (-n)), by simp [execOp, ho, Op.unary, Op.intArith, k1], by simp [VR]⟩
 ·cases e
theorem op_toInt {s d : TypeId} {k0 p : IntKind} {y : Operand} {x : XV} (ho : o.op = .convert s d y) (hs : P.underlying s = some (.int k0)) (hd : P.underlying d = some (.int p)) (hx : cV y = some x) (hw : WF h) (e : oToInt p x c call sl h k = some r) : Says P ng o c sl h k r := by
 unfold oToInt at e
 split at e
 ·rename_i q n hv
  have h2 := intW_some e
  refine ⟨_, h, h2, did_pure hw fun β a w hr hop => ?_⟩
  have k1 := hop y (by simp [ho, Op.operands]) x hx
  rw [hv] at k1; simp only [VR] at k1
  exact ⟨.int p (p.wrap n), by simp [execOp, ho, convert, run_underlying hs, run_underlying hd, Conv.intToInt, k1], by simp [VR]⟩
 ·cases e
theorem op_same {s d : TypeId} {y : Operand} {x : XV} (ho : o.op = .convert s d y) (hs : P.underlying s = some .string) (hd : P.underlying d = some .string) (hx : cV y = some x) (hw : WF h) (e : oSame x c call sl h k = some r) : Says P ng o c sl h k r := by
 unfold oSame at e
 split at e
 ·rename_i q hv
  refine ⟨_, h, e, did_pure hw fun β a w hr hop => ?_⟩
  have k1 := hop y (by simp [ho, Op.operands]) x hx
  rw [hv] at k1
  have k2 := k1
  simp only [VR] at k1
  obtain ⟨b, hb, _⟩ := k1
  exact ⟨a.eval y, by simp [execOp, ho, convert, run_underlying hs, run_underlying hd, hb], k2⟩
 ·cases e
/-! slices -/
theorem op_slice {t e0 : TypeId} {y : Operand} {lo hi : Option Operand} {xy : XV} {xl xh : Option XV} {esz : Nat} (ho : o.op = .slice t y lo hi none) (hy : cV y = some xy) (hl : cOpt lo = some xl) (hh : cOpt hi = some xh) (ht : P.underlying t = some (.slice e0)) (hs : szA P e0 = some esz) (hw : WF h)
  (e : oSlice esz xy xl xh c call sl h k = some r) : Says P ng o c sl h k r := by
 unfold oSlice at e
 split at e
 ·rename_i hv
  split at e
  ·rename_i h2 h3
   refine ⟨_, h, e, did_pure hw fun β a w hr hop => ?_⟩
   have k1 := hop y (by simp [ho, Op.operands]) xy hy
   rw [hv] at k1; simp only [VR] at k1
   have b1 := opt_of (β := β) (a := a) hl (fun z hz q hq => hop z (by subst hz; simp [ho, Op.operands]) q hq) h2
   have b2 := opt_of (β := β) (a := a) hh (fun z hz q hq => hop z (by subst hz; simp [ho, Op.operands]) q hq) h3
   refine ⟨.slice none 0 0, ?_, by simp [VR]⟩
   rcases b1 with ⟨rfl, _⟩ | ⟨z1, q1, rfl, e1⟩ <;> rcases b2 with ⟨rfl, _⟩ | ⟨z2, q2, rfl, e2⟩ <;>
    simp [execOp, ho, Instr.sliceAt, Instr.slice, Instr.sliceBounds, Instr.sliceBound, asIntOf, run_underlying ht, k1, szA_some hs, *]
  ·cases e
 ·rename_i id off n es cap hv
  split at e
  ·rename_i l u h2 h3
   cases hb : (Nat.ble l u && Nat.ble u n && Nat.beq es esz) with
   | false => rw [hb] at e; cases e
   | true =>
    rw [hb] at e
    simp only [Bool.and_eq_true] at hb
    have c1 := Nat.le_of_ble_eq_true hb.1.1
    have c2 := Nat.le_of_ble_eq_true hb.1.2
    have c3 : es = esz := Nat.eq_of_beq_eq_true hb.2
    subst c3
    simp only [cond, forceNat_eq] at e
    have d := did_slice (P := P) (ng := ng) (c := c) ho hy hl hh ht hs hv h2 h3 c1 c2 hw
    cases cap with
    | none => exact ⟨_, h, e, d⟩
    | some cp =>
     simp only [forceNat_eq] at e
     exact ⟨_, h, e, d⟩
  ·cases e
 ·cases e
theorem op_sliceS {t : TypeId} {y : Operand} {lo hi : Option Operand} {xy : XV} {xl xh : Option XV} (ho : o.op = .slice t y lo hi none) (hy : cV y = some xy) (hl : cOpt lo = some xl) (hh : cOpt hi = some xh) (ht : P.underlying t = some .string) (hw : WF h)
  (e : oSliceS xy xl xh c call sl h k = some r) : Says P ng o c sl h k r := by
 unfold oSliceS at e
 split at e
 ·rename_i s hv
  split at e
  ·rename_i l u h2 h3
   cases hb : (Nat.ble l u && Nat.ble u (lenN s)) with
   | false => rw [hb] at e; cases e
   | true =>
    rw [hb] at e
    simp only [Bool.and_eq_true] at hb
    have c1 := Nat.le_of_ble_eq_true hb.1
    have c2 := Nat.le_of_ble_eq_true hb.2
    rw [lenN_eq] at c2 h3
    simp only [cond] at e
    obtain ⟨_, e⟩ := dropK_some e
    obtain ⟨_, e⟩ := takeK_some e
    refine ⟨_, h, e, did_pure hw fun β a w hr hop => ?_⟩
    have k1 := hop y (by simp [ho, Op.operands]) xy hy
    rw [hv] at k1; simp only [VR] at k1
    obtain ⟨b, hbv, hbs⟩ := k1
    have hsz : s.length = b.size := by rw [← hbs]; simp
    have b1 := opt_of (β := β) (a := a) hl (fun z hz q hq => hop z (by subst hz; simp [ho, Op.operands]) q hq) h2
    have b2 := opt_of (β := β) (a := a) hh (fun z hz q hq => hop z (by subst hz; simp [ho, Op.operands]) q hq) h3
    refine ⟨.string (b.extract l u), ?_, ?_⟩
    ·have g1 : l ≤ u := c1
     have g2 : u ≤ b.size := by omega
     have g3 : ((l : Nat) : Int) ≤ ((u : Nat) : Int) := by omega
     have g4 : ((u : Nat) : Int) ≤ ((b.size : Nat) : Int) := by omega
     have g5 : s.length = b.size := hsz
     have g6 : ¬ b.size < l := by omega
     have g7 : ¬ u < l := by omega
     have g8 : ¬ b.size < u := by omega
     have g9 : ¬ ((b.size : Nat) : Int) < ((l : Nat) : Int) := by omega
     rcases b1 with ⟨rfl, q1⟩ | ⟨z1, q1, rfl, e1⟩ <;> rcases b2 with ⟨rfl, q2⟩ | ⟨z2, q2, rfl, e2⟩ <;>
      simp [execOp, ho, Instr.sliceAt, Instr.slice, Instr.sliceBounds, Instr.sliceBound, asIntOf, run_underlying ht, *]
    ·simp only [VR]
     refine ⟨_, rfl, ?_⟩
     rw [Lib.extract_data, ← hbs]
     simp [List.map_take, List.map_drop]
  ·cases e
 ·cases e
/-! len -/
theorem op_lenS {y : Operand} {x : XV} {t : TypeId} (ho : isLen o y t) (hx : cV y = some x) (ht : P.underlying t = some .string) (hw : WF h) (e : oLenS x c call sl h k = some r) : Says P ng o c sl h k r := by
 unfold oLenS at e
 split at e
 ·rename_i s hv
  rw [forceNat_eq, lenN_eq] at e
  exact ⟨_, h, e, did_len_str ho hx ht hv hw⟩
 ·cases e
theorem op_lenL {y : Operand} {x : XV} {t e0 : TypeId} (ho : isLen o y t) (hx : cV y = some x) (ht : P.underlying t = some (.slice e0)) (hw : WF h) (e : oLenL x c call sl h k = some r) : Says P ng o c sl h k r := by
 unfold oLenL at e
 split at e
 ·rename_i hv
  exact ⟨_, h, e, did_len_nils ho hx ht hv hw⟩
 ·rename_i hv
  exact ⟨_, h, e, did_len_sl ho hx ht hv hw⟩
 ·rename_i hv
  exact ⟨_, h, e, did_len_raw ho hx ht hv hw⟩
 ·cases e
theorem ER.len {β : Bet} : ∀ {xs : List (AV × AV × Nat)} {es : List MapEntry}, ER β xs es → xs.length = es.length
 | [], es, h => by have : es = [] := h; subst this; rfl
 | x :: xs, es, ⟨e, es', h1, _, _, _, h5⟩ => by subst h1; simp [ER.len h5]
theorem op_lenM {y : Operand} {x : XV} {t e0 e1 : TypeId} (ho : isLen o y t) (hx : cV y = some x) (ht : P.underlying t = some (.map e0 e1)) (hw : WF h) (e : oLenM x c call sl h k = some r) : Says P ng o c sl h k r := by
 unfold oLenM at e
 split at e
 ·rename_i hv
  refine ⟨_, h, e, did_pure hw fun β a w hr hop => ?_⟩
  have h1 := hop y (by unfold isLen at ho; simp [ho, Op.operands, Call.operands]) x hx
  rw [hv] at h1; simp only [VR] at h1
  exact ⟨.int .i64 (0 : Nat), len_run ho a w (by simp [Builtin.len_, h1, run_underlying ht, goInt]), by simp [VR]⟩
 ·rename_i id hv
  split at e
  ·rename_i es clock hg
   rw [forceNat_eq, lenN_eq] at e
   refine ⟨_, h, e, did_pure hw fun β a w hr hop => ?_⟩
   have h1 := hop y (by unfold isLen at ho; simp [ho, Op.operands, Call.operands]) x hx
   rw [hv] at h1; simp only [VR] at h1
   obtain ⟨L, hL, hu⟩ := h1
   obtain ⟨L', q1, _, ces, q2, q3⟩ := hr.at_ id _ (view_map hg)
   rw [hL] at q1; cases q1
   have hl : es.length = ces.size := by rw [q3.len]; simp
   exact ⟨.int .i64 ces.size, len_run ho a w (by simp [Builtin.len_, hu, run_underlying ht, get_map q2, goInt]), by simp [VR, hl]⟩
  ·cases e
 ·cases e
end
section
variable {P : Program} {ng : Nat} {o : Oper} {c : C} {call : Caller} {sl : Tr AV} {h : H} {k : Kont} {r : Tr AV × H}
/-! literals -/
theorem fold_set (off : Nat) : ∀ (l : List Value) (j0 : Nat) (cells : Array Value), ((l.zipIdx j0).foldl (fun cs (q : Value × Nat) => cs.setIfInBounds (off + q.2) q.1) cells).size = cells.size ∧
  ∀ i, ((l.zipIdx j0).foldl (fun cs (q : Value × Nat) => cs.setIfInBounds (off + q.2) q.1) cells)[i]? = if off + j0 ≤ i ∧ i < off + j0 + l.length ∧ i < cells.size then l[i - (off + j0)]? else cells[i]?
 | [], j0, cells => ⟨rfl, fun i => by simp; intro h1 h2; omega⟩
 | v :: l, j0, cells => by
  obtain ⟨h1, h2⟩ := fold_set off l (j0 + 1) (cells.setIfInBounds (off + j0) v)
  simp only [List.zipIdx_cons, List.foldl_cons]
  refine ⟨h1.trans (by simp), fun i => ?_⟩
  rw [h2 i]
  simp only [Array.size_setIfInBounds, List.length_cons]
  by_cases c1 : i = off + j0
  ·subst c1
   rw [if_neg (by omega), Array.getElem?_setIfInBounds]
   by_cases c2 : off + j0 < cells.size
   ·rw [if_pos rfl, if_pos c2, if_pos (by omega)]; simp
   ·rw [if_pos rfl, if_neg c2, if_neg (by omega)]
    rw [Array.getElem?_eq_none (by omega)]
  ·rw [Array.getElem?_setIfInBounds_ne (by omega)]
   by_cases c2 : off + (j0 + 1) ≤ i ∧ i < off + (j0 + 1) + l.length ∧ i < cells.size
   ·rw [if_pos c2, if_pos (by omega), show i - (off + j0) = (i - (off + (j0 + 1))) + 1 by omega]; simp
   ·rw [if_neg c2, if_neg (by omega)]
theorem splice_VRs {β : Bet} {l us : List AV} {cells vs : Array Value} {off : Nat} (hl : VRs β l cells.toList) (hu : VRs β us vs.toList) (hn : off + us.length ≤ l.length) :
  VRs β (l.take off ++ (us ++ l.drop (off + us.length))) (vs.zipIdx.foldl (fun cs (q : Value × Nat) => cs.setIfInBounds (off + q.2) q.1) cells).toList := by
 have e : vs.zipIdx.foldl (fun cs (q : Value × Nat) => cs.setIfInBounds (off + q.2) q.1) cells = (vs.toList.zipIdx 0).foldl (fun cs (q : Value × Nat) => cs.setIfInBounds (off + q.2) q.1) cells := by
  rw [← Array.foldl_toList, Array.toList_zipIdx]
 rw [e]
 obtain ⟨h1, h2⟩ := fold_set off vs.toList 0 cells
 have hlc := hl.length
 have huc := hu.length
 simp only [Array.length_toList] at hlc huc
 refine VRs.of (by simp [h1]; omega) fun i v u e1 e2 => ?_
 rw [Array.getElem?_toList, h2 i] at e2
 simp only [Nat.add_zero, Array.length_toList] at e2
 have e0 : (l.take off).length = off := by simp; omega
 by_cases c1 : i < off
 ·rw [List.getElem?_append_left (by omega), List.getElem?_take_of_lt c1] at e1
  rw [if_neg (by omega)] at e2
  obtain ⟨u', q1, q2⟩ := hl.get e1
  rw [Array.getElem?_toList, e2] at q1; cases q1; exact q2
 ·rw [List.getElem?_append_right (by omega), e0] at e1
  by_cases c2 : i - off < us.length
  ·rw [List.getElem?_append_left c2] at e1
   rw [if_pos (by omega)] at e2
   obtain ⟨u', q1, q2⟩ := hu.get e1
   rw [e2] at q1; cases q1; exact q2
  ·rw [List.getElem?_append_right (by omega), List.getElem?_drop] at e1
   rw [if_neg (by omega)] at e2
   obtain ⟨u', q1, q2⟩ := hl.get e1
   rw [show off + us.length + (i - off - us.length) = i by omega, Array.getElem?_toList, e2] at q1; cases q1; exact q2
def PM (β : Bet) (sl : Tr AV) (place : Nat → Option (Nat × Nat)) : List (Nat × Nat × XV) → List (Nat × Value) → Prop
 | [], qs => qs = []
 | p :: ps, qs => ∃ q qs', qs = q :: qs' ∧ place q.1 = some (p.1, p.2.1) ∧ VR β (evV sl p.2.2) q.2 ∧ PM β sl place ps qs'
theorem parts_some : ∀ (ps : List (Nat × Nat × XV)) (l : List AV) {R : Type} (f : List AV → Option R) (q : R), evParts sl ps l f = some q →
  ∃ l', f l' = some q ∧ l'.length = l.length ∧ ∀ β place (qs : List (Nat × Value)) (cells : Array Value), PM β sl place ps qs → VRs β l cells.toList → ∃ cells', Instr.fill place cells qs = some cells' ∧ VRs β l' cells'.toList
 | [], l, R, f, q, e => ⟨l, e, rfl, fun β place qs cells hp hl => by
   have : qs = [] := hp
   subst this
   exact ⟨cells, rfl, hl⟩⟩
 | p :: ps, l, R, f, q, e => by
  unfold evParts at e
  simp only at e
  cases hb : (Nat.beq (lenN (evV sl p.2.2).cells) p.2.1 && okT (evV sl p.2.2)) with
  | false => rw [hb] at e; cases e
  | true =>
   rw [hb] at e
   simp only [cond] at e
   rw [Bool.and_eq_true] at hb
   have hlen := Nat.eq_of_beq_eq_true hb.1
   rw [lenN_eq] at hlen
   obtain ⟨h1, e⟩ := spliceK_some e
   obtain ⟨l', h2, h3, h4⟩ := parts_some ps _ f q e
   refine ⟨l', h2, by rw [h3]; simp; omega, fun β place qs cells hp hl => ?_⟩
   obtain ⟨⟨i0, v0⟩, qs', rfl, q1, q2, q3⟩ := hp
   have hcv := q2.cells (okT_ne hb.2)
   have hcl : (evV sl p.2.2).cells.length = v0.cells.size := by have := hcv.length; simpa using this
   have hll : l.length = cells.size := by have := hl.length; simpa using this
   obtain ⟨cells', r1, r2⟩ := h4 β place qs' _ q3 (splice_VRs hl hcv h1)
   refine ⟨cells', ?_, r2⟩
   simp only [Instr.fill]
   simp only at q1
   rw [q1]
   simp only
   rw [if_neg]
   ·exact r1
   ·simp; omega
theorem PM_of {β : Bet} {a : Act} {place : Nat → Option (Nat × Nat)} : ∀ (ps : List (Nat × Operand)) (xs : List (Nat × Nat × XV)), cParts place ps = some xs → (∀ p ∈ ps, ∀ x, cV p.2 = some x → VR β (evV sl x) (a.eval p.2)) → PM β sl place xs (ps.map fun p => (p.1, a.eval p.2))
 | [], xs, h, _ => by simp only [cParts, Option.some.injEq] at h; subst h; rfl
 | p :: ps, xs, h, hv => by
  simp only [cParts, Option.bind_eq_bind, Option.bind_eq_some_iff, Option.pure_def, Option.some.injEq] at h
  obtain ⟨q, h1, x, h2, ys, h3, rfl⟩ := h
  refine ⟨_, _, rfl, h1, hv p (by simp) x h2, PM_of ps ys h3 fun p' hp' => hv p' (by simp [hp'])⟩
theorem zeroA_some {t : TypeId} {z : AV} (e : zeroA P t = some z) : ∃ i zv, P.info? t = some i ∧ i.zero = some zv ∧ ∀ β, VR β z zv := by
 unfold zeroA at e
 simp only [Option.bind_eq_bind, Option.bind_eq_some_iff] at e
 obtain ⟨i, h1, zv, h2, h3⟩ := e
 exact ⟨i, zv, h1, h2, fun β => cAV_VR h3⟩
theorem cCell_ne {v : Value} {z : AV} (e : cCell v = some z) : z ≠ .top := fun q => by
 subst q
 unfold cCell at e
 split at e <;> first | (cases e; done) | skip
 split at e <;> cases e
theorem cAV_ne {v : Value} {z : AV} (e : cAV v = some z) : z ≠ .top := fun q => by
 unfold cAV at e
 split at e
 ·rw [Option.map_eq_some_iff] at e; obtain ⟨_, _, h⟩ := e; rw [q] at h; cases h
 ·rw [Option.map_eq_some_iff] at e; obtain ⟨_, _, h⟩ := e; rw [q] at h; cases h
 ·exact cCell_ne e q
theorem zeroA_ne {t : TypeId} {z : AV} (e : zeroA P t = some z) : z ≠ .top := by
 unfold zeroA at e
 simp only [Option.bind_eq_bind, Option.bind_eq_some_iff] at e
 obtain ⟨i, h1, zv, h2, h3⟩ := e
 exact cAV_ne h3
theorem op_build {t : TypeId} {ps : Array (Nat × Operand)} {z : AV} {zv : Value} {place : Nat → Option (Nat × Nat)} {xs : List (Nat × Nat × XV)} (ho : o.op = .build t ps) (hp : cParts place ps.toList = some xs) (hz : ∀ β, VR β z zv) (hzn : z ≠ .top)
  (hb : ∀ qs cells, Instr.fill place zv.cells qs = some cells → P.built t qs = some cells) (hw : WF h) (e : oBuild z.cells xs c call sl h k = some r) : Says P ng o c sl h k r := by
 unfold oBuild at e
 obtain ⟨l', h1, h2, h3⟩ := parts_some xs _ _ r e
 refine ⟨_, h, h1, did_pure hw fun β a w hr hop => ?_⟩
 have hpm := PM_of (β := β) (sl := sl) (a := a) ps.toList xs hp fun p hpp x hx => hop p.2 (by
  simp only [ho, Op.operands]
  simp only [Array.toList_map, List.mem_map]
  exact ⟨p, hpp, rfl⟩) x hx
 obtain ⟨cells, q1, q2⟩ := h3 β place _ zv.cells hpm ((hz β).cells hzn)
 refine ⟨.agg cells, ?_, by simp only [VR]; exact ⟨_, rfl, q2⟩⟩
 have hrun := run_build w t (ps.map fun p => (p.1, a.eval p.2)) cells (by rw [Array.toList_map]; exact hb _ _ q1)
 simp [execOp, ho, hrun]
/-! rows of zeros -/
theorem flat_get (z : List AV) : ∀ (n i : Nat), i < n * z.length → ((List.replicate n z).flatten)[i]? = z[i % z.length]?
 | 0, i, h => by simp at h
 | n + 1, i, h => by
  rw [List.replicate_succ, List.flatten_cons]
  rcases Nat.lt_or_ge i z.length with x | x
  ·rw [List.getElem?_append_left x, Nat.mod_eq_of_lt x]
  ·rw [List.getElem?_append_right x, flat_get z n (i - z.length) (by rw [Nat.add_mul] at h; omega)]
   rw [Nat.mod_eq_sub_mod x]
theorem flat_len (z : List AV) (n : Nat) : ((List.replicate n z).flatten).length = n * z.length := by
 induction n with
 | zero => simp
 | succ n ih => rw [List.replicate_succ, List.flatten_cons, List.length_append, ih, Nat.add_mul]; omega
theorem made_VRs {β : Bet} {z : List AV} {zc : Array Value} {n esz : Nat} (hz : VRs β z zc.toList) (he : zc.size = esz) : VRs β (List.replicate n z).flatten ((Array.range (n * esz)).map (zc[· % zc.size]!)).toList := by
 have hl := hz.length
 simp only [Array.length_toList] at hl
 refine VRs.of (by rw [flat_len]; simp [hl, he]) fun i v u e1 e2 => ?_
 have hi : i < n * esz := by
  have := (List.getElem?_eq_some_iff.1 e2).1
  simpa using this
 have hpos : 0 < esz := by
  rcases Nat.eq_zero_or_pos esz with q | q
  ·subst q; simp at hi
  ·exact q
 rw [flat_get z n i (by rw [hl, he]; exact hi)] at e1
 obtain ⟨u', q1, q2⟩ := hz.get e1
 have hm : i % esz < zc.size := by rw [he]; exact Nat.mod_lt _ hpos
 have : u = u' := by
  simp [hi] at e2
  rw [Array.getElem?_toList, hl, he] at q1
  rw [he] at e2
  rw [getElem!_pos zc (i % esz) hm] at e2
  rw [Array.getElem?_eq_getElem hm] at q1
  cases q1; exact e2.symm
 rw [this]; exact q2
theorem appOk_some {e0 : TypeId} {s : Nat} (h : appOk P e0 = some s) : ∃ i zv, P.info? e0 = some i ∧ i.zero = some zv ∧ zv.cells.size = i.size ∧ i.bytes ≤ 1000000 ∧ s = i.size := by
 unfold appOk at h
 split at h
 ·rename_i i hi
  split at h
  ·rename_i z hz
   split at h
   ·rename_i hh
    cases h
    exact ⟨i, z, hi, hz, hh.1, hh.2, rfl⟩
   ·cases h
  ·cases h
 ·cases h
theorem op_bslice {t e0 : TypeId} {n s : Nat} {ps : Array (Nat × Operand)} {z : AV} {xs : List (Nat × Nat × XV)} (ho : o.op = .buildSlice t n ps) (ht : P.underlying t = some (.slice e0)) (ha : appOk P e0 = some s) (hz : zeroA P e0 = some z)
  (hp : cParts (fun i => some (i * s, s)) ps.toList = some xs) (hs : 0 < s) (hns : n * s ≤ 1000000) (hw : WF h) (e : oBslice n z.cells xs c call sl h k = some r) : Says P ng o c sl h k r := by
 unfold oBslice at e
 rw [repK_eq] at e
 obtain ⟨l', h1, h2, h3⟩ := parts_some xs _ _ r e
 obtain ⟨hlt, h1⟩ := newB_some h1
 obtain ⟨i, zv, i1, i2, i3, i4, rfl⟩ := appOk_some ha
 obtain ⟨i', zv', j1, j2, j3⟩ := zeroA_some hz
 rw [i1] at j1; cases j1
 rw [i2] at j2; cases j2
 have hzl : z.cells.length = i.size := by have := ((j3 (fun _ => none)).cells (zeroA_ne hz)).length; simpa [i3] using this
 refine ⟨_, _, h1, step_new hw hlt, fun β a w hgb hr hop hfr K Q hK => ?_⟩
 have hn := hfr h.n (Nat.le_refl _) (by simp)
 have hpm := PM_of (β := β) (sl := sl) (a := a) ps.toList xs hp fun p hpp x hx => hop p.2 (by
  simp only [ho, Op.operands]
  simp only [Array.toList_map, List.mem_map]
  exact ⟨p, hpp, rfl⟩) x hx
 obtain ⟨cells, q1, q2⟩ := h3 β _ _ _ hpm (made_VRs (n := n) ((j3 β).cells (zeroA_ne hz)) i3)
 have q1' : Instr.fill (fun j => some (j * i.size, i.size)) ((Array.range (n * i.size)).map (zv.cells[· % zv.cells.size]!)) (ps.map fun p => (p.1, a.eval p.2)).toList = some cells := by rw [Array.toList_map]; exact q1
 have hrun : (execOp a.eval o).run P w = .ok (.value (.slice (some ⟨w.heap.size, 0, none⟩) n n)) { w with heap := w.heap.push (.cells cells e0) } := by
  rcases Nat.eq_zero_or_pos n with z0 | z0
  ·subst z0
   have r0 : Array.range 0 = #[] := rfl
   have q3 : Instr.fill (fun j => some (j * i.size, i.size)) #[] (ps.map fun p => (p.1, a.eval p.2)).toList = some cells := by simpa [r0] using q1'
   have q4 : Instr.fill (fun j => some (j * i.size, i.size)) #[] (ps.toList.map fun p => (p.1, a.eval p.2)) = some cells := by rw [← Array.toList_map]; exact q3
   simp [execOp, ho, Instr.buildSlice, run_underlying ht, sizeOf, typeInfo, zeroValue, i1, i2, q4, newRow, r0]
  ·have hpos : ¬ n * i.size = 0 := by
    intro q
    rcases Nat.mul_eq_zero.1 q with q | q <;> omega
   have hb := run_buildSlice w t e0 n (ps.map fun p => (p.1, a.eval p.2)) cells i zv ht i1 i2 (by omega) hpos q1'
   simp [execOp, ho, hb]
 unfold Oper.wp
 rw [hrun]
 have hcl : cells.toList.length = n * i.size := by rw [← q2.length, h2, flat_len, hzl]
 refine hK _ _ _ (post_push (L := ⟨w.heap.size, 0, cells.toList.length, dv⟩) hr hlt hn rfl (by
  have := br_new (w := w) (w' := { w with heap := w.heap.push (.cells cells e0) }) (e := e0) q2 hn (by simp)
  exact this)) ?_
 simp only [VR]
 refine ⟨_, 0, n, upd_same _ _ _, rfl, Nat.le_refl _, ?_, Or.inl rfl, fun d hd => by cases hd; rfl⟩
 rw [lenN_eq, hzl, hcl]; simp
theorem op_mkslice {t e0 : TypeId} {s : Nat} {y1 y2 : Operand} {x1 x2 : XV} {z : AV} (ho : o.op = .makeSlice t y1 y2) (ht : P.underlying t = some (.slice e0)) (ha : appOk P e0 = some s) (hz : zeroA P e0 = some z) (hs : 0 < s)
  (h1 : cV y1 = some x1) (h2 : cV y2 = some x2) (hw : WF h) (e : oMkslice z.cells x1 x2 c call sl h k = some r) : Says P ng o c sl h k r := by
 unfold oMkslice at e
 split at e
 ·rename_i l cp v1 v2
  cases hb : (Nat.ble l cp && Nat.blt cp 1000000) with
  | false => rw [hb] at e; cases e
  | true =>
   rw [hb] at e
   simp only [Bool.and_eq_true] at hb
   have c1 := Nat.le_of_ble_eq_true hb.1
   have c2 : cp < 1000000 := by simpa [Nat.blt_eq] using hb.2
   simp only [cond, repK_eq] at e
   obtain ⟨hlt, e⟩ := newB_some e
   obtain ⟨i, zv, i1, i2, i3, i4, rfl⟩ := appOk_some ha
   obtain ⟨i', zv', j1, j2, j3⟩ := zeroA_some hz
   rw [i1] at j1; cases j1
   rw [i2] at j2; cases j2
   have hzl : z.cells.length = i.size := by have := ((j3 (fun _ => none)).cells (zeroA_ne hz)).length; simpa [i3] using this
   have asN : ∀ (v : AV) (n : Nat), asNat v = some n → ∃ p, v = .int p (.ofNat n) := fun v n hv => by
    unfold asNat at hv
    split at hv
    ·cases hv; exact ⟨_, rfl⟩
    ·cases hv
   obtain ⟨p1, w1⟩ := asN _ _ v1
   obtain ⟨p2, w2⟩ := asN _ _ v2
   refine ⟨_, _, e, step_new hw hlt, fun β a w hgb hr hop hfr K Q hK => ?_⟩
   have hn := hfr h.n (Nat.le_refl _) (by simp)
   have k1 := hop y1 (by simp [ho, Op.operands]) x1 h1
   have k2 := hop y2 (by simp [ho, Op.operands]) x2 h2
   rw [w1] at k1; rw [w2] at k2
   simp only [VR] at k1 k2
   have hby : ((i.bytes : Nat) : Int) * ((cp : Nat) : Int) ≤ 281474976710656 := by
    have : i.bytes * cp ≤ 1000000 * 1000000 := Nat.mul_le_mul i4 (by omega)
    have h3 : ((i.bytes * cp : Nat) : Int) ≤ ((1000000 * 1000000 : Nat) : Int) := Int.ofNat_le.2 this
    rw [Int.natCast_mul] at h3
    omega
   have hmk := run_make w t e0 i zv ht i1 i2 p1 p2 (l : Int) (cp : Int) (by omega) (by omega) hby (by omega)
   simp only [Int.toNat_natCast] at hmk
   have hrun : (execOp a.eval o).run P w = .ok (.value (.slice (some ⟨w.heap.size, 0, none⟩) l cp)) { w with heap := w.heap.push (.cells (madeCells zv.cells (cp * i.size)) e0) } := by
    have k1' : a.eval y1 = .int p1 (l : Int) := k1
    have k2' : a.eval y2 = .int p2 (cp : Int) := k2
    simp [execOp, ho, k1', k2', hmk]
   unfold Oper.wp
   rw [hrun]
   have hv := made_VRs (n := cp) ((j3 β).cells (zeroA_ne hz)) i3
   have hcl : (madeCells zv.cells (cp * i.size)).toList.length = cp * i.size := by simp [size_madeCells]
   refine hK _ _ _ (post_push (L := ⟨w.heap.size, 0, (madeCells zv.cells (cp * i.size)).toList.length, dv⟩) hr hlt hn rfl (by
    have := br_new (w := w) (w' := { w with heap := w.heap.push (.cells (madeCells zv.cells (cp * i.size)) e0) }) (e := e0) (cs := (madeCells zv.cells (cp * i.size)).toList) hv hn (by simp)
    exact this)) ?_
   simp only [VR]
   refine ⟨_, 0, cp, upd_same _ _ _, rfl, c1, ?_, Or.inl rfl, fun d hd => by cases hd; rfl⟩
   rw [lenN_eq, hzl, hcl]; simp
 ·cases e
/-! maps -/
theorem same_now {q : TypeId} {d : TypeDesc} {eq : EqF} (hq : P.underlying q = some d) (h : eqB P q = some eq) {β : Bet} {x y : AV} {u u' : Value} {b : Bool} (e : eq x y = some b) (hx : VR β x u) (hy : VR β y u') : Instr.sameNow d u u' = some b := by
 rcases eqB_cases h with ⟨k, hk, rfl⟩ | ⟨hk, rfl⟩ | ⟨hk, rfl⟩ <;> (rw [hq] at hk; cases hk)
 ·obtain ⟨p, m, n, rfl, rfl, rfl⟩ := eqInt_some e
  simp only [VR] at hx hy; subst hx hy
  simp [Instr.sameNow]
 ·obtain ⟨s, s', rfl, rfl, rfl⟩ := eqStr_some e
  simp only [VR] at hx hy
  obtain ⟨q, rfl, rfl⟩ := hx
  obtain ⟨q', rfl, rfl⟩ := hy
  simp only [Instr.sameNow, eqL_bytes, beq_toListBytes, ByteArray.toList_eq]
 ·obtain ⟨s, s', rfl, rfl, rfl⟩ := eqBl_some e
  simp only [VR] at hx hy; subst hx hy
  simp [Instr.sameNow]
theorem find_now {q : TypeId} {d : TypeDesc} {eq : EqF} (hq : P.underlying q = some d) (h : eqB P q = some eq) {β : Bet} {key : AV} {u : Value} (hk : VR β key u) : ∀ (es : List (AV × AV × Nat)) (ces : List MapEntry) (i : Nat) (f : Option (Nat × AV)), findE eq key es i = some f → ER β es ces →
  (f = none ∧ Instr.findNow d u ces i = some none) ∨ ∃ j v cv e ce, f = some (i + j, v) ∧ Instr.findNow d u ces i = some (some (i + j, cv)) ∧ VR β v cv ∧ es[j]? = some e ∧ ces[j]? = some ce ∧ eq key e.1 = some true ∧ v = e.2.1 ∧ cv = ce.val
 | [], ces, i, f, hf, he => by
  have : ces = [] := he
  subst this
  simp only [findE, Option.some.injEq] at hf
  exact Or.inl ⟨hf.symm, rfl⟩
 | e :: es, ces, i, f, hf, he => by
  obtain ⟨ce, ces', rfl, h1, h2, h3, h4⟩ := he
  simp only [findE] at hf
  cases hb : eq key e.1 with
  | none => rw [hb] at hf; cases hf
  | some b =>
   rw [hb] at hf
   have hs := same_now hq h hb hk h1
   cases b with
   | true =>
    simp only [Option.some.injEq] at hf
    exact Or.inr ⟨0, e.2.1, ce.val, e, ce, by rw [← hf]; rfl, by simp [Instr.findNow, hs], h2, rfl, rfl, hb, rfl, rfl⟩
   | false =>
    simp only at hf
    rcases find_now hq h hk es ces' (i + 1) f hf h4 with ⟨q1, q2⟩ | ⟨j, v, cv, e', ce', q1, q2, q3, q4, q5, q6⟩
    ·exact Or.inl ⟨q1, by simp [Instr.findNow, hs, q2]⟩
    ·refine Or.inr ⟨j + 1, v, cv, e', ce', by rw [q1]; congr 2; omega, ?_, q3, by simpa using q4, by simpa using q5, q6⟩
     simp only [Instr.findNow, hs]
     rw [q2]; congr 3; omega
theorem eqB_desc {q : TypeId} {eq : EqF} (h : eqB P q = some eq) : ∃ d, P.underlying q = some d := by
 rcases eqB_cases h with ⟨k, hk, _⟩ | ⟨hk, _⟩ | ⟨hk, _⟩ <;> exact ⟨_, hk⟩
theorem check_basic {q : TypeId} {eq : EqF} (h : eqB P q = some eq) (em : Bool) (n : Nat) (u : Value) (w : World) : (Instr.checkKey em (n + 1) q u).run P w = .ok () w := by
 unfold Instr.checkKey
 rcases eqB_cases h with ⟨k, hk, _⟩ | ⟨hk, _⟩ | ⟨hk, _⟩ <;> simp [run_underlying hk]
theorem eqB_same {t : TypeId} {eq : EqF} (heq : eqB P t = some eq) {β : Bet} {x y : AV} {u u' : Value} (e : eq x y = some true) (hx : VR β x u) (hy : VR β y u') : u' = u ∧ ∀ n, Instr.sameBits n u u = true := by
 rcases eqB_cases heq with ⟨k, hk, rfl⟩ | ⟨hk, rfl⟩ | ⟨hk, rfl⟩
 ·obtain ⟨p, m, n, rfl, rfl, hb⟩ := eqInt_some e
  have : m = n := by simpa using hb.symm
  subst this
  simp only [VR] at hx hy; subst hx hy
  exact ⟨rfl, fun n => by simp [Instr.sameBits]⟩
 ·obtain ⟨s, s', rfl, rfl, hb⟩ := eqStr_some e
  have hss : s = s' := by have := hb.symm; rw [eqL_eq] at this; simpa using this
  subst hss
  simp only [VR] at hx hy
  obtain ⟨q1, rfl, rfl⟩ := hx
  obtain ⟨q2, rfl, h2⟩ := hy
  have : q2 = q1 := by
   have := toNat_inj _ _ h2
   obtain ⟨⟨l1⟩⟩ := q1
   obtain ⟨⟨l2⟩⟩ := q2
   simp at this; rw [this]
  subst this
  exact ⟨rfl, fun n => by simp [Instr.sameBits, MapKept.bytes_beq]⟩
 ·obtain ⟨s, s', rfl, rfl, hb⟩ := eqBl_some e
  have : s = s' := by simpa using hb.symm
  subst this
  simp only [VR] at hx hy; subst hx hy
  exact ⟨rfl, fun n => by simp [Instr.sameBits]⟩
structure KeyOk (P : Program) (q : TypeId) (eq : EqF) : Prop where
 check : ∀ β key u, eq key key = some true → VR β key u → ∀ em (w : World), (Instr.checkKey em 10000 q u).run P w = .ok () w
 find : ∀ β key u, VR β key u → ∀ es ces f, findE eq key es 0 = some f → ER β es ces → ∀ (w : World), (f = none ∧ (Instr.findKey q u ces).run P w = .ok none w) ∨
  ∃ j v cv e ce, f = some (j, v) ∧ (Instr.findKey q u ces).run P w = .ok (some (j, cv)) w ∧ VR β v cv ∧ es[j]? = some e ∧ ces[j]? = some ce ∧ eq key e.1 = some true ∧ v = e.2.1 ∧ cv = ce.val
 same : ∀ β x y u u', eq x y = some true → VR β x u → VR β y u' → u' = u ∧ Instr.sameBits 10000 u u = true
theorem key_basic {q : TypeId} {eq : EqF} (heq : eqB P q = some eq) : KeyOk P q eq := by
 obtain ⟨d, hd⟩ := eqB_desc heq
 refine ⟨fun β key u _ _ em w => check_basic heq em 9999 u w, fun β key u hk es ces f hf he w => ?_, fun β x y u u' e hx hy => ⟨(eqB_same heq e hx hy).1, (eqB_same heq e hx hy).2 _⟩⟩
 rcases find_now hd heq hk es ces 0 f hf he with ⟨q1, q2⟩ | ⟨j, v, cv, e, ce, q1, q2, q3⟩
 ·exact Or.inl ⟨q1, MapKept.run_findKey hd q2⟩
 ·rw [Nat.zero_add] at q1 q2
  exact Or.inr ⟨j, v, cv, e, ce, q1, MapKept.run_findKey hd q2, q3⟩
/-! keys that are flat structs -/
theorem flat_same {β : Bet} : ∀ (fs : List Field) (i : Nat) (eqs : List EqF) (xs ys : List AV) (cs ds : List Value), flatFs P i fs = some eqs → eqFs eqs xs ys = some true → VRs β xs cs → VRs β ys ds → ds = cs ∧ ∀ c ∈ cs, ∀ n, Instr.sameBits n c c = true
 | [], i, eqs, xs, ys, cs, ds, h, e, hx, hy => by
  simp only [flatFs, Option.some.injEq] at h
  subst h
  cases xs with
  | cons x xs => simp [eqFs] at e
  | nil =>
   cases ys with
   | cons y ys => simp [eqFs] at e
   | nil =>
    simp only [VRs] at hx hy
    subst hx hy
    exact ⟨rfl, fun c hc => by cases hc⟩
 | f :: fs, i, eqs, xs, ys, cs, ds, h, e, hx, hy => by
  unfold flatFs at h
  split at h
  ·simp only [Option.bind_eq_bind, Option.bind_eq_some_iff, Option.pure_def, Option.some.injEq] at h
   obtain ⟨g, hg, gs, hgs, rfl⟩ := h
   cases xs with
   | nil => simp [eqFs] at e
   | cons x xs =>
    cases ys with
    | nil => simp [eqFs] at e
    | cons y ys =>
     simp only [VRs] at hx hy
     obtain ⟨u, us, rfl, u1, u2⟩ := hx
     obtain ⟨u', us', rfl, u1', u2'⟩ := hy
     simp only [eqFs] at e
     cases hb : g x y with
     | none => rw [hb] at e; cases e
     | some b1 =>
      rw [hb] at e
      cases b1 with
      | false => cases e
      | true =>
       simp only at e
       obtain ⟨s1, s2⟩ := eqB_same hg hb u1 u1'
       obtain ⟨t1, t2⟩ := flat_same fs (i + 1) gs xs ys us us' hgs e u2 u2'
       refine ⟨by rw [s1, t1], fun c hc => ?_⟩
       rcases List.mem_cons.1 hc with rfl | hc
       ·exact s2
       ·exact t2 c hc
  ·cases h
theorem flatFs_len : ∀ (fs : List Field) (i : Nat) (eqs : List EqF) (xs : List AV), flatFs P i fs = some eqs → eqFs eqs xs xs = some true → xs.length = fs.length
 | [], i, eqs, xs, h, e => by
  simp only [flatFs, Option.some.injEq] at h
  subst h
  cases xs with
  | nil => rfl
  | cons x xs => simp [eqFs] at e
 | f :: fs, i, eqs, xs, h, e => by
  unfold flatFs at h
  split at h
  ·simp only [Option.bind_eq_bind, Option.bind_eq_some_iff, Option.pure_def, Option.some.injEq] at h
   obtain ⟨g, hg, gs, hgs, rfl⟩ := h
   cases xs with
   | nil => simp [eqFs] at e
   | cons x xs =>
    simp only [eqFs] at e
    cases hb : g x x with
    | none => rw [hb] at e; cases e
    | some b1 =>
     rw [hb] at e
     cases b1 with
     | false => cases e
     | true =>
      simp only at e
      have := flatFs_len fs (i + 1) gs xs hgs e
      simp [this]
  ·cases h
theorem flat_mem : ∀ (fs : List Field) (i : Nat) (eqs : List EqF), flatFs P i fs = some eqs → ∀ f ∈ fs, ∃ j g, f.offset = i + j ∧ j < fs.length ∧ f.name ≠ "_" ∧ eqB P f.type = some g
 | [], i, eqs, _, f, hf => by cases hf
 | f0 :: fs, i, eqs, h, f, hf => by
  unfold flatFs at h
  split at h
  ·rename_i hh
   obtain ⟨hoff, hname⟩ := hh
   simp only [Option.bind_eq_bind, Option.bind_eq_some_iff, Option.pure_def, Option.some.injEq] at h
   obtain ⟨g, hg, gs, hgs, rfl⟩ := h
   rcases List.mem_cons.1 hf with rfl | hf
   ·exact ⟨0, g, by omega, by simp, hname, hg⟩
   ·obtain ⟨j, g', q1, q2, q3, q4⟩ := flat_mem fs (i + 1) gs hgs f hf
    exact ⟨j + 1, g', by omega, by simp; omega, q3, q4⟩
  ·cases h
theorem forIn_ok {w : World} {g : Field → PUnit → Sem (ForInStep PUnit)} : ∀ (fs : List Field), (∀ f ∈ fs, (g f ⟨⟩).run P w = .ok (.yield ⟨⟩) w) → (forIn (m := Sem) fs PUnit.unit g).run P w = .ok PUnit.unit w
 | [], _ => by simp
 | f :: fs, h => by
  have ih := forIn_ok fs fun f hf => h f (by simp [hf])
  rw [List.forIn_cons]
  simp only [Sem.run_bind, h f (by simp), Result.andThen_ok]
  exact ih
theorem eqT_struct {q : TypeId} {fs : Array Field} {eq : EqF} (hu : P.underlying q = some (.struct fs)) (h : eqT P q = some eq) : ∃ eqs, flatFs P 0 fs.toList = some eqs ∧ eq = eqSt eqs ∧ P.stoodInHeld q = false := by
 unfold eqT at h
 rw [hu] at h
 simp only at h
 split at h
 ·rename_i hh
  simp only [Option.map_eq_some_iff] at h
  obtain ⟨eqs, h1, h2⟩ := h
  exact ⟨eqs, h1, h2.symm, hh.1⟩
 ·cases h
theorem eqSt_some {eqs : List EqF} {x y : AV} {b : Bool} (e : eqSt eqs x y = some b) : ∃ xs ys, x = .agg xs ∧ y = .agg ys ∧ eqFs eqs xs ys = some b := by
 unfold eqSt at e
 split at e
 ·exact ⟨_, _, rfl, rfl, e⟩
 ·cases e
theorem key_struct {q : TypeId} {fs : Array Field} {eq : EqF} (hu : P.underlying q = some (.struct fs)) (h : eqT P q = some eq) : KeyOk P q eq := by
 obtain ⟨eqs, h1, rfl, h3⟩ := eqT_struct hu h
 have equal : ∀ β x y u u' b (w : World), eqSt eqs x y = some b → VR β x u → VR β y u' → (Op.equal q u u').run P w = .ok b w := fun β x y u u' b w e hx hy => by
  obtain ⟨xs, ys, ex, ey, e1⟩ := eqSt_some e
  subst ex ey
  simp only [VR] at hx hy
  obtain ⟨cs, rfl, hcs⟩ := hx
  obtain ⟨ds, rfl, hds⟩ := hy
  have hfo : P.fieldsOf q = fs := by unfold Program.fieldsOf; rw [hu]
  have hrun := flatFs_run hcs hds 9998 w fs.toList 0 eqs b h1 (by simpa using e1)
  have hin := run_equalIn_struct w 9999 q cs ds (by rw [hfo]; exact hu) h3
  rw [hfo] at hin
  exact hin.trans hrun
 have ask : ∀ β key u (w : World), VR β key u → ∀ (es : List (AV × AV × Nat)) (ces : List MapEntry) (i : Nat) (f : Option (Nat × AV)), findE (eqSt eqs) key es i = some f → ER β es ces →
   (f = none ∧ (Instr.findAsking q u ces i).run P w = .ok none w) ∨ ∃ j v cv e ce, f = some (i + j, v) ∧ (Instr.findAsking q u ces i).run P w = .ok (some (i + j, cv)) w ∧ VR β v cv ∧ es[j]? = some e ∧ ces[j]? = some ce ∧ eqSt eqs key e.1 = some true ∧ v = e.2.1 ∧ cv = ce.val := by
  intro β key u w hk es
  induction es with
  | nil =>
   intro ces i f hf he
   have : ces = [] := he
   subst this
   simp only [findE, Option.some.injEq] at hf
   exact Or.inl ⟨hf.symm, by simp [Instr.findAsking]⟩
  | cons e es ih =>
   intro ces i f hf he
   obtain ⟨ce, ces', rfl, h1', h2, h3', h4⟩ := he
   simp only [findE] at hf
   cases hb : eqSt eqs key e.1 with
   | none => rw [hb] at hf; cases hf
   | some b =>
    rw [hb] at hf
    have hs := equal β _ _ u ce.key b w hb hk h1'
    cases b with
    | true =>
     simp only [Option.some.injEq] at hf
     exact Or.inr ⟨0, e.2.1, ce.val, e, ce, by rw [← hf]; rfl, by simp [Instr.findAsking, hs], h2, rfl, rfl, hb, rfl, rfl⟩
    | false =>
     simp only at hf
     rcases ih ces' (i + 1) f hf h4 with ⟨q1, q2⟩ | ⟨j, v, cv, e', ce', q1, q2, q3, q4, q5, q6⟩
     ·exact Or.inl ⟨q1, by simp [Instr.findAsking, hs, q2]⟩
     ·refine Or.inr ⟨j + 1, v, cv, e', ce', by rw [q1]; congr 2; omega, ?_, q3, by simpa using q4, by simpa using q5, q6⟩
      simp only [Instr.findAsking, Sem.run_bind, hs, Result.andThen_ok, Bool.false_eq_true, if_false]
      rw [q2]; congr 3; omega
 refine ⟨fun β key u e hk em w => ?_, fun β key u hk es ces f hf he w => ?_, fun β x y u u' e hx hy => ?_⟩
 ·obtain ⟨xs, ys, rfl, hxy, e⟩ := eqSt_some e
  cases hxy
  simp only [VR] at hk
  obtain ⟨cs, rfl, hcs⟩ := hk
  have hl := flatFs_len fs.toList 0 eqs xs h1 e
  have hl2 := hcs.length
  have hsz : 0 + fs.toList.length ≤ cs.size := by simp only [Array.length_toList] at hl hl2 ⊢; omega
  show (Instr.checkKey em (9999 + 1) q (.agg cs)).run P w = .ok () w
  unfold Instr.checkKey
  simp only [Sem.run_bind, run_underlying hu, Result.andThen_ok]
  rw [← Array.forIn_toList]
  rw [forIn_ok (P := P) (w := w) fs.toList]
  ·rfl
  ·intro f hf
   obtain ⟨j, g, q1, q2, q3, q4⟩ := flat_mem fs.toList 0 eqs h1 f hf
   have hlt : j < cs.size := by omega
   have hoff : f.offset = j := by omega
   have hck : ∀ u, (Instr.checkKey em 9999 f.type u).run P w = .ok () w := fun u => check_basic q4 em 9998 u w
   simp [q3, part, eqB_isA q4, hoff, hlt, hck]
 ·have hfk : (Instr.findKey q u ces).run P w = (Instr.findAsking q u ces 0).run P w := by
   unfold Instr.findKey
   simp only [Sem.run_bind, run_underlying hu, Result.andThen_ok]
   cases ces with
   | nil => simp [Instr.findNow, Instr.findAsking]
   | cons ce ces => simp [Instr.findNow, Instr.sameNow]
  rw [hfk]
  have := ask β key u w hk es ces 0 f hf he
  simpa using this
 ·obtain ⟨xs, ys, rfl, rfl, e⟩ := eqSt_some e
  simp only [VR] at hx hy
  obtain ⟨cs, rfl, hcs⟩ := hx
  obtain ⟨ds, rfl, hds⟩ := hy
  obtain ⟨s1, s2⟩ := flat_same fs.toList 0 eqs xs ys cs.toList ds.toList h1 e hcs hds
  have : ds = cs := Array.ext' s1
  subst this
  refine ⟨rfl, ?_⟩
  show Instr.sameBits (9999 + 1) (.agg ds) (.agg ds) = true
  simp only [Instr.sameBits, beq_self_eq_true, Bool.true_and, List.all_eq_true]
  intro p hp
  obtain ⟨i, hi⟩ := List.getElem?_of_mem hp
  rw [List.getElem?_zip_eq_some] at hi
  have he : p.1 = p.2 := by
   have a1 := hi.1
   have a2 := hi.2
   exact Option.some.inj (a1.symm.trans a2)
  have hm : p.1 ∈ ds.toList := List.mem_of_getElem? hi.1
  rw [← he]
  exact s2 p.1 hm 9999
theorem key_ok {q : TypeId} {eq : EqF} (h : eqT P q = some eq) : KeyOk P q eq := by
 cases hu : P.underlying q with
 | none => unfold eqT eqB at h; rw [hu] at h; cases h
 | some d =>
  cases d with
  | struct fs => exact key_struct hu h
  | _ => exact key_basic (by unfold eqT at h; rw [hu] at h; exact h)
/-! keys that are pairs -/
theorem pair_of {g : EqF} {xs ys : List AV} {b : Bool} (e : eqFs [g, g] xs ys = some b) : ∃ x1 xs' y1 ys', xs = x1 :: xs' ∧ ys = y1 :: ys' ∧ ((g x1 y1 = some false ∧ b = false) ∨ (g x1 y1 = some true ∧ ∃ x2 y2, xs' = [x2] ∧ ys' = [y2] ∧ g x2 y2 = some b) ∨ (g x1 y1 = some true ∧ b = false ∧ ∃ x2 xs2 y2 ys2, xs' = x2 :: xs2 ∧ ys' = y2 :: ys2 ∧ g x2 y2 = some false)) := by
 cases xs with
 | nil => simp [eqFs] at e
 | cons x1 xs' =>
  cases ys with
  | nil => simp [eqFs] at e
  | cons y1 ys' =>
   refine ⟨x1, xs', y1, ys', rfl, rfl, ?_⟩
   simp only [eqFs] at e
   cases h1 : g x1 y1 with
   | none => rw [h1] at e; cases e
   | some b1 =>
    rw [h1] at e
    cases b1 with
    | false => simp only [Option.some.injEq] at e; exact Or.inl ⟨rfl, e.symm⟩
    | true =>
     simp only at e
     cases xs' with
     | nil => simp [eqFs] at e
     | cons x2 xs2 =>
      cases ys' with
      | nil => simp [eqFs] at e
      | cons y2 ys2 =>
       simp only [eqFs] at e
       cases h2 : g x2 y2 with
       | none => rw [h2] at e; cases e
       | some b2 =>
        rw [h2] at e
        cases b2 with
        | false =>
         simp only [Option.some.injEq] at e
         exact Or.inr (Or.inr ⟨rfl, e.symm, x2, xs2, y2, ys2, rfl, rfl, h2⟩)
        | true =>
         simp only at e
         cases xs2 with
         | cons _ _ => simp [eqFs] at e
         | nil =>
          cases ys2 with
          | cons _ _ => simp [eqFs] at e
          | nil =>
           simp only [eqFs, Option.some.injEq] at e
           subst e
           exact Or.inr (Or.inl ⟨rfl, x2, y2, rfl, rfl, h2⟩)
theorem equal_arr2 {q e0 : TypeId} {g : EqF} (hu : P.underlying q = some (.array 2 e0)) (hs : szA P e0 = some 1) (hg : eqB P e0 = some g) {β : Bet} {x y : AV} {u u' : Value} {b : Bool} (w : World) (e : eqSt [g, g] x y = some b) (hx : VR β x u) (hy : VR β y u') : (Op.equal q u u').run P w = .ok b w := by
 obtain ⟨xs, ys, rfl, rfl, e1⟩ := eqSt_some e
 simp only [VR] at hx hy
 obtain ⟨cs, rfl, hcs⟩ := hx
 obtain ⟨ds, rfl, hds⟩ := hy
 unfold szA at hs
 simp only [Option.map_eq_some_iff] at hs
 obtain ⟨i, hi, hsz⟩ := hs
 have hce : P.cellsOf e0 = 1 := by unfold Program.cellsOf; rw [hi]; exact hsz
 have hr2 : List.range 2 = [0, 1] := rfl
 show (Op.equalIn (9999 + 1) q (.agg cs) (.agg ds)).run P w = _
 rw [run_equalIn_array w 9999 cs ds hu hi, hce, hr2]
 obtain ⟨x1, xs', y1, ys', rfl, rfl, hh⟩ := pair_of e1
 obtain ⟨u1, p1, p2⟩ := hcs.get (i := 0) rfl
 obtain ⟨v1, q1, q2⟩ := hds.get (i := 0) rfl
 have p1' : cs[0]? = some u1 := by simpa using p1
 have q1' : ds[0]? = some v1 := by simpa using q1
 rcases hh with ⟨h1, rfl⟩ | ⟨h1, x2, y2, rfl, rfl, h2⟩ | ⟨h1, rfl, x2, xs2, y2, ys2, rfl, rfl, h2⟩
 ·have k1 := eqB_in hg h1 p2 q2 9998 w
  simp [Op.eqItems, part, eqB_isA hg, p1', q1', k1]
 all_goals
  obtain ⟨u2, r1, r2⟩ := hcs.get (i := 1) rfl
  obtain ⟨v2, s1, s2⟩ := hds.get (i := 1) rfl
  have r1' : cs[1]? = some u2 := by simpa using r1
  have s1' : ds[1]? = some v2 := by simpa using s1
  have k1 := eqB_in hg h1 p2 q2 9998 w
  have k2 := eqB_in hg h2 r2 s2 9998 w
  first
   | (simp [Op.eqItems, part, eqB_isA hg, p1', q1', k1, r1', s1', k2]; done)
   | (cases b <;> simp [Op.eqItems, part, eqB_isA hg, p1', q1', k1, r1', s1', k2])
theorem ask_of {q : TypeId} {eq : EqF} (equal : ∀ β x y u u' b (w : World), eq x y = some b → VR β x u → VR β y u' → (Op.equal q u u').run P w = .ok b w) : ∀ β key u (w : World), VR β key u → ∀ (es : List (AV × AV × Nat)) (ces : List MapEntry) (i : Nat) (f : Option (Nat × AV)), findE eq key es i = some f → ER β es ces →
   (f = none ∧ (Instr.findAsking q u ces i).run P w = .ok none w) ∨ ∃ j v cv e ce, f = some (i + j, v) ∧ (Instr.findAsking q u ces i).run P w = .ok (some (i + j, cv)) w ∧ VR β v cv ∧ es[j]? = some e ∧ ces[j]? = some ce ∧ eq key e.1 = some true ∧ v = e.2.1 ∧ cv = ce.val := by
 intro β key u w hk es
 induction es with
 | nil =>
  intro ces i f hf he
  have : ces = [] := he
  subst this
  simp only [findE, Option.some.injEq] at hf
  exact Or.inl ⟨hf.symm, by simp [Instr.findAsking]⟩
 | cons e es ih =>
  intro ces i f hf he
  obtain ⟨ce, ces', rfl, h1', h2, h3', h4⟩ := he
  simp only [findE] at hf
  cases hb : eq key e.1 with
  | none => rw [hb] at hf; cases hf
  | some b =>
   rw [hb] at hf
   have hs := equal β _ _ u ce.key b w hb hk h1'
   cases b with
   | true =>
    simp only [Option.some.injEq] at hf
    exact Or.inr ⟨0, e.2.1, ce.val, e, ce, by rw [← hf]; rfl, by simp [Instr.findAsking, hs], h2, rfl, rfl, hb, rfl, rfl⟩
   | false =>
    simp only at hf
    rcases ih ces' (i + 1) f hf h4 with ⟨q1, q2⟩ | ⟨j, v, cv, e', ce', q1, q2, q3, q4, q5, q6⟩
    ·exact Or.inl ⟨q1, by simp [Instr.findAsking, hs, q2]⟩
    ·refine Or.inr ⟨j + 1, v, cv, e', ce', by rw [q1]; congr 2; omega, ?_, q3, by simpa using q4, by simpa using q5, q6⟩
     simp only [Instr.findAsking, Sem.run_bind, hs, Result.andThen_ok, Bool.false_eq_true, if_false]
     rw [q2]; congr 3; omega
theorem key_arr2 {q : TypeId} {eq : EqF} (h : eqA2 P q = some eq) : KeyOk P q eq := by
 unfold eqA2 at h
 split at h
 ·rename_i e0 hu
  split at h
  ·rename_i hs
   simp only [Option.map_eq_some_iff] at h
   obtain ⟨g, hg, rfl⟩ := h
   have hs' := hs
   unfold szA at hs'
   simp only [Option.map_eq_some_iff] at hs'
   obtain ⟨i, hi, hsz⟩ := hs'
   refine ⟨fun β key u e hk em w => ?_, fun β key u hk es ces f hf he w => ?_, fun β x y u u' e hx hy => ?_⟩
   ·obtain ⟨xs, ys, rfl, hxy, e⟩ := eqSt_some e
    cases hxy
    simp only [VR] at hk
    obtain ⟨cs, rfl, hcs⟩ := hk
    obtain ⟨x1, xs', y1, ys', hx1, hy1, hh⟩ := pair_of e
    rcases hh with ⟨h1, hb⟩ | ⟨h1, x2, y2, hx2, hy2, h2⟩ | ⟨h1, hb, _⟩
    ·cases hb
    ·subst hx2
     subst hx1
     obtain ⟨u1, p1, p2⟩ := hcs.get (i := 0) rfl
     obtain ⟨u2, r1, r2⟩ := hcs.get (i := 1) rfl
     have p1' : cs[0]? = some u1 := by simpa using p1
     have r1' : cs[1]? = some u2 := by simpa using r1
     have hck : ∀ u, (Instr.checkKey em 9999 e0 u).run P w = .ok () w := fun u => check_basic hg em 9998 u w
     have hso : (sizeOf e0).run P w = .ok 1 w := by rw [run_sizeOf w hi]; unfold Program.cellsOf; rw [hi]; simp [hsz]
     show (Instr.checkKey em (9999 + 1) q (.agg cs)).run P w = .ok () w
     unfold Instr.checkKey
     simp only [Sem.run_bind, run_underlying hu, Result.andThen_ok]
     simp only [Std.Legacy.Range.forIn_eq_forIn_range', Std.Legacy.Range.size, Nat.sub_zero, Nat.add_one_sub_one, Nat.div_one]
     simp [List.range', hso, part, eqB_isA hg, p1', r1', hck]
    ·cases hb
   ·have hfk : (Instr.findKey q u ces).run P w = (Instr.findAsking q u ces 0).run P w := by
     unfold Instr.findKey
     simp only [Sem.run_bind, run_underlying hu, Result.andThen_ok]
     cases ces with
     | nil => simp [Instr.findNow, Instr.findAsking]
     | cons ce ces => simp [Instr.findNow, Instr.sameNow]
    rw [hfk]
    have := ask_of (fun β x y u u' b w e hx hy => equal_arr2 hu hs hg w e hx hy) β key u w hk es ces 0 f hf he
    simpa using this
   ·obtain ⟨xs, ys, rfl, rfl, e⟩ := eqSt_some e
    simp only [VR] at hx hy
    obtain ⟨cs, rfl, hcs⟩ := hx
    obtain ⟨ds, rfl, hds⟩ := hy
    obtain ⟨x1, xs', y1, ys', rfl, rfl, hh⟩ := pair_of e
    rcases hh with ⟨h1, hb⟩ | ⟨h1, x2, y2, rfl, rfl, h2⟩ | ⟨h1, hb, _⟩
    ·cases hb
    ·simp only [VRs] at hcs hds
     obtain ⟨u1, us, c1, c2, u2, us2, rfl, c3, rfl⟩ := hcs
     obtain ⟨v1, vs, d1, d2, v2, vs2, rfl, d3, rfl⟩ := hds
     obtain ⟨k1, k2⟩ := eqB_same hg h1 c2 d2
     obtain ⟨k3, k4⟩ := eqB_same hg h2 c3 d3
     subst k1 k3
     have : ds = cs := Array.ext' (by rw [c1, d1])
     subst this
     refine ⟨rfl, ?_⟩
     show Instr.sameBits (9999 + 1) (.agg ds) (.agg ds) = true
     have hds2 : ds = #[v1, v2] := Array.ext' (by rw [c1])
     subst hds2
     simp [Instr.sameBits, k2 9999, k4 9999]
    ·cases hb
  ·cases h
 ·cases h
theorem key_okK {q : TypeId} {eq : EqF} (h : eqK P q = some eq) : KeyOk P q eq := by
 unfold eqK at h
 split at h
 ·rename_i e0 he
  cases h
  exact key_ok he
 ·exact key_arr2 h
theorem fitK_some {eq : EqF} {key : AV} {f : Unit → Out} (e : fitK eq key f = some r) : eq key key = some true ∧ f () = some r := by
 unfold fitK at e
 split at e
 ·exact ⟨by assumption, e⟩
 ·cases e
theorem run_zero {e0 : TypeId} {i : TypeInfo} {z : Value} (w : World) (h1 : P.info? e0 = some i) (h2 : i.zero = some z) : (zeroValue e0).run P w = .ok z w := by
 simp [zeroValue, run_typeInfo w h1, h2]
theorem op_lookup {t q e0 : TypeId} {y z : Operand} {ok : Bool} {xy xz : XV} {eq : EqF} {zz : AV} (ho : o.op = .lookup t y z ok) (ht : P.underlying t = some (.map q e0)) (heq : KeyOk P q eq) (hzz : zeroA P e0 = some zz) (hy : cV y = some xy) (hz : cV z = some xz) (hw : WF h)
  (e : oLookup eq zz xy xz ok c call sl h k = some r) : Says P ng o c sl h k r := by
 obtain ⟨i, zv, i1, i2, i3⟩ := zeroA_some hzz
 have out : ∀ (v : AV) (b : Bool), lookOut ok v b h k = some r → ∃ q, k q h = some r ∧ ∀ β u, VR β v u → VR β q (if ok then .tuple #[u, .bool b] else u) := fun v b e' => by
  unfold lookOut at e'
  cases ok with
  | true => exact ⟨_, e', fun β u hu => by simp only [if_true, VR]; exact ⟨_, rfl, by simp only [VRs, VR]; exact ⟨u, [.bool b], rfl, hu, .bool b, [], rfl, rfl, rfl⟩⟩⟩
  | false => exact ⟨_, e', fun β u hu => by simpa using hu⟩
 unfold oLookup at e
 obtain ⟨hfit, e⟩ := fitK_some e
 split at e
 ·rename_i hv
  obtain ⟨qv, k1, k2⟩ := out _ _ e
  refine ⟨qv, h, k1, did_pure hw fun β a w hr hop => ?_⟩
  have a1 := hop y (by simp [ho, Op.operands]) xy hy
  rw [hv] at a1; simp only [VR] at a1
  refine ⟨_, ?_, k2 β zv (i3 β)⟩
  have a2 := hop z (by simp [ho, Op.operands]) xz hz
  have hf : (Instr.findKey q (a.eval z) []).run P w = .ok none w := by
   rcases heq.find β _ _ a2 [] [] none rfl rfl w with ⟨_, q2⟩ | ⟨_, _, _, _, _, q1, _⟩
   ·exact q2
   ·cases q1
  simp [execOp, ho, Instr.lookup, run_underlying ht, a1, heq.check β _ _ hfit a2, hf, run_zero w i1 i2]
 ·rename_i id hv
  split at e
  ·rename_i es clock hg
   have body : ∀ β (a : Act) (w : World), HR c.floor β (view c h) w → OpsR β sl a o.op.operands.toList → ∃ L ces, β id = some L ∧ a.eval y = .map (some L.blk) ∧ w.heap[L.blk]? = some (.map ces clock) ∧ ER β es ces.toList ∧ VR β (evV sl xz) (a.eval z) := fun β a w hr hop => by
    have a1 := hop y (by simp [ho, Op.operands]) xy hy
    rw [hv] at a1; simp only [VR] at a1
    obtain ⟨L, hL, hu⟩ := a1
    obtain ⟨L', q1, _, ces, q2, q3⟩ := hr.at_ id _ (view_map hg)
    rw [hL] at q1; cases q1
    exact ⟨L, ces, hL, hu, q2, q3, hop z (by simp [ho, Op.operands]) xz hz⟩
   split at e
   ·rename_i j v hf
    obtain ⟨qv, k1, k2⟩ := out _ _ e
    refine ⟨qv, h, k1, did_pure hw fun β a w hr hop => ?_⟩
    obtain ⟨L, ces, b1, b2, b3, b4, b5⟩ := body β a w hr hop
    rcases heq.find β _ _ b5 es ces.toList _ hf b4 w with ⟨q1, _⟩ | ⟨j', v', cv, e', ce', q1, q2, q3, _⟩
    ·cases q1
    ·simp only [Option.some.injEq, Prod.mk.injEq] at q1
     obtain ⟨_, rfl⟩ := q1
     refine ⟨_, ?_, k2 β cv q3⟩
     simp [execOp, ho, Instr.lookup, run_underlying ht, b2, get_map b3, heq.check β _ _ hfit b5, q2]
   ·rename_i hf
    obtain ⟨qv, k1, k2⟩ := out _ _ e
    refine ⟨qv, h, k1, did_pure hw fun β a w hr hop => ?_⟩
    obtain ⟨L, ces, b1, b2, b3, b4, b5⟩ := body β a w hr hop
    rcases heq.find β _ _ b5 es ces.toList _ hf b4 w with ⟨_, q2⟩ | ⟨j', v', cv, e', ce', q1, _⟩
    ·refine ⟨_, ?_, k2 β zv (i3 β)⟩
     simp [execOp, ho, Instr.lookup, run_underlying ht, b2, get_map b3, heq.check β _ _ hfit b5, q2, run_zero w i1 i2]
    ·cases q1
   ·cases e
  ·cases e
 ·cases e
theorem setE_some {R : Type} {q : R} {v : AV} : ∀ {i : Nat} {es : List (AV × AV × Nat)} {f : List (AV × AV × Nat) → Option R}, setE v i es f = some q → ∃ es', f es' = some q ∧ ∀ β (ces : List MapEntry) (u : Value) (key : Value), ER β es ces → VR β v u → (∀ e, es[i]? = some e → VR β e.1 key) → ER β es' (ces.modify i fun e => { e with key := key, val := u })
 | i, [], f, e => by cases i <;> cases e
 | 0, e0 :: es, f, e => ⟨_, e, fun β ces u key he hv hk => by
   obtain ⟨ce, ces', rfl, h1, h2, h3, h4⟩ := he
   exact ⟨_, _, rfl, hk e0 rfl, hv, h3, h4⟩⟩
 | i + 1, e0 :: es, f, e => by
  obtain ⟨es', h1, h2⟩ := setE_some (i := i) (es := es) (f := fun es => f (e0 :: es)) e
  refine ⟨e0 :: es', h1, fun β ces u key he hv hk => ?_⟩
  obtain ⟨ce, ces', rfl, k1, k2, k3, k4⟩ := he
  exact ⟨ce, _, by simp [List.modify_succ_cons], k1, k2, k3, h2 β ces' u key k4 hv fun e' he' => hk e' (by simpa using he')⟩
theorem ER.append {β : Bet} : ∀ {xs ys : List (AV × AV × Nat)} {es fs : List MapEntry}, ER β xs es → ER β ys fs → ER β (xs ++ ys) (es ++ fs)
 | [], ys, es, fs, h, h' => by have : es = [] := h; subst this; exact h'
 | x :: xs, ys, es, fs, ⟨e, es', h1, h2, h3, h4, h5⟩, h' => by subst h1; exact ⟨e, _, rfl, h2, h3, h4, h5.append h'⟩
theorem op_mapup {t q e0 : TypeId} {y z v : Operand} {xy xz xv : XV} {eq : EqF} (ho : o.op = .mapUpdate t y z v ∨ o.op = .insert t y z v) (ht : P.underlying t = some (.map q e0)) (heq : KeyOk P q eq) (hy : cV y = some xy) (hz : cV z = some xz) (hv0 : cV v = some xv) (hw : WF h)
  (e : oMapup eq xy xz xv c call sl h k = some r) : Says P ng o c sl h k r := by
 unfold oMapup at e
 obtain ⟨hfit, e⟩ := fitK_some e
 split at e
 ·rename_i id hv
  split at e
  ·rename_i es clock hg
   obtain ⟨g1, g2⟩ := getB_get hg
   have hid : id < 10000000 := Nat.lt_of_lt_of_le (lt_of_get hw g1) hw.small
   have body : ∀ β (a : Act) (w : World), HR c.floor β (view c h) w → OpsR β sl a o.op.operands.toList → ∃ L ces, β id = some L ∧ a.eval y = .map (some L.blk) ∧ w.heap[L.blk]? = some (.map ces clock) ∧ ER β es ces.toList ∧ VR β (evV sl xz) (a.eval z) ∧ VR β (evV sl xv) (a.eval v) := fun β a w hr hop => by
    have a1 := hop y (by rcases ho with ho | ho <;> simp [ho, Op.operands]) xy hy
    rw [hv] at a1; simp only [VR] at a1
    obtain ⟨L, hL, hu⟩ := a1
    obtain ⟨L', q1, _, ces, q2, q3⟩ := hr.at_ id _ (view_map hg)
    rw [hL] at q1; cases q1
    exact ⟨L, ces, hL, hu, q2, q3, hop z (by rcases ho with ho | ho <;> simp [ho, Op.operands]) xz hz, hop v (by rcases ho with ho | ho <;> simp [ho, Op.operands]) xv hv0⟩
   have wr : ∀ (b : AB), c.floor ≤ id → (∀ β (a : Act) (w : World), HR c.floor β (view c h) w → OpsR β sl a o.op.operands.toList → ∃ L ces clock' , β id = some L ∧ (∃ ob, w.heap[L.blk]? = some ob) ∧ (execOp a.eval o).run P w = .ok .skip { w with heap := w.heap.setIfInBounds L.blk (.map ces clock') } ∧ ∃ es', b = .map es' clock' ∧ ER β es' ces.toList) →
     Did P ng o c sl h (.tup []) ⟨Tr.set depth h.t id b, h.n⟩ := fun b hf hb => by
    refine ⟨step_set hw g1 hf g2, fun β a w hgb hr hop hfr K Q hK => ?_⟩
    obtain ⟨L, ces, clock', b1, ⟨ob, b2⟩, b3, es', rfl, b5⟩ := hb β a w hr hop
    unfold Oper.wp
    rw [b3]
    have hs := MapKept.heap_set (o' := Obj.map ces clock') b2
    refine hK β undef _ (post_write (b := .map es' clock') hr (view_map hg) b1 hf (fun B hB => hs.2 B hB) (by simp) rfl rfl rfl ⟨ces, hs.1, b5⟩ (fun j d e => view_set hid e)) vr_undef
   split at e
   ·rename_i j v1 hf
    obtain ⟨es', e, h1⟩ := setE_some e
    obtain ⟨hfl, _, e⟩ := setB_some e
    refine ⟨_, _, e, wr _ hfl fun β a w hr hop => ?_⟩
    obtain ⟨L, ces, b1, b2, b3, b4, b5, b6⟩ := body β a w hr hop
    rcases heq.find β _ _ b5 es ces.toList _ hf b4 w with ⟨q1, _⟩ | ⟨j', v', cv, e', ce', q1, q2, q3, q4, q5, q6, q7, q8⟩
    ·cases q1
    ·simp only [Option.some.injEq, Prod.mk.injEq] at q1
     obtain ⟨rfl, rfl⟩ := q1
     have hER : ∀ (es : List (AV × AV × Nat)) (ces : List MapEntry) (j : Nat) e ce, ER β es ces → es[j]? = some e → ces[j]? = some ce → VR β e.1 ce.key := by
      intro es
      induction es with
      | nil => intro ces j e ce _ h1; simp at h1
      | cons x xs ih =>
       intro ces j e ce he h1 h2
       obtain ⟨y, ys, rfl, p1, p2, p3, p4⟩ := he
       cases j with
       | zero => simp at h1 h2; subst h1 h2; exact p1
       | succ j => exact ih ys j e ce p4 (by simpa using h1) (by simpa using h2)
     have hkey := hER es ces.toList j e' ce' b4 q4 q5
     obtain ⟨s1, s2⟩ := heq.same β _ _ _ _ q6 b5 hkey
     have q5' : ces[j]? = some ce' := by simpa using q5
     have hstay : (Instr.keyThatStays ce'.key (a.eval z)).run P w = .ok (a.eval z) w := by rw [s1]; simp [Instr.keyThatStays, s2]
     refine ⟨L, ces.modify j fun e => { e with key := a.eval z, val := a.eval v }, clock, b1, ⟨_, b3⟩, ?_, es', rfl, ?_⟩
     ·have hrun : (Instr.mapUpdate t (.map (some L.blk)) (a.eval z) (a.eval v)).run P w = .ok () { w with heap := w.heap.setIfInBounds L.blk (.map (ces.modify j fun e => { e with key := a.eval z, val := a.eval v }) clock) } := by
       simp [Instr.mapUpdate, run_underlying ht, get_map b3, heq.check β _ _ hfit b5, q2, q5', hstay, set_map _ b3]
      rcases ho with ho | ho <;> simp [execOp, ho, b2, hrun]
     ·have := h1 β ces.toList (a.eval v) (a.eval z) b4 b6 (fun e2 he2 => by
       rw [q4] at he2; cases he2; rw [← s1]; exact hkey)
      rw [Array.toList_modify]; exact this
   ·rename_i hf
    rw [appK_eq, forceNat_eq] at e
    obtain ⟨hfl, _, e⟩ := setB_some e
    refine ⟨_, _, e, wr _ hfl fun β a w hr hop => ?_⟩
    obtain ⟨L, ces, b1, b2, b3, b4, b5, b6⟩ := body β a w hr hop
    rcases heq.find β _ _ b5 es ces.toList _ hf b4 w with ⟨_, q2⟩ | ⟨j', v', cv, e', ce', q1, _⟩
    ·refine ⟨L, ces.push { key := a.eval z, val := a.eval v, born := clock }, clock + 1, b1, ⟨_, b3⟩, ?_, _, rfl, ?_⟩
     ·have hrun : (Instr.mapUpdate t (.map (some L.blk)) (a.eval z) (a.eval v)).run P w = .ok () { w with heap := w.heap.setIfInBounds L.blk (.map (ces.push { key := a.eval z, val := a.eval v, born := clock }) (clock + 1)) } := by
       simp [Instr.mapUpdate, run_underlying ht, get_map b3, heq.check β _ _ hfit b5, q2, set_map _ b3]
      rcases ho with ho | ho <;> simp [execOp, ho, b2, hrun]
     ·rw [Array.toList_push]
      exact b4.append ⟨_, [], rfl, b5, b6, rfl, rfl⟩
    ·cases q1
   ·cases e
  ·cases e
 ·cases e
end
end Go.Proofs.YtmdceifbbmnfgaaGreatDoor.Ev
