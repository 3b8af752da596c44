/- Soundness of the operations: greater and smaller, bits, arrays, slices with three indexes, copy, ranges over maps. -/
import Derived.Test.YtfoahdpnalbbgaaGreatDoorEvW
set_option linter.unusedVariables false
set_option linter.unusedSimpArgs false
namespace Go.Proofs.YtfoahdpnalbbgaaGreatDoor.Ev
open Go
section
variable {P : Program} {ng : Nat} {o : Oper} {c : C} {call : Caller} {sl : Tr AV} {h : H} {k : Kont} {r : Tr AV × H}
/-! greater and smaller -/
def isBi (o : Oper) (b : Builtin) (y z : Operand) (ts : Array TypeId) : Prop := o.op = .call { callee := .builtin b, args := #[y, z], argTypes := ts }
theorem isBi_ops {b : Builtin} {y z : Operand} {ts : Array TypeId} (ho : isBi o b y z ts) : y ∈ o.op.operands.toList ∧ z ∈ o.op.operands.toList := by
  unfold isBi at ho
  constructor <;> simp [ho, Op.operands, Call.operands]
theorem op_max {y z : Operand} {ts : Array TypeId} {xy xz : XV} (ho : isBi o .max y z ts) (hy : cV y = some xy) (hz : cV z = some xz) (hw : WF h) (e : ints fMax xy xz c call sl h k = some r) : Says P ng o c sl h k r := by
  obtain ⟨p, a, b, h1, h2, e⟩ := ints_some e
  obtain ⟨oy, oz⟩ := isBi_ops ho
  have hv : k (.int p (if b > a then b else a)) h = some r := by
    unfold fMax at e
    cases hb : ltI a b with
    | true => rw [hb] at e; rw [ltI_eq, decide_eq_true_eq] at hb; rw [if_pos hb]; exact e
    | false => rw [hb] at e; rw [ltI_eq, decide_eq_false_iff_not] at hb; rw [if_neg hb]; exact e
  refine ⟨_, h, hv, did_pure hw fun β A w hr hop => ?_⟩
  have k1 := hop y oy xy hy
  have k2 := hop z oz xz hz
  rw [h1] at k1; rw [h2] at k2
  simp only [VR] at k1 k2
  refine ⟨.int p (if b > a then b else a), ?_, by simp [VR]⟩
  unfold isBi at ho
  simp [execOp, ho, resolve, invoke, builtin, Builtin.max_, Builtin.max2, k1, k2]
theorem op_min {y z : Operand} {ts : Array TypeId} {xy xz : XV} (ho : isBi o .min y z ts) (hy : cV y = some xy) (hz : cV z = some xz) (hw : WF h) (e : ints fMin xy xz c call sl h k = some r) : Says P ng o c sl h k r := by
  obtain ⟨p, a, b, h1, h2, e⟩ := ints_some e
  obtain ⟨oy, oz⟩ := isBi_ops ho
  have hv : k (.int p (if b < a then b else a)) h = some r := by
    unfold fMin at e
    cases hb : ltI b a with
    | true => rw [hb] at e; rw [ltI_eq, decide_eq_true_eq] at hb; rw [if_pos hb]; exact e
    | false => rw [hb] at e; rw [ltI_eq, decide_eq_false_iff_not] at hb; rw [if_neg hb]; exact e
  refine ⟨_, h, hv, did_pure hw fun β A w hr hop => ?_⟩
  have k1 := hop y oy xy hy
  have k2 := hop z oz xz hz
  rw [h1] at k1; rw [h2] at k2
  simp only [VR] at k1 k2
  refine ⟨.int p (if b < a then b else a), ?_, by simp [VR]⟩
  unfold isBi at ho
  simp [execOp, ho, resolve, invoke, builtin, Builtin.min_, Builtin.min2, k1, k2]

/-! bits -/
theorem inR_lt {p : IntKind} {m : Nat} (h : inR p (.ofNat m) = true) : m < 2 ^ p.bits := by
  have e8 : (2 : Nat) ^ 8 = 256 := by decide
  have e16 : (2 : Nat) ^ 16 = 65536 := by decide
  have e32 : (2 : Nat) ^ 32 = 4294967296 := by decide
  have e64 : (2 : Nat) ^ 64 = 18446744073709551616 := by decide
  cases p <;> simp only [inR, IntKind.bits, Bool.false_eq_true] at h ⊢ <;> have := Nat.le_of_ble_eq_true h <;> omega
theorem bv_nat {w m : Nat} (h : m < 2 ^ w) : (BitVec.ofInt w (Int.ofNat m)).toNat = m := by
  rw [BitVec.toNat_ofInt]
  have h2 : ((2 ^ w : Nat) : Int) = (2 : Int) ^ w := by simp
  have : (Int.ofNat m) % ((2 ^ w : Nat) : Int) = Int.ofNat m := Int.emod_eq_of_lt (Int.natCast_nonneg m) (Int.ofNat_lt.2 h)
  simp only [this]
  rfl
theorem onNat_some {f : Nat → Nat → Nat} {p : IntKind} {a b : Int} (e : onNat f p a b h k = some r) : ∃ m n, a = .ofNat m ∧ b = .ofNat n ∧ m < 2 ^ p.bits ∧ n < 2 ^ p.bits ∧ p.wrap (.ofNat (f m n)) = .ofNat (f m n) ∧ k (.int p (.ofNat (f m n))) h = some r := by
  unfold onNat at e
  split at e
  · rename_i m n
    cases hb : (inR p (.ofNat m) && inR p (.ofNat n)) with
    | false => rw [hb] at e; cases e
    | true =>
      rw [hb] at e
      rw [Bool.and_eq_true] at hb
      obtain ⟨h1, h2⟩ := intK_some e
      exact ⟨m, n, rfl, rfl, inR_lt hb.1, inR_lt hb.2, h1, h2⟩
  · cases e
theorem fact_and {t : TypeId} : IntFact P .and t (onNat Nat.land) := fun p a b h k r e => by
  obtain ⟨m, n, rfl, rfl, h1, h2, h3, h4⟩ := onNat_some e
  refine ⟨_, h4, fun w => ⟨.int p (.ofNat (Nat.land m n)), ?_, fun β => by simp [VR]⟩⟩
  have hbv : ((BitVec.ofInt p.bits (Int.ofNat m)) &&& (BitVec.ofInt p.bits (Int.ofNat n))).toNat = Nat.land m n := by rw [BitVec.toNat_and, bv_nat h1, bv_nat h2]; rfl
  simp only [binOp, Op.intBits, ne_eq, not_true_eq_false, if_false, hbv, Sem.run_pure]
  exact congrArg (fun z => Result.ok (Value.int p z) w) h3
theorem fact_or {t : TypeId} : IntFact P .or t (onNat Nat.lor) := fun p a b h k r e => by
  obtain ⟨m, n, rfl, rfl, h1, h2, h3, h4⟩ := onNat_some e
  refine ⟨_, h4, fun w => ⟨.int p (.ofNat (Nat.lor m n)), ?_, fun β => by simp [VR]⟩⟩
  have hbv : ((BitVec.ofInt p.bits (Int.ofNat m)) ||| (BitVec.ofInt p.bits (Int.ofNat n))).toNat = Nat.lor m n := by rw [BitVec.toNat_or, bv_nat h1, bv_nat h2]; rfl
  simp only [binOp, Op.intBits, ne_eq, not_true_eq_false, if_false, hbv, Sem.run_pure]
  exact congrArg (fun z => Result.ok (Value.int p z) w) h3
theorem fact_xor {t : TypeId} : IntFact P .xor t (onNat Nat.xor) := fun p a b h k r e => by
  obtain ⟨m, n, rfl, rfl, h1, h2, h3, h4⟩ := onNat_some e
  refine ⟨_, h4, fun w => ⟨.int p (.ofNat (Nat.xor m n)), ?_, fun β => by simp [VR]⟩⟩
  have hbv : ((BitVec.ofInt p.bits (Int.ofNat m)) ^^^ (BitVec.ofInt p.bits (Int.ofNat n))).toNat = Nat.xor m n := by rw [BitVec.toNat_xor, bv_nat h1, bv_nat h2]; rfl
  simp only [binOp, Op.intBits, ne_eq, not_true_eq_false, if_false, hbv, Sem.run_pure]
  exact congrArg (fun z => Result.ok (Value.int p z) w) h3
theorem fact_andNot {t : TypeId} : IntFact P .andNot t fAndNot := fun p a b h k r e => by
  unfold fAndNot at e
  split at e
  · rename_i m n
    cases hb : (inR .u64 (.ofNat m) && inR .u64 (.ofNat n)) with
    | false => rw [hb] at e; cases e
    | true =>
      rw [hb] at e
      rw [Bool.and_eq_true] at hb
      obtain ⟨h3, h4⟩ := intK_some e
      have h1 := inR_lt hb.1
      have h2 := inR_lt hb.2
      refine ⟨_, h4, fun w => ⟨.int .u64 (.ofNat (Nat.land m (Nat.sub ones64 n))), ?_, fun β => by simp [VR]⟩⟩
      have hbv : ((BitVec.ofInt IntKind.u64.bits (Int.ofNat m)) &&& ~~~(BitVec.ofInt IntKind.u64.bits (Int.ofNat n))).toNat = Nat.land m (Nat.sub ones64 n) := by
        rw [BitVec.toNat_and, BitVec.toNat_not, bv_nat h1, bv_nat h2]
        rfl
      simp only [binOp, Op.intBits, ne_eq, not_true_eq_false, if_false, hbv, Sem.run_pure]
      exact congrArg (fun z => Result.ok (Value.int .u64 z) w) h3
  · cases e
theorem wide_bits {p : IntKind} (h : (kindEq p .u64 || kindEq p .i64) = true) : p.bits = 64 := by
  rw [Bool.or_eq_true] at h
  rcases h with h | h <;> rw [kindEq_iff h] <;> rfl
theorem op_shl {t t' : TypeId} {y z : Operand} {xy xz : XV} (ho : o.op = .binOp .shl t y z t') (hy : cV y = some xy) (hz : cV z = some xz) (hw : WF h) (e : oShl xy xz c call sl h k = some r) : Says P ng o c sl h k r := by
  unfold oShl at e
  split at e
  · rename_i p a q n h1 h2
    cases hb : (Nat.ble n 63 && (kindEq p .u64 || kindEq p .i64)) with
    | false => rw [hb] at e; cases e
    | true =>
      rw [hb] at e
      rw [Bool.and_eq_true] at hb
      have hn := Nat.le_of_ble_eq_true hb.1
      have hbits := wide_bits hb.2
      obtain ⟨h3, h4⟩ := intK_some e
      refine ⟨_, h, h4, did_bin ho hy hz hw fun β w u u' k1 k2 => ?_⟩
      rw [h1] at k1; rw [h2] at k2
      simp only [VR] at k1 k2; subst k1 k2
      refine ⟨by simp [eqGuard], .int p (Int.mul a (.ofNat (Nat.pow 2 n))), ?_, by simp [VR]⟩
      have hmin : min (Int.ofNat n).toNat p.bits = n := by rw [hbits]; simp; omega
      have hpow : a * 2 ^ n = Int.mul a (.ofNat (Nat.pow 2 n)) := by
        show a * 2 ^ n = a * (Int.ofNat (2 ^ n))
        congr 1
      have hneg : ¬ (Int.ofNat n < 0) := by simp
      simp only [binOp, Op.shift, hneg, if_false, hmin, Sem.run_pure]
      rw [hpow, h3]
  · cases e
theorem op_shr {t t' : TypeId} {y z : Operand} {xy xz : XV} (ho : o.op = .binOp .shr t y z t') (hy : cV y = some xy) (hz : cV z = some xz) (hw : WF h) (e : oShr xy xz c call sl h k = some r) : Says P ng o c sl h k r := by
  unfold oShr at e
  split at e
  · rename_i p m q n h1 h2
    cases hb : (Nat.ble n 63 && (kindEq p .u64 || kindEq p .i64)) with
    | false => rw [hb] at e; cases e
    | true =>
      rw [hb] at e
      rw [Bool.and_eq_true] at hb
      have hn := Nat.le_of_ble_eq_true hb.1
      have hbits := wide_bits hb.2
      obtain ⟨h3, h4⟩ := intK_some e
      refine ⟨_, h, h4, did_bin ho hy hz hw fun β w u u' k1 k2 => ?_⟩
      rw [h1] at k1; rw [h2] at k2
      simp only [VR] at k1 k2; subst k1 k2
      refine ⟨by simp [eqGuard], .int p (.ofNat (Nat.div m (Nat.pow 2 n))), ?_, by simp [VR]⟩
      have hmin : min (Int.ofNat n).toNat p.bits = n := by rw [hbits]; simp; omega
      have hdiv : (Int.ofNat m).fdiv (2 ^ n) = .ofNat (Nat.div m (Nat.pow 2 n)) := by
        have : (2 : Int) ^ n = Int.ofNat (2 ^ n) := by
          show (2 : Int) ^ n = ((2 ^ n : Nat) : Int)
          simp
        rw [this]
        show Int.fdiv (Int.ofNat m) (Int.ofNat (2 ^ n)) = Int.ofNat (m / 2 ^ n)
        exact (Int.fdiv_eq_ediv_of_nonneg (Int.ofNat m) (Int.natCast_nonneg (2 ^ n))).trans rfl
      have hneg : ¬ (Int.ofNat n < 0) := by simp
      simp only [binOp, Op.shift, hneg, if_false, hmin, Sem.run_pure]
      rw [hdiv]
  · cases e
/-! arrays -/
theorem asNat_val {v : AV} {n : Nat} (hv : asNat v = some n) : ∃ p, v = .int p (.ofNat n) := by
  unfold asNat at hv
  split at hv
  · cases hv; exact ⟨_, rfl⟩
  · cases hv
theorem op_idx1 {t e0 : TypeId} {len : Nat} {y z : Operand} {xy xz : XV} (ho : o.op = .index t y z) (hy : cV y = some xy) (hz : cV z = some xz) (ht : P.underlying t = some (.array len e0)) (ha : isA P e0 = some none) (hs : szA P e0 = some 1) (hw : WF h)
    (e : oIdx1 len xy xz c call sl h k = some r) : Says P ng o c sl h k r := by
  unfold oIdx1 at e
  split at e
  · rename_i vs i h1 h2
    obtain ⟨p, h2⟩ := asNat_val h2
    have hlt : i < len := by
      cases hb : Nat.blt i len with
      | false => rw [hb] at e; cases e
      | true => simpa [Nat.blt_eq] using hb
    have hb : Nat.blt i len = true := by simpa [Nat.blt_eq] using hlt
    rw [hb] at e
    simp only [cond] at e
    split at e
    · rename_i v hn
      rw [nth_eq] at hn
      refine ⟨_, h, e, did_pure hw fun β a w hr hop => ?_⟩
      have k1 := hop y (by simp [ho, Op.operands]) xy hy
      have k2 := hop z (by simp [ho, Op.operands]) xz hz
      rw [h1] at k1; rw [h2] at k2
      simp only [VR] at k1 k2
      obtain ⟨cs, hu, hcs⟩ := k1
      obtain ⟨u, q1, q2⟩ := hcs.get hn
      have q3 : cs[i]? = some u := by simpa using q1
      refine ⟨u, ?_, q2⟩
      have hi : ((i : Nat) : Int) < ((len : Nat) : Int) := by omega
      have k2' : a.eval z = .int p ((i : Nat) : Int) := k2
      simp [execOp, ho, Instr.index, asIntOf, k2', hu, run_underlying ht, szA_some hs, part, isA_none ha, hi, hlt, q3]
    · cases e
  · cases e
theorem op_iaddrA {t e0 : TypeId} {len esz : Nat} {y z : Operand} {xy xz : XV} (ho : o.op = .indexAddr t y z) (hy : cV y = some xy) (hz : cV z = some xz) (ht : P.underlying t = some (.array len e0)) (hs : szA P e0 = some esz) (hw : WF h)
    (e : oIaddrA len esz xy xz c call sl h k = some r) : Says P ng o c sl h k r := by
  unfold oIaddrA at e
  split at e
  · rename_i id off i h1 h2
    obtain ⟨p, h2⟩ := asNat_val h2
    cases hb : Nat.blt i len with
    | false => rw [hb] at e; cases e
    | true =>
      rw [hb] at e
      simp only [cond, forceNat_eq] at e
      have hlt : i < len := by simpa [Nat.blt_eq] using hb
      refine ⟨_, h, e, did_pure hw fun β a w hr hop => ?_⟩
      have k1 := hop y (by simp [ho, Op.operands]) xy hy
      have k2 := hop z (by simp [ho, Op.operands]) xz hz
      rw [h1] at k1; rw [h2] at k2
      simp only [VR] at k1 k2
      obtain ⟨L, hL, hu⟩ := k1
      have hi : ((i : Nat) : Int) < ((len : Nat) : Int) := by omega
      have k2' : a.eval z = .int p ((i : Nat) : Int) := k2
      refine ⟨.pointer (some ⟨L.blk, L.base + (off + i * esz), none⟩), ?_, by simp only [VR]; exact ⟨L, hL, rfl⟩⟩
      simp [execOp, ho, Instr.indexAt, Instr.sureAddr, asIntOf, k2', hu, run_underlying ht, szA_some hs, hi, hlt, add_lit, Nat.add_assoc]
  · cases e
theorem op_mkmapH {t e0 e1 : TypeId} {y : Operand} {x : XV} (ho : o.op = .makeMap t (some y)) (ht : P.underlying t = some (.map e0 e1)) (hx : cV y = some x) (hw : WF h) (e : oMkmapH x c call sl h k = some r) : Says P ng o c sl h k r := by
  unfold oMkmapH at e
  split at e
  · rename_i p n hv
    obtain ⟨hlt, e⟩ := newB_some e
    refine ⟨_, _, e, step_new hw hlt, fun β a w hgb hr hop hfr K Q hK => ?_⟩
    have hn := hfr h.n (Nat.le_refl _) (by simp)
    have k1 := hop y (by simp [ho, Op.operands]) x hx
    rw [hv] at k1; simp only [VR] at k1
    unfold Oper.wp
    have hrun : (execOp a.eval o).run P w = .ok (.value (.map (some w.heap.size))) { w with heap := w.heap.push (.map #[] 0) } := by
      simp [execOp, ho, Instr.makeMap, k1, run_underlying ht, asInt, asIntOf]
    rw [hrun]
    refine hK _ _ _ (post_push (L := ⟨w.heap.size, 0, 0⟩) hr hlt hn rfl ⟨#[], by simp, by simp [ER]⟩) ?_
    simp only [VR]
    exact ⟨_, upd_same _ _ _, rfl⟩
  · cases e

/-! slices with three indexes -/
theorem op_slice3 {t e0 : TypeId} {y mx : Operand} {lo hi : Option Operand} {xy : XV} {xl xh xm : Option XV} {esz : Nat} (ho : o.op = .slice t y lo hi (some mx)) (hy : cV y = some xy) (hl : cOpt lo = some xl) (hh : cOpt hi = some xh) (hm : cOpt (some mx) = some xm) (ht : P.underlying t = some (.slice e0)) (hs : szA P e0 = some esz) (hw : WF h) (hhs : hi.isSome = true)
    (e : oSlice3 esz xy xl xh xm c call sl h k = some r) : Says P ng o c sl h k r := by
  unfold oSlice3 at e
  split at e
  · rename_i id off n es cap hv
    split at e
    · rename_i l u m h2 h3 h4
      cases hb : (Nat.ble l u && Nat.ble u n && Nat.ble u m && capOk cap n m && Nat.beq es esz) with
      | false => rw [hb] at e; cases e
      | true =>
        rw [hb] at e
        simp only [Bool.and_eq_true] at hb
        obtain ⟨⟨⟨⟨c1, c2⟩, c3⟩, c4⟩, c5⟩ := hb
        have c1 := Nat.le_of_ble_eq_true c1
        have c2 := Nat.le_of_ble_eq_true c2
        have c3 := Nat.le_of_ble_eq_true c3
        have c5 : es = esz := Nat.eq_of_beq_eq_true c5
        subst c5
        simp only [cond, forceNat_eq] at e
        refine ⟨_, h, e, did_pure hw fun β a w hr hop => ?_⟩
        have k1 := hop y (by simp [ho, Op.operands]) xy hy
        rw [hv] at k1
        simp only [VR] at k1
        obtain ⟨L, oo, cp, hL, hu, hle, hsz, hoo, hcap⟩ := k1
        have hmc : m ≤ cp := by
          unfold capOk at c4
          cases cap with
          | none => have := Nat.le_of_ble_eq_true c4; omega
          | some cp' => have := Nat.le_of_ble_eq_true c4; rw [hcap cp' rfl]; exact this
        have b1 := opt_of (β := β) (a := a) hl (fun z hz q hq => hop z (by subst hz; simp [ho, Op.operands]) q hq) h2
        have b2 := opt_of (β := β) (a := a) hh (fun z hz q hq => hop z (by subst hz; simp [ho, Op.operands]) q hq) h3
        have b3 := opt_of (β := β) (a := a) hm (fun z hz q hq => hop z (by cases hz; simp [ho, Op.operands]) q hq) h4
        have hmsz : oo + m * es ≤ L.size := Nat.le_trans (Nat.add_le_add_left (Nat.mul_le_mul_right _ hmc) _) hsz
        have hoo' : oo = L.base + off ∨ (u = 0 ∧ m = 0) := by
          rcases hoo with q | ⟨q1, q2⟩
          · exact Or.inl q
          · exact Or.inr ⟨by omega, by omega⟩
        have hvr := vr_sliced (β := β) (id := id) (off := off) (len := u) (esz := es) (l := l) (u := u) (cp := m) (cap := some m) hL c3 hmsz hoo' (fun c hc => by cases hc; rfl) c1 (Nat.le_refl _)
        refine ⟨_, ?_, hvr⟩
        have g1 : ((l : Nat) : Int) ≤ ((u : Nat) : Int) := by omega
        have g2 : ((u : Nat) : Int) ≤ ((m : Nat) : Int) := by omega
        have g3 : ((m : Nat) : Int) ≤ ((cp : Nat) : Int) := by omega
        have g4 : ¬ cp < m := by omega
        have g5 : ¬ m < u := by omega
        have g6 : ¬ u < l := by omega
        rcases b3 with ⟨q, _⟩ | ⟨z3, q3, hz3, e3⟩
        · cases q
        · cases hz3
          rcases b2 with ⟨rfl, _⟩ | ⟨z2, q2, rfl, e2⟩
          · cases hhs
          · rcases b1 with ⟨rfl, rfl⟩ | ⟨z1, q1, rfl, e1⟩ <;>
              simp [execOp, ho, Instr.sliceAt, Instr.slice, Instr.sliceBounds, Instr.sliceBound, asIntOf, run_underlying ht, hu, szA_some hs, *]
    · cases e
  · cases e
/-! copy -/
theorem minN_eq (a b : Nat) : minN a b = Nat.min a b := by
  unfold minN
  cases hb : Nat.ble a b with
  | true => have := Nat.le_of_ble_eq_true hb; simp [cond, Nat.min_def, this]
  | false =>
    have : ¬ a ≤ b := fun q => by have := Nat.ble_eq_true_of_le q; rw [hb] at this; cases this
    simp [cond, Nat.min_def, this]
theorem copy_run {y z : Operand} {t t2 : TypeId} (ho : isBi o .copy y z #[t, t2]) (a : Act) (w : World) {u : Value} {w' : World} (hr : (Builtin.copy_ #[t, t2] o.type #[a.eval y, a.eval z]).run P w = .ok u w') : (execOp a.eval o).run P w = .ok (.value u) w' := by
  unfold isBi at ho
  simp [execOp, ho, resolve, invoke, builtin, hr]
/-- nothing is copied -/
theorem copy_none {w : World} {t t2 ty e0 : TypeId} {esz n n' cp cp' : Nat} {b b' : Option Addr} (ht : P.underlying t = some (.slice e0)) (hs : szA P e0 = some esz) (h0 : Nat.min n' n = 0) (hb : b' = none → n' = 0) :
    (Builtin.copy_ #[t, t2] ty #[.slice b n cp, .slice b' n' cp']).run P w = .ok (.int .i64 (0 : Nat)) w := by
  have hfc : (Builtin.firstCells esz 0 (.slice b' n' cp')).run P w = .ok #[] w := by
    cases b' with
    | none => simp [Builtin.firstCells]
    | some a =>
      simp only [Builtin.firstCells, Nat.zero_mul]
      exact run_loadCells_list w a [] (fun j v hj => by simp at hj)
  cases b <;> simp [Builtin.copy_, run_underlying ht, szA_some hs, Builtin.lenOf, h0, hfc, storeCells, goInt]
theorem op_copy {y z : Operand} {t t2 e0 e2 : TypeId} {esz : Nat} {xy xz : XV} (ho : isBi o .copy y z #[t, t2]) (ht : P.underlying t = some (.slice e0)) (ht2 : P.underlying t2 = some (.slice e2)) (hs : szA P e0 = some esz) (hy : cV y = some xy) (hz : cV z = some xz) (hw : WF h)
    (e : oCopy esz xy xz c call sl h k = some r) : Says P ng o c sl h k r := by
  obtain ⟨oy, oz⟩ := isBi_ops ho
  unfold oCopy at e
  split at e
  · rename_i id off n es cap id' off' n' es' cap' h1 h2
    cases hb : (Nat.beq es esz && Nat.beq es' esz) with
    | false => rw [hb] at e; cases e
    | true =>
      rw [hb] at e
      simp only [Bool.and_eq_true] at hb
      have c1 : es = esz := Nat.eq_of_beq_eq_true hb.1
      have c2 : es' = esz := Nat.eq_of_beq_eq_true hb.2
      subst c1; subst c2
      simp only [cond, forceNat_eq, minN_eq] at e
      cases hq : Nat.beq (Nat.min n' n) 0 with
      | true =>
        rw [hq] at e
        have hq' : Nat.min n' n = 0 := Nat.eq_of_beq_eq_true hq
        refine ⟨_, h, e, did_pure hw fun β a w hr hop => ?_⟩
        have k1 := hop y oy xy hy
        have k2 := hop z oz xz hz
        rw [h1] at k1; rw [h2] at k2
        simp only [VR] at k1 k2
        obtain ⟨L, oo, cp, hL, hu, _⟩ := k1
        obtain ⟨L', oo', cp', hL', hu', _⟩ := k2
        refine ⟨.int .i64 (0 : Nat), copy_run ho a w ?_, by simp [VR]⟩
        rw [hu, hu']; exact copy_none ht hs hq' (fun q => by cases q)
      | false =>
        rw [hq] at e
        simp only at e
        have hq' : Nat.min n' n ≠ 0 := fun q => by rw [q] at hq; simp at hq
        obtain ⟨vs', hg', e⟩ := cellsAt_some e
        obtain ⟨d1, e⟩ := dropK_some e
        obtain ⟨d2, e⟩ := takeK_some e
        cases hon : ones ((vs'.drop off').take (Nat.mul (Nat.min n' n) es')) with
        | false => rw [hon] at e; cases e
        | true =>
          rw [hon] at e
          simp only at e
          obtain ⟨vs, hg, e⟩ := cellsAt_some e
          obtain ⟨d3, e⟩ := spliceK_some e
          obtain ⟨hf, hsn, e⟩ := setB_some e
          obtain ⟨g1, g2⟩ := getB_get hg
          have hid : id < 10000000 := Nat.lt_of_lt_of_le (lt_of_get hw g1) hw.small
          refine ⟨_, _, e, step_set hw g1 hf g2, fun β a w hgb hr hop hfr K Q hK => ?_⟩
          have k1 := hop y oy xy hy
          have k2 := hop z oz xz hz
          rw [h1] at k1; rw [h2] at k2
          simp only [VR] at k1 k2
          obtain ⟨L, oo, cp, hL, hu, hle, hsz, hoo, hcap⟩ := k1
          obtain ⟨L', oo', cp', hL', hu', hle', hsz', hoo', hcap'⟩ := k2
          have hnn : n ≠ 0 := fun q => hq' (by rw [q]; simp [Nat.min_def])
          have hnn' : n' ≠ 0 := fun q => hq' (by rw [q]; simp [Nat.min_def])
          have ho1 : oo = L.base + off := by
            rcases hoo with q | ⟨q, _⟩
            · exact q
            · exact absurd q hnn
          have ho2 : oo' = L'.base + off' := by
            rcases hoo' with q | ⟨q, _⟩
            · exact q
            · exact absurd q hnn'
          subst ho1; subst ho2
          obtain ⟨LL, p1, p2, p3⟩ := hr.at_ id _ (view_cells hg)
          rw [hL] at p1; cases p1
          obtain ⟨LL', p1', p2', p3'⟩ := hr.at_ id' _ (view_cells hg')
          rw [hL'] at p1'; cases p1'
          have hmul : Nat.mul (Nat.min n' n) es' = Nat.min n' n * es' := rfl
          rw [hmul] at d2 d3 hon
          have hlen : ((vs'.drop off').take (Nat.min n' n * es')).length = Nat.min n' n * es' := by rw [List.length_take]; exact Nat.min_eq_left d2
          obtain ⟨cs, s1, s2⟩ := part_of_br p3' (off := off') (n := Nat.min n' n * es') (by simp at d2; omega)
          have hcl : cs.length = Nat.min n' n * es' := by rw [← s1.length]; exact hlen
          have hld := run_loadCells_list (P := P) w _ cs s2
          rw [hcl] at hld
          have hst : (storeCells ⟨L.blk, L.base + off, none⟩ cs).run P w = .ok () (w.setCells L.blk (L.base + off) cs) := by
            obtain ⟨cur, et, b1, b2, b3⟩ := p3
            have := run_storeCells_cells (P := P) L.blk (L.base + off) cs 0 w (fun j hj => by
                have hj' : off + j < vs.length := by rw [hcl, ← hlen] at hj; omega
                have e1 : vs[off + j]? = some (vs[off + j]'hj') := by simp
                obtain ⟨u, q1, _⟩ := b3 _ _ e1
                simp [World.cell?, b1, Nat.add_assoc, q1]) (fun j hj => by simp [World.frozen?, b1]) (ones_of s1 hon)
            simpa using this
          have hrun : (Builtin.copy_ #[t, t2] o.type #[a.eval y, a.eval z]).run P w = .ok (.int .i64 ((Nat.min n' n : Nat) : Int)) (w.setCells L.blk (L.base + off) cs) := by
            rw [hu, hu']
            simp [Builtin.copy_, run_underlying ht, szA_some hs, Builtin.lenOf, Builtin.firstCells, hld, hst, goInt]
          unfold Oper.wp
          rw [copy_run ho a w hrun]
          obtain ⟨r1, r2, r3, r4⟩ := setCells_rest L.blk cs (L.base + off) w
          refine hK β _ _ (post_write hr (view_cells hg) hL hf (fun B hB => setCells_other L.blk B hB _ _ _) r1 r2 r3 r4 ?_ (fun j d ej => view_set hid ej)) (by simp [VR])
          rcases br_splice p3 s1 d3 with h5 | h5
          · exact h5.1
          · have e2 : cs = [] := by rw [← List.length_eq_zero_iff, ← s1.length, h5]; rfl
            have h5' : (vs'.drop off').take (Nat.mul (Nat.min n' n) es') = [] := h5
            rw [h5', e2]
            simpa [World.setCells] using p3
  · rename_i h1 h2
    refine ⟨_, h, e, did_pure hw fun β a w hr hop => ?_⟩
    have k1 := hop y oy xy hy
    have k2 := hop z oz xz hz
    rw [h1] at k1; rw [h2] at k2
    simp only [VR] at k1 k2
    obtain ⟨L, oo, cp, hL, hu, _⟩ := k1
    refine ⟨.int .i64 (0 : Nat), copy_run ho a w ?_, by simp [VR]⟩
    rw [hu, k2]; exact copy_none ht hs (by simp [Nat.min_def]) (fun _ => rfl)
  · rename_i h1 h2
    refine ⟨_, h, e, did_pure hw fun β a w hr hop => ?_⟩
    have k1 := hop y oy xy hy
    have k2 := hop z oz xz hz
    rw [h1] at k1; rw [h2] at k2
    simp only [VR] at k1 k2
    obtain ⟨L, oo, cp, hL, hu, _⟩ := k2
    refine ⟨.int .i64 (0 : Nat), copy_run ho a w ?_, by simp [VR]⟩
    rw [hu, k1]; exact copy_none ht hs (by simp [Nat.min_def]) (fun q => by cases q)
  · rename_i h1 h2
    refine ⟨_, h, e, did_pure hw fun β a w hr hop => ?_⟩
    have k1 := hop y oy xy hy
    have k2 := hop z oz xz hz
    rw [h1] at k1; rw [h2] at k2
    simp only [VR] at k1 k2
    refine ⟨.int .i64 (0 : Nat), copy_run ho a w ?_, by simp [VR]⟩
    rw [k1, k2]; exact copy_none ht hs (by simp [Nat.min_def]) (fun _ => rfl)
  · cases e
/-! ranges over maps -/
theorem op_range {t e0 e1 : TypeId} {y : Operand} {x : XV} (ho : o.op = .range t y) (ht : P.underlying t = some (.map e0 e1)) (hx : cV y = some x) (hw : WF h) (e : oRange x c call sl h k = some r) : Says P ng o c sl h k r := by
  unfold oRange at e
  split at e
  · rename_i hv
    obtain ⟨hlt, e⟩ := newB_some e
    refine ⟨_, _, e, step_new hw hlt, fun β a w hgb hr hop hfr K Q hK => ?_⟩
    have hn := hfr h.n (Nat.le_refl _) (by simp)
    have k1 := hop y (by simp [ho, Op.operands]) x hx
    rw [hv] at k1; simp only [VR] at k1
    have hrun : (execOp a.eval o).run P w = .ok (.value (.pointer (some ⟨w.heap.size, 0, none⟩))) { w with heap := w.heap.push (.mapIter none 0 #[] 0) } := by
      simp [execOp, ho, Instr.range, k1, run_underlying ht]
    unfold Oper.wp
    rw [hrun]
    refine hK _ _ _ (post_push (L := ⟨w.heap.size, 0, 0⟩) hr hlt hn rfl ⟨none, by simp, rfl, fun _ => rfl, fun i hi => by cases hi⟩) ?_
    simp only [VR]
    exact ⟨_, upd_same _ _ _, rfl⟩
  · rename_i m hv
    split at e
    · rename_i es clock hg
      obtain ⟨hlt, e⟩ := newB_some e
      refine ⟨_, _, e, step_new hw hlt, fun β a w hgb hr hop hfr K Q hK => ?_⟩
      have hn := hfr h.n (Nat.le_refl _) (by simp)
      have k1 := hop y (by simp [ho, Op.operands]) x hx
      rw [hv] at k1; simp only [VR] at k1
      obtain ⟨M, hM, hu⟩ := k1
      obtain ⟨M', q1, _, ces, q2, q3⟩ := hr.at_ m _ (view_map hg)
      rw [hM] at q1; cases q1
      have hrun : (execOp a.eval o).run P w = .ok (.value (.pointer (some ⟨w.heap.size, 0, none⟩))) { w with heap := w.heap.push (.mapIter (some M.blk) clock #[] clock) } := by
        simp [execOp, ho, Instr.range, hu, run_underlying ht, get_map q2]
      unfold Oper.wp
      rw [hrun]
      refine hK _ _ _ (post_push (L := ⟨w.heap.size, 0, 0⟩) hr hlt hn rfl ⟨some M.blk, by simp, rfl, fun q => (by cases q), fun i hi => by cases hi; exact ⟨M, upd_sub _ hn _ _ hM, rfl⟩⟩) ?_
      simp only [VR]
      exact ⟨_, upd_same _ _ _, rfl⟩
    · cases e
  · cases e
/-- an iterator -/
theorem iter_of {β : Bet} {w : World} {id : Nat} {u : Value} {m : Option Nat} {since last : Nat} {seen : List Nat} (hr : HR β (view c h) w) (hv : VR β (.ptr id 0) u) (hg : getB c h id = some (.iter m since seen last)) :
    ∃ L om, β id = some L ∧ L.blk < w.heap.size ∧ u = .pointer (some ⟨L.blk, 0, none⟩) ∧ L.base = 0 ∧ w.heap[L.blk]? = some (.mapIter om since seen.toArray last) ∧ (m = none → om = none) ∧ ∀ i, m = some i → ∃ M, β i = some M ∧ om = some M.blk := by
  simp only [VR] at hv
  obtain ⟨L, h1, h2⟩ := hv
  obtain ⟨L', h3, h3', om, h4, h5, h6, h7⟩ := hr.at_ id _ (view_live hg (fun q => by cases q))
  rw [h1] at h3; cases h3
  exact ⟨L, om, h1, h3', by rw [h2, h5], h5, h4, h6, h7⟩
theorem get_iter {w : World} {b : Nat} {om : Option Nat} {since last : Nat} {seen : Array Nat} (hb : w.heap[b]? = some (.mapIter om since seen last)) : (getObj b).run P w = .ok (.mapIter om since seen last) w := by simp [getObj, Sem.run, hb]
theorem set_iter {w : World} {b : Nat} {om : Option Nat} {since last : Nat} {seen : Array Nat} (o' : Obj) (hb : w.heap[b]? = some (.mapIter om since seen last)) : (setObj b o').run P w = .ok () { w with heap := w.heap.setIfInBounds b o' } := by simp [setObj, Sem.run, hb]
theorem er_one {β : Bet} {e : AV × AV × Nat} {ces : List MapEntry} (h : ER β [e] ces) : ∃ ce, ces = [ce] ∧ VR β e.1 ce.key ∧ VR β e.2.1 ce.val ∧ ce.born = e.2.2 := by
  obtain ⟨ce, ces', h1, h2, h3, h4, h5⟩ := h
  have : ces' = [] := h5
  subst this
  exact ⟨ce, h1, h2, h3, h4⟩
theorem arr_one {α : Type} {a : Array α} {x : α} (h : a.toList = [x]) : a = #[x] := by apply Array.ext'; simpa using h
theorem op_next {y : Operand} {x : XV} (ho : o.op = .next y false) (hx : cV y = some x) (hw : WF h) (e : oNext x c call sl h k = some r) : Says P ng o c sl h k r := by
  unfold oNext at e
  split at e
  · rename_i id hv
    split at e
    · rename_i since seen last hg
      refine ⟨_, h, e, did_pure hw fun β a w hr hop => ?_⟩
      have k1 := hop y (by simp [ho, Op.operands]) x hx
      rw [hv] at k1
      obtain ⟨L, om, _, _, hu, _, q1, q2, _⟩ := iter_of hr k1 hg
      have q2' := q2 rfl
      subst q2'
      exact ⟨.tuple #[.bool false], by simp [execOp, ho, Instr.next, hu, get_iter q1], by simp [VR, VRs]⟩
    · rename_i m since seen last hg
      split at e
      · rename_i es clock hgm
        have body : ∀ β (a : Act) (w : World), HR β (view c h) w → OpsR β sl a o.op.operands.toList → ∃ L M ces, β id = some L ∧ L.blk < w.heap.size ∧ a.eval y = .pointer (some ⟨L.blk, 0, none⟩) ∧ L.base = 0 ∧ w.heap[L.blk]? = some (.mapIter (some M.blk) since seen.toArray last) ∧ β m = some M ∧ w.heap[M.blk]? = some (.map ces clock) ∧ ER β es ces.toList := fun β a w hr hop => by
          have k1 := hop y (by simp [ho, Op.operands]) x hx
          rw [hv] at k1
          obtain ⟨L, om, p1, p1', hu, p2, q1, _, q3⟩ := iter_of hr k1 hg
          obtain ⟨M, hM, rfl⟩ := q3 m rfl
          obtain ⟨M', z1, _, ces, z2, z3⟩ := hr.at_ m _ (view_map hgm)
          rw [hM] at z1; cases z1
          exact ⟨L, M, ces, p1, p1', hu, p2, q1, hM, z2, z3⟩
        split at e
        · refine ⟨_, h, e, did_pure hw fun β a w hr hop => ?_⟩
          obtain ⟨L, M, ces, _, _, hu, _, q1, _, z2, z3⟩ := body β a w hr hop
          have hces : ces = #[] := by apply Array.ext'; exact z3
          subst hces
          exact ⟨.tuple #[.bool false], by simp [execOp, ho, Instr.next, hu, get_iter q1, get_map z2, Question.forced], by simp [VR, VRs]⟩
        · rename_i e0
          split at e
          · cases hb : Nat.blt e0.2.2 since with
            | false => rw [hb] at e; cases e
            | true =>
              rw [hb] at e
              have hlt : e0.2.2 < since := by simpa [Nat.blt_eq] using hb
              simp only [cond] at e
              obtain ⟨hf, hsn, e⟩ := setB_some e
              obtain ⟨g1, g2⟩ := getB_get hg
              have hid : id < 10000000 := Nat.lt_of_lt_of_le (lt_of_get hw g1) hw.small
              refine ⟨_, _, e, step_set hw g1 hf g2, fun β a w hgb hr hop hfr K Q hK => ?_⟩
              obtain ⟨L, M, ces, hL, hLs, hu, hbase, q1, hM, z2, z3⟩ := body β a w hr hop
              obtain ⟨ce, hce, v1, v2, v3⟩ := er_one z3
              have hces := arr_one hce
              subst hces
              have hlt' : ce.born < since := by rw [v3]; exact hlt
              have hnl : ¬ since ≤ ce.born := by omega
              have hrun : (execOp a.eval o).run P w = .ok (.value (.tuple #[.bool true, ce.key, ce.val])) { w with heap := w.heap.setIfInBounds L.blk (.mapIter (some M.blk) since #[ce.born] clock) } := by
                simp [execOp, ho, Instr.next, hu, get_iter q1, get_map z2, Question.forced, hlt', hnl, set_iter _ q1]
              unfold Oper.wp
              rw [hrun]
              have hs := MapKept.heap_set (o' := Obj.mapIter (some M.blk) since #[ce.born] clock) q1
              refine hK β _ _ (post_write (b := .iter (some m) since [e0.2.2] clock) hr (view_live hg (fun q => by cases q)) hL hf (fun B hB => hs.2 B hB) (by simp) rfl rfl rfl ⟨some M.blk, by rw [← v3]; exact hs.1, hbase, fun q => (by cases q), fun i hi => by cases hi; exact ⟨M, hM, rfl⟩⟩ (fun j d ej => view_set hid ej)) ?_
              simp only [VR]
              exact ⟨_, rfl, by simp only [VRs, VR]; exact ⟨_, _, rfl, rfl, _, _, rfl, v1, _, _, rfl, v2, rfl⟩⟩
          · rename_i b
            cases hb : (Nat.beq b e0.2.2 && Nat.blt e0.2.2 last) with
            | false => rw [hb] at e; cases e
            | true =>
              rw [hb] at e
              rw [Bool.and_eq_true] at hb
              have hbe : b = e0.2.2 := Nat.eq_of_beq_eq_true hb.1
              have hlt : e0.2.2 < last := by simpa [Nat.blt_eq] using hb.2
              refine ⟨_, h, e, did_pure hw fun β a w hr hop => ?_⟩
              obtain ⟨L, M, ces, _, _, hu, _, q1, _, z2, z3⟩ := body β a w hr hop
              obtain ⟨ce, hce, v1, v2, v3⟩ := er_one z3
              have hces := arr_one hce
              subst hces
              have hnl : ¬ last ≤ ce.born := by rw [v3]; omega
              have hbb : b = ce.born := by rw [v3]; exact hbe
              subst hbb
              exact ⟨.tuple #[.bool false], by simp [execOp, ho, Instr.next, hu, get_iter q1, get_map z2, Question.forced, hnl], by simp [VR, VRs]⟩
          · cases e
        · cases e
      · cases e
    · cases e
  · cases e
theorem op_entry {y : Operand} {x : XV} (ho : o.op = .entry y) (hx : cV y = some x) (hw : WF h) (e : oEntry x c call sl h k = some r) : Says P ng o c sl h k r := by
  unfold oEntry at e
  split at e
  · rename_i id hv
    split at e
    · rename_i m since b stepped hg
      split at e
      · rename_i e0 clock hgm
        cases hb : (Nat.beq clock stepped && Nat.beq e0.2.2 b) with
        | false => rw [hb] at e; cases e
        | true =>
          rw [hb] at e
          rw [Bool.and_eq_true] at hb
          have h1 : clock = stepped := Nat.eq_of_beq_eq_true hb.1
          have h2 : e0.2.2 = b := Nat.eq_of_beq_eq_true hb.2
          refine ⟨_, h, e, did_pure hw fun β a w hr hop => ?_⟩
          have k1 := hop y (by simp [ho, Op.operands]) x hx
          rw [hv] at k1
          obtain ⟨L, om, p1, p1', hu, p2, q1, _, q3⟩ := iter_of hr k1 hg
          obtain ⟨M, hM, rfl⟩ := q3 m rfl
          obtain ⟨M', z1, _, ces, z2, z3⟩ := hr.at_ m _ (view_map hgm)
          rw [hM] at z1; cases z1
          obtain ⟨ce, hce, v1, v2, v3⟩ := er_one z3
          have hces := arr_one hce
          subst hces
          have hbb : ce.born = b := v3.trans h2
          subst h1
          subst hbb
          refine ⟨.tuple #[ce.key, ce.val], by simp [execOp, ho, Instr.entry, hu, get_iter q1, get_map z2], ?_⟩
          simp only [VR]
          exact ⟨_, rfl, by simp only [VRs]; exact ⟨_, _, rfl, v1, _, _, rfl, v2, rfl⟩⟩
      · cases e
    · cases e
  · cases e
end
end Go.Proofs.YtfoahdpnalbbgaaGreatDoor.Ev
