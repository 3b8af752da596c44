/- The evaluator: every operation; from an evaluation to a contract. -/
import Derived.Test.YtmdceifbbmnfgaaGreatDoorEvW
import Derived.Test.YtmdceifbbmnfgaaGreatDoorEvFin
set_option linter.unusedVariables false
set_option linter.unusedSimpArgs false
namespace Go.Proofs.YtmdceifbbmnfgaaGreatDoor.Ev
open Go
section
variable {P : Program} {ng : Nat} {o : Oper} {c : C} {call : Caller} {sl : Tr AV} {h : H} {k : Kont} {r : Tr AV × H}
theorem op_mv {y : Operand} {x : XV} (ho : o.op = .move y ∨ o.op = .assign y) (hx : cV y = some x) (hw : WF h) (e : oMv x c call sl h k = some r) : Says P ng o c sl h k r := ⟨_, h, e, did_move ho hx hw⟩
theorem op_pick {b y z : Operand} {xb xy xz : XV} (ho : o.op = .pick b y z) (hb : cV b = some xb) (hy : cV y = some xy) (hz : cV z = some xz) (hw : WF h) (e : oPick xb xy xz c call sl h k = some r) : Says P ng o c sl h k r := by
 unfold oPick at e
 split at e
 ·rename_i hv; exact ⟨_, h, e, did_pick (t := true) ho hb hy hz hv hw⟩
 ·rename_i hv; exact ⟨_, h, e, did_pick (t := false) ho hb hy hz hv hw⟩
 ·cases e
theorem op_box {t : TypeId} {y : Operand} {x : XV} (ho : o.op = .box t y) (hx : cV y = some x) (hw : WF h) (e : oBox x c call sl h k = some r) : Says P ng o c sl h k r := by
 unfold oBox at e
 cases hok : okT (evV sl x) with
 | false => rw [hok] at e; cases e
 | true =>
  rw [hok, cond_true] at e
  obtain ⟨hlt, e⟩ := newB_some e
  exact ⟨_, _, e, did_box ho hx hok hw hlt⟩
theorem op_alloc {t : TypeId} {z : AV} (ho : o.op = .alloc t) (hz : zeroA P t = some z) (hw : WF h) (e : oBox (.const z) c call sl h k = some r) : Says P ng o c sl h k r := by
 unfold oBox at e
 cases hok : okT (evV sl (.const z)) with
 | false => rw [hok] at e; cases e
 | true =>
  rw [hok, cond_true] at e
  obtain ⟨hlt, e⟩ := newB_some e
  obtain ⟨i, zv, i1, i2, i3⟩ := zeroA_some hz
  exact ⟨_, _, e, did_alloc ho i1 i2 i3 hok hw hlt⟩
theorem op_load1 {t : TypeId} {y : Operand} {x : XV} (ho : o.op = .load t y) (hx : cV y = some x) (ht : isA P t = some none) (hw : WF h) (e : oLoad1 x c call sl h k = some r) : Says P ng o c sl h k r := by
 unfold oLoad1 at e
 split at e
 ·rename_i id off hv
  obtain ⟨vs, hg, e⟩ := cellsAt_some e
  split at e
  ·rename_i v hn
   rw [nth_eq] at hn
   exact ⟨_, h, e, did_load1 ho hx ht hv hg hn hw⟩
  ·cases e
 ·cases e
theorem op_loadN {t : TypeId} {y : Operand} {x : XV} {n : Nat} (ho : o.op = .load t y) (hx : cV y = some x) (ht : isA P t = some (some n)) (hw : WF h) (e : oLoadN n x c call sl h k = some r) : Says P ng o c sl h k r := by
 unfold oLoadN at e
 split at e
 ·rename_i id off hv
  obtain ⟨vs, hg, e⟩ := cellsAt_some e
  obtain ⟨d1, e⟩ := dropK_some e
  obtain ⟨d2, e⟩ := takeK_some e
  exact ⟨_, h, e, did_loadN ho hx ht hv hg (by simp at d2; omega) hw⟩
 ·cases e
theorem op_store {t : TypeId} {y z : Operand} {x xz : XV} {n : Nat} (ho : o.op = .store t y z) (hx : cV y = some x) (hz : cV z = some xz) (ht : szA P t = some n) (hw : WF h) (e : oStore n x xz c call sl h k = some r) : Says P ng o c sl h k r := by
 unfold oStore at e
 split at e
 ·rename_i id off hv
  obtain ⟨vs, hg, e⟩ := cellsAt_some e
  cases hb : (Nat.beq (lenN (evV sl xz).cells) n && ones (evV sl xz).cells) with
  | false => rw [hb] at e; cases e
  | true =>
   rw [hb] at e
   simp only [Bool.and_eq_true] at hb
   have hl := Nat.eq_of_beq_eq_true hb.1
   rw [lenN_eq] at hl
   simp only [cond] at e
   obtain ⟨h1, e⟩ := spliceK_some e
   obtain ⟨h2, _, e⟩ := setB_some e
   exact ⟨_, _, e, did_store ho hx hz ht hv hg hl hb.2 (by omega) h2 hw⟩
 ·cases e
theorem op_nilc {y : Operand} {x : XV} (ho : o.op = .nilCheck y) (hx : cV y = some x) (hw : WF h) (e : oNilc x c call sl h k = some r) : Says P ng o c sl h k r := by
 unfold oNilc at e
 split at e
 ·rename_i hv; exact ⟨_, h, e, did_nilc_ptr ho hx hv hw⟩
 ·rename_i hv; exact ⟨_, h, e, did_nilc_fn ho hx hv hw⟩
 ·cases e
theorem op_faddr {s : TypeId} {y : Operand} {x : XV} {j m : Nat} {fs : Array Field} {f : Field} (ho : o.op = .fieldAddr s y j) (hx : cV y = some x) (hs : P.underlying s = some (.struct fs)) (hf : fs[j]? = some f) (hm : szA P f.type = some (m + 1)) (hw : WF h)
  (e : oFaddr f.offset x c call sl h k = some r) : Says P ng o c sl h k r := by
 unfold oFaddr at e
 split at e
 ·rename_i id off hv
  rw [forceNat_eq] at e
  exact ⟨_, h, e, did_faddr ho hx hs hf hm hv hw⟩
 ·cases e
theorem op_fld1 {s : TypeId} {y : Operand} {x : XV} {j : Nat} {fs : Array Field} {f : Field} (ho : o.op = .field s y j) (hx : cV y = some x) (hs : P.underlying s = some (.struct fs)) (hf : fs[j]? = some f) (ht : isA P f.type = some none) (hw : WF h)
  (e : oFld1 f.offset x c call sl h k = some r) : Says P ng o c sl h k r := by
 unfold oFld1 at e
 split at e
 ·rename_i vs hv
  split at e
  ·rename_i v hn
   rw [nth_eq] at hn
   exact ⟨_, h, e, did_fld1 ho hx hs hf ht hv hn hw⟩
  ·cases e
 ·cases e
theorem op_fldN {s : TypeId} {y : Operand} {x : XV} {j n : Nat} {fs : Array Field} {f : Field} (ho : o.op = .field s y j) (hx : cV y = some x) (hs : P.underlying s = some (.struct fs)) (hf : fs[j]? = some f) (ht : isA P f.type = some (some n)) (hw : WF h)
  (e : oFldN n f.offset x c call sl h k = some r) : Says P ng o c sl h k r := by
 unfold oFldN at e
 split at e
 ·rename_i vs hv
  obtain ⟨d1, e⟩ := dropK_some e
  obtain ⟨d2, e⟩ := takeK_some e
  exact ⟨_, h, e, did_fldN ho hx hs hf ht hv (by simp at d2; omega) hw⟩
 ·cases e
theorem asNat_some {v : AV} {n : Nat} (hv : asNat v = some n) : ∃ p, v = .int p (.ofNat n) := by
 unfold asNat at hv
 split at hv
 ·cases hv; exact ⟨_, rfl⟩
 ·cases hv
theorem op_iaddr {t e0 : TypeId} {y z : Operand} {xy xz : XV} {esz : Nat} (ho : o.op = .indexAddr t y z) (hy : cV y = some xy) (hz : cV z = some xz) (ht : P.underlying t = some (.slice e0)) (hs : szA P e0 = some esz) (hw : WF h)
  (e : oIaddr esz xy xz c call sl h k = some r) : Says P ng o c sl h k r := by
 unfold oIaddr at e
 split at e
 ·rename_i id off n es cap i h1 h2
  obtain ⟨p, h2⟩ := asNat_some h2
  cases hb : Nat.blt i n with
  | false => rw [hb] at e; cases e
  | true =>
   rw [hb] at e
   simp only [cond, forceNat_eq] at e
   exact ⟨_, h, e, did_iaddr ho hy hz ht hs h1 h2 (by simpa [Nat.blt_eq] using hb) hw⟩
 ·cases e
theorem op_idxS {t : TypeId} {y z : Operand} {xy xz : XV} (ho : o.op = .index t y z) (hy : cV y = some xy) (hz : cV z = some xz) (ht : P.underlying t = some .string) (hw : WF h) (e : oIdxS xy xz c call sl h k = some r) : Says P ng o c sl h k r := by
 unfold oIdxS at e
 split at e
 ·rename_i s i h1 h2
  obtain ⟨p, h2⟩ := asNat_some h2
  split at e
  ·rename_i b hn
   rw [nth_eq] at hn
   exact ⟨_, h, e, did_idxS ho hy hz ht h1 h2 hn hw⟩
  ·cases e
 ·cases e
theorem op_extr {y : Operand} {x : XV} {i : Nat} (ho : o.op = .extract y i) (hx : cV y = some x) (hw : WF h) (e : oExtr x i c call sl h k = some r) : Says P ng o c sl h k r := by
 unfold oExtr at e
 split at e
 ·rename_i vs hv
  split at e
  ·rename_i v hn
   rw [nth_eq] at hn
   exact ⟨_, h, e, did_extr ho hx hv hn hw⟩
  ·cases e
 ·cases e
theorem op_mkfn {f : Nat} {ys : Array Operand} {xs : List XV} (ho : o.op = .makeFunc (.func f) #[] ys) (hx : ys.toList.mapM cV = some xs) (hw : WF h) (e : oMkfn f xs c call sl h k = some r) : Says P ng o c sl h k r := by
 unfold oMkfn at e
 rw [evVs_eq] at e
 exact ⟨_, h, e, did_mkfn ho hx hw⟩
theorem op_mkmap {t : TypeId} {hnt : Option Operand} (ho : o.op = .makeMap t hnt) (hh : hnt = none ∨ (∃ q n e0 e1, hnt = some (.const (.int q n)) ∧ P.underlying t = some (.map e0 e1))) (hw : WF h) (e : oMkmap c call sl h k = some r) : Says P ng o c sl h k r := by
 unfold oMkmap at e
 obtain ⟨hlt, e⟩ := newB_some e
 refine ⟨_, _, e, step_new hw hlt, fun β a w hgb hr hop hfr K Q hK => ?_⟩
 have hn := hfr h.n (Nat.le_refl _) (by simp)
 unfold Oper.wp
 have hrun : (execOp a.eval o).run P w = .ok (.value (.map (some w.heap.size))) { w with heap := w.heap.push (.map #[] 0) } := by
  rcases hh with rfl | ⟨q, n, e0, e1, rfl, ht⟩
  ·simp [execOp, ho, Instr.makeMap]
  ·simp [execOp, ho, Instr.makeMap, Act.eval, run_underlying ht, asInt, asIntOf]
 rw [hrun]
 refine hK _ _ _ (post_push (L := ⟨w.heap.size, 0, 0, dv⟩) hr hlt hn rfl ⟨#[], by simp, by simp [ER]⟩) ?_
 simp only [VR]
 exact ⟨_, upd_same _ _ _, rfl⟩
theorem op_eqs {op : BinOp} {neg : Bool} {t t' : TypeId} {y z : Operand} {x : XO} (ho : o.op = .binOp op t y z t') (hn : NegOp op neg) (hx : eqlO P neg t y z = some x) (hw : WF h) (e : x c call sl h k = some r) : Says P ng o c sl h k r := by
 unfold eqlO at hx
 split at hx
 ·rename_i ht
  simp only [Option.map_eq_some_iff] at hx
  obtain ⟨xy, h1, rfl⟩ := hx
  exact op_nilP ho hn ht h1 hw e
 ·rename_i ht
  simp only [Option.map_eq_some_iff] at hx
  obtain ⟨xy, h1, rfl⟩ := hx
  exact op_nilS ho hn ht h1 hw e
 ·rename_i ht
  simp only [Option.map_eq_some_iff] at hx
  obtain ⟨xy, h1, rfl⟩ := hx
  exact op_nilM ho hn ht h1 hw e
 ·rename_i ht
  simp only [Option.map_eq_some_iff] at hx
  obtain ⟨xy, h1, rfl⟩ := hx
  exact op_nilF ho hn ht h1 hw e
 ·rename_i ht
  simp only [Option.map_eq_some_iff] at hx
  obtain ⟨xy, h1, rfl⟩ := hx
  exact op_nilI ho hn ht h1 hw e
 ·simp only [Option.bind_eq_bind, Option.bind_eq_some_iff, Option.pure_def, Option.some.injEq] at hx
  obtain ⟨eq, h1, xy, h2, xz, h3, rfl⟩ := hx
  exact op_eql ho hn h2 h3 hw (eqT_ok h1) e
theorem op_bin {op : BinOp} {t t' : TypeId} {y z : Operand} {x : XO} (ho : o.op = .binOp op t y z t') (hx : cBin P op t y z = some x) (hw : WF h) (e : x c call sl h k = some r) : Says P ng o c sl h k r := by
 unfold cBin at hx
 split at hx
 ·exact op_eqs (neg := false) ho (Or.inl ⟨rfl, rfl⟩) hx hw e
 ·exact op_eqs (neg := true) ho (Or.inr ⟨rfl, rfl⟩) hx hw e
 all_goals first | (cases hx; done) | skip
 all_goals
  simp only [Option.bind_eq_bind, Option.bind_eq_some_iff, Option.pure_def, Option.some.injEq] at hx
  obtain ⟨xy, h2, xz, h3, rfl⟩ := hx
 all_goals first
  | exact op_int2 ho h2 h3 ⟨by simp, by simp⟩ hw fact_add e
  | exact op_int2 ho h2 h3 ⟨by simp, by simp⟩ hw fact_sub e
  | exact op_int2 ho h2 h3 ⟨by simp, by simp⟩ hw fact_mul e
  | exact op_int2 ho h2 h3 ⟨by simp, by simp⟩ hw fact_quo e
  | exact op_int2 ho h2 h3 ⟨by simp, by simp⟩ hw fact_rem e
  | exact op_int2 ho h2 h3 ⟨by simp, by simp⟩ hw fact_lss e
  | exact op_int2 ho h2 h3 ⟨by simp, by simp⟩ hw fact_leq e
  | exact op_int2 ho h2 h3 ⟨by simp, by simp⟩ hw fact_gtr e
  | exact op_int2 ho h2 h3 ⟨by simp, by simp⟩ hw fact_geq e
  | exact op_cat ho h2 h3 hw e
  | exact op_scmp ho h2 h3 hw cmp_lss e
  | exact op_scmp ho h2 h3 hw cmp_leq e
  | exact op_scmp ho h2 h3 hw cmp_gtr e
  | exact op_scmp ho h2 h3 hw cmp_geq e
  | exact op_int2 ho h2 h3 ⟨by simp, by simp⟩ hw fact_and e
  | exact op_int2 ho h2 h3 ⟨by simp, by simp⟩ hw fact_or e
  | exact op_int2 ho h2 h3 ⟨by simp, by simp⟩ hw fact_xor e
  | exact op_int2 ho h2 h3 ⟨by simp, by simp⟩ hw fact_andNot e
  | exact op_shl ho h2 h3 hw e
  | exact op_shr ho h2 h3 hw e
theorem arr1 {α : Type} {a : Array α} {x : α} (h : a.toList = [x]) : a = #[x] := by apply Array.ext'; simpa using h
theorem arr2 {α : Type} {a : Array α} {x y : α} (h : a.toList = [x, y]) : a = #[x, y] := by apply Array.ext'; simpa using h
theorem op_calls {q : Call} {x : XO} (ho : o.op = .call q) (hx : cCall P q = some x) (hw : WF h) (hc : memO o = true → Ctx c h) (hC : CallOk P ng call) (e : x c call sl h k = some r) : SaysR P ng o c sl h k r := by
 have nod : ∀ q, o.op ≠ .defer q := fun q => by rw [ho]; exact fun e => by cases e
 obtain ⟨cal, args, ts⟩ := q
 unfold cCall at hx
 simp only at hx
 split at hx
 ·split at hx
  ·rename_i y t h1 h2
   have ho' : isLen o y t := by unfold isLen; rw [ho, arr1 h1, arr1 h2]
   split at hx
   ·rename_i ht
    simp only [Option.map_eq_some_iff] at hx
    obtain ⟨xy, h3, rfl⟩ := hx
    exact (op_lenS ho' h3 ht hw e).toR nod
   ·rename_i ht
    simp only [Option.map_eq_some_iff] at hx
    obtain ⟨xy, h3, rfl⟩ := hx
    exact (op_lenL ho' h3 ht hw e).toR nod
   ·rename_i ht
    simp only [Option.map_eq_some_iff] at hx
    obtain ⟨xy, h3, rfl⟩ := hx
    exact (op_lenM ho' h3 ht hw e).toR nod
   ·cases hx
  ·cases hx
 ·split at hx
  ·rename_i y z t t2 h1 h2
   have ho' : isApp o y z t t2 := by unfold isApp; rw [ho, arr2 h1, arr2 h2]
   split at hx
   ·rename_i ht ht2
    simp only [Option.bind_eq_bind, Option.bind_eq_some_iff, Option.pure_def, Option.some.injEq] at hx
    obtain ⟨s, h3, xy, h4, xz, h5, rfl⟩ := hx
    exact (op_append ho' ht ht2 h3 h4 h5 hw e).toR nod
   ·rename_i ht ht2
    simp only [Option.bind_eq_bind, Option.bind_eq_some_iff, Option.pure_def, Option.some.injEq] at hx
    obtain ⟨s, h3, zz, h6, xy, h4, xz, h5, rfl⟩ := hx
    exact (op_appendZ ho' ht ht2 h3 h6 h4 h5 hw e).toR nod
   ·cases hx
  ·cases hx
 ·split at hx
  ·rename_i y t h1 h2
   have ho' : isCap o y t := by unfold isCap; rw [ho, arr1 h1, arr1 h2]
   split at hx
   ·rename_i ht
    simp only [Option.map_eq_some_iff] at hx
    obtain ⟨xy, h3, rfl⟩ := hx
    exact (op_cap ho' h3 ht hw e).toR nod
   ·cases hx
  ·cases hx
 ·split at hx
  ·rename_i y z h1
   have ho' : isBi o .max y z ts := by unfold isBi; rw [ho, arr2 h1]
   simp only [Option.bind_eq_bind, Option.bind_eq_some_iff, Option.pure_def, Option.some.injEq] at hx
   obtain ⟨xy, h4, xz, h5, rfl⟩ := hx
   exact (op_max ho' h4 h5 hw e).toR nod
  ·cases hx
 ·split at hx
  ·rename_i y z h1
   have ho' : isBi o .min y z ts := by unfold isBi; rw [ho, arr2 h1]
   simp only [Option.bind_eq_bind, Option.bind_eq_some_iff, Option.pure_def, Option.some.injEq] at hx
   obtain ⟨xy, h4, xz, h5, rfl⟩ := hx
   exact (op_min ho' h4 h5 hw e).toR nod
  ·cases hx
 ·split at hx
  ·rename_i y z t t2 h1 h2
   have ho' : isBi o .copy y z #[t, t2] := by unfold isBi; rw [ho, arr2 h1, arr2 h2]
   split at hx
   ·rename_i ht ht2
    simp only [Option.bind_eq_bind, Option.bind_eq_some_iff, Option.pure_def, Option.some.injEq] at hx
    obtain ⟨s, h3, xy, h4, xz, h5, rfl⟩ := hx
    exact (op_copy ho' ht ht2 h3 h4 h5 hw e).toR nod
   ·cases hx
  ·cases hx
 ·split at hx
  ·rename_i y t h1 h2
   have ho' : isClr o y t := by unfold isClr; rw [ho, arr1 h1, arr1 h2]
   split at hx
   ·rename_i ht
    simp only [Option.bind_eq_bind, Option.bind_eq_some_iff, Option.pure_def, Option.some.injEq] at hx
    obtain ⟨s, h3, zz, h6, xy, h4, rfl⟩ := hx
    exact (op_clear ho' ht h3 h6 h4 hw e).toR nod
   ·cases hx
  ·cases hx
 ·rename_i f
  simp only [Option.bind_eq_bind, Option.bind_eq_some_iff, Option.pure_def, Option.some.injEq] at hx
  obtain ⟨xf, h3, xs, h4, rfl⟩ := hx
  exact op_call ho h3 h4 hw (hc (by simp [memO, ho])) hC e
 ·rename_i y name
  simp only [Option.bind_eq_bind, Option.bind_eq_some_iff, Option.pure_def, Option.some.injEq] at hx
  obtain ⟨xf, h3, xs, h4, rfl⟩ := hx
  exact op_invoke ho h3 h4 hw (hc (by simp [memO, ho])) hC e
 ·cases hx
theorem built_struct {t : TypeId} {fs : Array Field} {i : TypeInfo} {zv : Value} {places : List (Nat × Nat)} (hu : P.underlying t = some (.struct fs)) (hi : P.info? t = some i) (hz : i.zero = some zv) (hp : fs.toList.mapM (fun f => (P.info? f.type).map fun i => (f.offset, i.size)) = some places)
  (qs : List (Nat × Value)) (cells : Array Value) (hf : Instr.fill (fun i => places.toArray[i]?) zv.cells qs = some cells) : P.built t qs = some cells := by
 unfold Program.built
 rw [hi, hu]
 simp only [hz, hp]
 exact hf
theorem built_array {t e0 : TypeId} {n s : Nat} {i : TypeInfo} {zv : Value} (hu : P.underlying t = some (.array n e0)) (hi : P.info? t = some i) (hz : i.zero = some zv) (hs : szA P e0 = some s)
  (qs : List (Nat × Value)) (cells : Array Value) (hf : Instr.fill (fun i => some (i * s, s)) zv.cells qs = some cells) : P.built t qs = some cells := by
 unfold szA at hs
 simp only [Option.map_eq_some_iff] at hs
 obtain ⟨ie, h1, rfl⟩ := hs
 unfold Program.built
 rw [hi, hu]
 simp only [hz, h1]
 exact hf
theorem op_ok (hx : ∃ x, cO P o = some x ∧ x c call sl h k = some r) (hw : WF h) (hc : memO o = true → Ctx c h) (hC : CallOk P ng call) : SaysR P ng o c sl h k r := by
 obtain ⟨x, hx, e⟩ := hx
 unfold cO at hx
 split at hx
 ·rename_i y ho
  simp only [Option.map_eq_some_iff] at hx
  obtain ⟨a, h1, rfl⟩ := hx
  exact (op_mv (Or.inl ho) h1 hw e).toR (fun q => by rw [ho]; nofun)
 ·rename_i y ho
  simp only [Option.map_eq_some_iff] at hx
  obtain ⟨a, h1, rfl⟩ := hx
  exact (op_mv (Or.inr ho) h1 hw e).toR (fun q => by rw [ho]; nofun)
 ·rename_i ho
  simp only [Option.bind_eq_bind, Option.bind_eq_some_iff, Option.pure_def, Option.some.injEq] at hx
  obtain ⟨a, h1, b, h2, d, h3, rfl⟩ := hx
  exact (op_pick ho h1 h2 h3 hw e).toR (fun q => by rw [ho]; nofun)
 ·rename_i ho
  simp only [Option.bind_eq_bind, Option.bind_eq_some_iff, Option.pure_def, Option.some.injEq] at hx
  obtain ⟨z, h1, rfl⟩ := hx
  exact (op_alloc ho h1 hw e).toR (fun q => by rw [ho]; nofun)
 ·rename_i ho
  simp only [Option.map_eq_some_iff] at hx
  obtain ⟨a, h1, rfl⟩ := hx
  exact (op_box ho h1 hw e).toR (fun q => by rw [ho]; nofun)
 ·rename_i t ps ho
  split at hx
  ·rename_i fs hu
   simp only [Option.bind_eq_bind, Option.bind_eq_some_iff, Option.pure_def, Option.some.injEq] at hx
   obtain ⟨z, h1, places, h2, xs, h3, rfl⟩ := hx
   obtain ⟨i, zv, i1, i2, i3⟩ := zeroA_some h1
   exact (op_build ho h3 i3 (zeroA_ne h1) (built_struct hu i1 i2 h2) hw e).toR (fun q => by rw [ho]; nofun)
  ·rename_i n e0 hu
   simp only [Option.bind_eq_bind, Option.bind_eq_some_iff, Option.pure_def, Option.some.injEq] at hx
   obtain ⟨z, h1, s, h2, xs, h3, rfl⟩ := hx
   obtain ⟨i, zv, i1, i2, i3⟩ := zeroA_some h1
   exact (op_build ho h3 i3 (zeroA_ne h1) (built_array hu i1 i2 h2) hw e).toR (fun q => by rw [ho]; nofun)
  ·cases hx
 ·rename_i t n ps ho
  split at hx
  ·rename_i e0 hu
   simp only [Option.bind_eq_bind, Option.bind_eq_some_iff] at hx
   obtain ⟨s, h1, z, h2, xs, h3, h4⟩ := hx
   split at h4
   ·rename_i hh
    simp only [Option.pure_def, Option.some.injEq] at h4
    subst h4
    exact (op_bslice ho hu h1 h2 h3 hh.1 hh.2 hw e).toR (fun q => by rw [ho]; nofun)
   ·cases h4
  ·cases hx
 ·rename_i t y ho
  split at hx
  ·rename_i ht
   simp only [Option.map_eq_some_iff] at hx
   obtain ⟨a, h1, rfl⟩ := hx
   exact (op_load1 ho h1 ht hw e).toR (fun q => by rw [ho]; nofun)
  ·rename_i n ht
   simp only [Option.map_eq_some_iff] at hx
   obtain ⟨a, h1, rfl⟩ := hx
   exact (op_loadN ho h1 ht hw e).toR (fun q => by rw [ho]; nofun)
  ·cases hx
 ·rename_i ho
  simp only [Option.bind_eq_bind, Option.bind_eq_some_iff, Option.pure_def, Option.some.injEq] at hx
  obtain ⟨n, h1, a, h2, b, h3, rfl⟩ := hx
  exact (op_store ho h2 h3 h1 hw e).toR (fun q => by rw [ho]; nofun)
 ·rename_i ho
  simp only [Option.map_eq_some_iff] at hx
  obtain ⟨a, h1, rfl⟩ := hx
  exact (op_nilc ho h1 hw e).toR (fun q => by rw [ho]; nofun)
 ·rename_i ho
  exact (op_bin ho hx hw e).toR (fun q => by rw [ho]; nofun)
 ·rename_i ho
  simp only [Option.map_eq_some_iff] at hx
  obtain ⟨a, h1, rfl⟩ := hx
  exact (op_not ho h1 hw e).toR (fun q => by rw [ho]; nofun)
 ·rename_i ho
  simp only [Option.map_eq_some_iff] at hx
  obtain ⟨a, h1, rfl⟩ := hx
  exact (op_neg ho h1 hw e).toR (fun q => by rw [ho]; nofun)
 ·rename_i s d y ho
  split at hx
  ·rename_i hs hd
   simp only [Option.map_eq_some_iff] at hx
   obtain ⟨a, h1, rfl⟩ := hx
   exact (op_toInt ho hs hd h1 hw e).toR (fun q => by rw [ho]; nofun)
  ·rename_i hs hd
   simp only [Option.map_eq_some_iff] at hx
   obtain ⟨a, h1, rfl⟩ := hx
   exact (op_same ho hs hd h1 hw e).toR (fun q => by rw [ho]; nofun)
  ·cases hx
 ·rename_i f first caps ho
  split at hx
  ·rename_i hh
   simp only [Option.bind_eq_bind, Option.bind_eq_some_iff, Option.pure_def, Option.some.injEq] at hx
   obtain ⟨xs, h1, rfl⟩ := hx
   have : first = #[] := by simpa using hh
   subst this
   exact (op_mkfn ho h1 hw e).toR (fun q => by rw [ho]; nofun)
  ·simp only [Option.bind_eq_bind, Option.bind_eq_some_iff, Option.pure_def, Option.some.injEq] at hx
   obtain ⟨fs, h1, xs, h2, rfl⟩ := hx
   exact (op_mkfnB ho h1 h2 hw e).toR (fun q => by rw [ho]; nofun)
 ·rename_i t y ho
  split at hx
  ·cases hx
  ·rename_i d hnd hu
   simp only [Option.map_eq_some_iff] at hx
   obtain ⟨a, h1, rfl⟩ := hx
   exact (op_mkif ho hu (fun ms q => hnd ms q) h1 hw e).toR (fun q => by rw [ho]; nofun)
  ·cases hx
 ·rename_i t ho
  cases hx
  exact (op_mkmap ho (Or.inl rfl) hw e).toR (fun q => by rw [ho]; nofun)
 ·rename_i t y ho
  split at hx
  ·rename_i hu
   simp only [Option.map_eq_some_iff] at hx
   obtain ⟨a, h1, rfl⟩ := hx
   exact (op_mkmapH ho hu h1 hw e).toR (fun q => by rw [ho]; nofun)
  ·cases hx
 ·rename_i t y ho
  split at hx
  ·rename_i hu
   simp only [Option.map_eq_some_iff] at hx
   obtain ⟨a, h1, rfl⟩ := hx
   exact (op_range ho hu h1 hw e).toR (fun q => by rw [ho]; nofun)
  ·cases hx
 ·rename_i y ho
  simp only [Option.map_eq_some_iff] at hx
  obtain ⟨a, h1, rfl⟩ := hx
  exact (op_next ho h1 hw e).toR (fun q => by rw [ho]; nofun)
 ·rename_i y ho
  simp only [Option.map_eq_some_iff] at hx
  obtain ⟨a, h1, rfl⟩ := hx
  exact (op_entry ho h1 hw e).toR (fun q => by rw [ho]; nofun)
 ·rename_i t y1 y2 ho
  split at hx
  ·rename_i e0 hu
   simp only [Option.bind_eq_bind, Option.bind_eq_some_iff] at hx
   obtain ⟨s, h1, z, h2, h4⟩ := hx
   split at h4
   ·rename_i hh
    simp only [Option.bind_eq_some_iff, Option.pure_def, Option.some.injEq] at h4
    obtain ⟨a, h5, b, h6, rfl⟩ := h4
    exact (op_mkslice ho hu h1 h2 hh h5 h6 hw e).toR (fun q => by rw [ho]; nofun)
   ·cases h4
  ·cases hx
 ·rename_i t y lo hi ho
  split at hx
  ·rename_i hu
   simp only [Option.bind_eq_bind, Option.bind_eq_some_iff, Option.pure_def, Option.some.injEq] at hx
   obtain ⟨a, h1, b, h2, d, h3, rfl⟩ := hx
   exact (op_sliceS ho h1 h2 h3 hu hw e).toR (fun q => by rw [ho]; nofun)
  ·rename_i e0 hu
   simp only [Option.bind_eq_bind, Option.bind_eq_some_iff, Option.pure_def, Option.some.injEq] at hx
   obtain ⟨s, h0, a, h1, b, h2, d, h3, rfl⟩ := hx
   exact (op_slice ho h1 h2 h3 hu h0 hw e).toR (fun q => by rw [ho]; nofun)
  ·rename_i n e0 hu
   simp only [Option.bind_eq_bind, Option.bind_eq_some_iff, Option.pure_def, Option.some.injEq] at hx
   obtain ⟨s, h0, a, h1, b, h2, d, h3, rfl⟩ := hx
   exact (op_sliceA ho h1 h2 h3 hu h0 hw e).toR (fun q => by rw [ho]; nofun)
  ·cases hx
 ·rename_i t y lo hi mx ho
  split at hx
  ·rename_i e0 hu
   simp only [Option.bind_eq_bind, Option.bind_eq_some_iff, Option.pure_def, Option.some.injEq] at hx
   obtain ⟨s, h0, a, h1, b, h2, d, h3, f, h4, rfl⟩ := hx
   exact (op_slice3 ho h1 h2 h3 h4 hu h0 hw rfl e).toR (fun q => by rw [ho]; nofun)
  ·cases hx
 ·rename_i s y j ho
  split at hx
  ·rename_i fs hu
   split at hx
   ·rename_i f hf
    split at hx
    ·rename_i m hm
     simp only [Option.map_eq_some_iff] at hx
     obtain ⟨a, h1, rfl⟩ := hx
     exact (op_faddr ho h1 hu hf hm hw e).toR (fun q => by rw [ho]; nofun)
    ·cases hx
   ·cases hx
  ·cases hx
 ·rename_i s y j ho
  split at hx
  ·rename_i fs hu
   simp only [Option.bind_eq_bind, Option.bind_eq_some_iff] at hx
   obtain ⟨f, hf, hx⟩ := hx
   split at hx
   ·rename_i hm
    simp only [Option.map_eq_some_iff] at hx
    obtain ⟨a, h1, rfl⟩ := hx
    exact (op_fld1 ho h1 hu hf hm hw e).toR (fun q => by rw [ho]; nofun)
   ·rename_i n hm
    simp only [Option.map_eq_some_iff] at hx
    obtain ⟨a, h1, rfl⟩ := hx
    exact (op_fldN ho h1 hu hf hm hw e).toR (fun q => by rw [ho]; nofun)
   ·cases hx
  ·cases hx
 ·rename_i t y z ho
  split at hx
  ·rename_i e0 hu
   simp only [Option.bind_eq_bind, Option.bind_eq_some_iff, Option.pure_def, Option.some.injEq] at hx
   obtain ⟨s, h0, a, h1, b, h2, rfl⟩ := hx
   exact (op_iaddr ho h1 h2 hu h0 hw e).toR (fun q => by rw [ho]; nofun)
  ·rename_i n e0 hu
   simp only [Option.bind_eq_bind, Option.bind_eq_some_iff, Option.pure_def, Option.some.injEq] at hx
   obtain ⟨s, h0, a, h1, b, h2, rfl⟩ := hx
   exact (op_iaddrA ho h1 h2 hu h0 hw e).toR (fun q => by rw [ho]; nofun)
  ·cases hx
 ·rename_i t y z ho
  split at hx
  ·rename_i hu
   simp only [Option.bind_eq_bind, Option.bind_eq_some_iff, Option.pure_def, Option.some.injEq] at hx
   obtain ⟨a, h1, b, h2, rfl⟩ := hx
   exact (op_idxS ho h1 h2 hu hw e).toR (fun q => by rw [ho]; nofun)
  ·rename_i n e0 hu
   split at hx
   ·rename_i ha hs
    simp only [Option.bind_eq_bind, Option.bind_eq_some_iff, Option.pure_def, Option.some.injEq] at hx
    obtain ⟨a, h1, b, h2, rfl⟩ := hx
    exact (op_idx1 ho h1 h2 hu ha hs hw e).toR (fun q => by rw [ho]; nofun)
   ·cases hx
  ·cases hx
 ·rename_i t y z ok ho
  split at hx
  ·rename_i q e0 hu
   simp only [Option.bind_eq_bind, Option.bind_eq_some_iff, Option.pure_def, Option.some.injEq] at hx
   obtain ⟨eq, h0, zz, h1, a, h2, b, h3, rfl⟩ := hx
   exact (op_lookup ho hu (key_okK h0) h1 h2 h3 hw e).toR (fun q => by rw [ho]; nofun)
  ·cases hx
 ·rename_i t m0 k0 v0 ho
  split at hx
  ·rename_i q e0 hu
   simp only [Option.bind_eq_bind, Option.bind_eq_some_iff, Option.pure_def, Option.some.injEq] at hx
   obtain ⟨eq, h0, a, h1, b, h2, d, h3, rfl⟩ := hx
   exact (op_mapup (Or.inl ho) hu (key_okK h0) h1 h2 h3 hw e).toR (fun q => by rw [ho]; nofun)
  ·cases hx
 ·rename_i t m0 k0 v0 ho
  split at hx
  ·rename_i q e0 hu
   simp only [Option.bind_eq_bind, Option.bind_eq_some_iff, Option.pure_def, Option.some.injEq] at hx
   obtain ⟨eq, h0, a, h1, b, h2, d, h3, rfl⟩ := hx
   exact (op_mapup (Or.inr ho) hu (key_okK h0) h1 h2 h3 hw e).toR (fun q => by rw [ho]; nofun)
  ·cases hx
 ·rename_i t m0 k0 ho
  split at hx
  ·rename_i q e0 hu
   simp only [Option.bind_eq_bind, Option.bind_eq_some_iff, Option.pure_def, Option.some.injEq] at hx
   obtain ⟨eq, h0, zz, h1, a, h2, b, h3, rfl⟩ := hx
   exact (op_mapentry ho hu (key_okK h0) h1 h2 h3 hw e).toR (fun q => by rw [ho]; nofun)
  ·cases hx
 ·rename_i t m0 s0 v0 ho
  simp only [Option.bind_eq_bind, Option.bind_eq_some_iff, Option.pure_def, Option.some.injEq] at hx
  obtain ⟨a, h1, b, h2, d, h3, rfl⟩ := hx
  exact (op_entrystore ho h1 h2 h3 hw e).toR (fun q => by rw [ho]; nofun)
 ·rename_i ho
  simp only [Option.bind_eq_bind, Option.bind_eq_some_iff, Option.pure_def, Option.some.injEq] at hx
  obtain ⟨a, h1, rfl⟩ := hx
  exact (op_extr ho h1 hw e).toR (fun q => by rw [ho]; nofun)
 ·rename_i q ho
  exact op_calls ho hx hw hc hC e
 ·cases hx
theorem opOk (P : Program) (ng : Nat) : OpOk P ng := fun o x hx c call sl h k r hc hw hC e => op_ok ⟨x, hx, e⟩ hw hc hC
end
end Go.Proofs.YtmdceifbbmnfgaaGreatDoor.Ev
namespace Go.Proofs.YtmdceifbbmnfgaaGreatDoor.Ev
open Go Go.RowKit
def top (n : Nat) : C := ⟨n, [(0, big)]⟩
theorem ev_top {P : Program} {X : Exts} {M : Mf} (hmx : P.follows .mixedOrders = true) (hNG : ∀ (f : Nat) (fn : Func), P.funcs[f]? = some fn → (fn.name == "runtime.NumGoroutine") = false) (hX : ExtOk P X) (hM : MemoOk P P.globals.size M) {fuel f : Nat} {args : List AV} {v : AV} {h0 h' : H}
  (hev : ev (cC P) (tblX P X) M fuel (top h0.n) (.call (.fnB f) args) h0 = .call v h') (hwf : WF h0) {β : Bet} {w : World} (hgb : GB P.globals.size β) (hr : HR (top h0.n).floor β (view (top h0.n) h0) w) (hdom : ∀ id, h0.n ≤ id → β id = none) {cargs : List Value} (hv : VRs β args cargs) :
  Calls P f cargs.toArray w fun e w' => ∃ β' val, e = .returned val ∧ VR β' v val ∧ Sub β β' ∧ Below w.heap.size w w' := by
 have hC := (ev_sound (ng := P.globals.size) hmx (opOk P _) (Nat.le_refl _) hNG hX hM fuel).2
 have hctx : Ctx (top h0.n) h0 := ⟨Nat.le_refl _, fun id _ h2 => by
  show seen [(0, big)] id = true
  simp only [seen]
  have : Nat.ble 0 id = true := by simp
  rw [this]
  simpa [Nat.blt_eq] using h2⟩
 have hfd : FnDid P P.globals.size f args (top h0.n) h0 v h' := hC (.fnB f) args (top h0.n) h0 v h' hctx hwf (by unfold callOf; rw [hev])
 obtain ⟨hst, _, hd⟩ := hfd
 refine hd β w cargs hgb hr hv (fun id h1 _ => hdom id h1) _ fun β' val w' hP hvr => ⟨β', val, rfl, hvr, hP.sub, hP.os, hP.tape, hP.output, hP.size, fun B hB => hP.frame B hB fun id b L hid hg _ => ?_⟩
 have h1 := lt_of_get hwf (getB_get (view_get hg)).1
 have h2 : h0.n ≤ id := hid
 omega
end Go.Proofs.YtmdceifbbmnfgaaGreatDoor.Ev
