/- CoverStates, part 12 -/
import Derived.Test.YtgaihilgffficaaGreatDoorEvW
set_option linter.all false
namespace Go.Proofs.YtgaihilgffficaaGreatDoor.Ev
section
open Go
variable {dr : Prop}
section
variable {P : Program} {ng : Nat} {o : Oper} {c : C} {call : ez} {sl : Tr AV} {h : H} {k : dH} {r : Tr AV × H}
theorem Mw {y : Operand} {x : XV} (ho : o.op = .move y ∨ o.op = .assign y) (hx : cV y = some x) (hw : WF h) (e : Q5 x c call sl h k = some r) : dq dr P ng o c sl h k r := ⟨_, h, e, Ij ho hx hw⟩
theorem Li {b y z : Operand} {xb xy xz : XV} (ho : o.op = .pick b y z) (hb : cV b = some xb) (hy : cV y = some xy) (hz : cV z = some xz) (hw : WF h) (e : w9 xb xy xz c call sl h k = some r) : dq dr P ng o c sl h k r := by
 unfold w9 at e
 split at e
 ·rename_i hv; exact ⟨_, h, e, Bh (t := true) ho hb hy hz hv hw⟩
 ·rename_i hv; exact ⟨_, h, e, Bh (t := false) ho hb hy hz hv hw⟩
 ·cases e
theorem Ob {t : TypeId} {y : Operand} {x : XV} (ho : o.op = .box t y) (hx : cV y = some x) (hw : WF h) (e : A4 x c call sl h k = some r) : dq dr P ng o c sl h k r := by
 unfold A4 at e
 cases jt : A3 (bR sl x) with
 | false => rw [jt] at e; cases e
 | true =>
  rw [jt, cond_true] at e
  obtain ⟨hlt, e⟩ := dI e
  exact ⟨_, _, e, KT ho hx jt hw hlt⟩
theorem I2 {t : TypeId} {z : AV} (ho : o.op = .alloc t) (hz : iC P t = some z) (hw : WF h) (e : A4 (.const z) c call sl h k = some r) : dq dr P ng o c sl h k r := by
 unfold A4 at e
 cases jt : A3 (bR sl (.const z)) with
 | false => rw [jt] at e; cases e
 | true =>
  rw [jt, cond_true] at e
  obtain ⟨hlt, e⟩ := dI e
  obtain ⟨i, zv, i1, i2, i3⟩ := fG hz
  exact ⟨_, _, e, FE ho i1 i2 i3 jt hw hlt⟩
theorem I3 {t : TypeId} {y : Operand} {x : XV} (ho : o.op = .load t y) (hx : cV y = some x) (ht : Dg P t = some none) (hw : WF h) (e : uO x c call sl h k = some r) : dq dr P ng o c sl h k r := by
 unfold uO at e
 split at e
 ·rename_i id off hv
  obtain ⟨vs, hg, e⟩ := gq e
  split at e
  ·rename_i v hn
   rw [gP] at hn
   exact ⟨_, h, e, FF ho hx ht hv hg hn hw⟩
  ·cases e
 ·cases e
theorem I4 {t : TypeId} {y : Operand} {x : XV} {n : Nat} (ho : o.op = .load t y) (hx : cV y = some x) (ht : Dg P t = some (some n)) (hw : WF h) (e : uP n x c call sl h k = some r) : dq dr P ng o c sl h k r := by
 unfold uP at e
 split at e
 ·rename_i id off hv
  obtain ⟨vs, hg, e⟩ := gq e
  obtain ⟨d1, e⟩ := gM e
  obtain ⟨d2, e⟩ := gN e
  exact ⟨_, h, e, FG ho hx ht hv hg (by simp at d2; omega) hw⟩
 ·cases e
theorem I5 {t : TypeId} {y z : Operand} {x xz : XV} {n : Nat} (ho : o.op = .store t y z) (hx : cV y = some x) (hz : cV z = some xz) (ht : te P t = some n) (hw : WF h) (e : uQ n x xz c call sl h k = some r) : dq dr P ng o c sl h k r := by
 unfold uQ at e
 split at e
 ·rename_i id off hv
  obtain ⟨vs, hg, e⟩ := gq e
  cases hb : (Nat.beq (iG (bR sl xz).cells) n && cw (bR sl xz).cells) with
  | false => rw [hb] at e; cases e
  | true =>
   rw [hb] at e
   simp only [Bool.and_eq_true] at hb
   have hl := Nat.eq_of_beq_eq_true hb.1
   rw [dw] at hl
   simp only [cond] at e
   obtain ⟨h1, e⟩ := gu e
   obtain ⟨h2, _, e⟩ := iN e
   exact ⟨_, _, e, FI ho hx hz ht hv hg hl hb.2 om h2 hw⟩
 ·cases e
theorem Lj {y : Operand} {x : XV} (ho : o.op = .nilCheck y) (hx : cV y = some x) (hw : WF h) (e : xa x c call sl h k = some r) : dq dr P ng o c sl h k r := by
 unfold xa at e
 split at e
 ·rename_i hv; exact ⟨_, h, e, y4 ho hx hv hw⟩
 ·rename_i hv; exact ⟨_, h, e, Bl ho hx hv hw⟩
 ·cases e
theorem I6 {s : TypeId} {y : Operand} {x : XV} {j m : Nat} {fs : Array Field} {f : Field} (ho : o.op = .fieldAddr s y j) (hx : cV y = some x) (hs : P.underlying s = some (.struct fs)) (hf : fs[j]? = some f) (hm : te P f.type = some (m + 1)) (hw : WF h)
    (e : uR f.offset x c call sl h k = some r) : dq dr P ng o c sl h k r := by
 unfold uR at e
 split at e
 ·rename_i id off hv
  rw [bn] at e
  exact ⟨_, h, e, FN ho hx hs hf hm hv hw⟩
 ·cases e
theorem Ll {s : TypeId} {y : Operand} {x : XV} {j : Nat} {fs : Array Field} {f : Field} (ho : o.op = .field s y j) (hx : cV y = some x) (hs : P.underlying s = some (.struct fs)) (hf : fs[j]? = some f) (ht : Dg P f.type = some none) (hw : WF h)
    (e : A6 f.offset x c call sl h k = some r) : dq dr P ng o c sl h k r := by
 unfold A6 at e
 split at e
 ·rename_i vs hv
  split at e
  ·rename_i v hn
   rw [gP] at hn
   exact ⟨_, h, e, Ir ho hx hs hf ht hv hn hw⟩
  ·cases e
 ·cases e
theorem vq {v : AV} {n : Nat} (hv : asNat v = some n) : ∃ p, v = .int p (.ofNat n) := by
 unfold asNat at hv
 split at hv
 ·cases hv; exact ⟨_, rfl⟩
 ·cases hv
theorem I7 {t e0 : TypeId} {y z : Operand} {xy xz : XV} {esz : Nat} (ho : o.op = .indexAddr t y z) (hy : cV y = some xy) (hz : cV z = some xz) (ht : P.underlying t = some (.slice e0)) (hs : te P e0 = some esz) (hw : WF h)
    (e : uS esz xy xz c call sl h k = some r) : dq dr P ng o c sl h k r := by
 unfold uS at e
 split at e
 ·rename_i id off n es cap i h1 h2
  obtain ⟨p, h2⟩ := vq h2
  cases hb : Nat.blt i n with
  | false => rw [hb] at e; cases e
  | true =>
   rw [hb] at e
   simp only [cond, bn] at e
   exact ⟨_, h, e, FP ho hy hz ht hs h1 h2 (by simpa [Nat.blt_eq] using hb) hw⟩
 ·cases e
theorem Ln {t : TypeId} {y z : Operand} {xy xz : XV} (ho : o.op = .index t y z) (hy : cV y = some xy) (hz : cV z = some xz) (ht : P.underlying t = some .string) (hw : WF h) (e : A7 xy xz c call sl h k = some r) : dq dr P ng o c sl h k r := by
 unfold A7 at e
 split at e
 ·rename_i s i h1 h2
  obtain ⟨p, h2⟩ := vq h2
  split at e
  ·rename_i b hn
   rw [gP] at hn
   exact ⟨_, h, e, It ho hy hz ht h1 h2 hn hw⟩
  ·cases e
 ·cases e
theorem Lo {y : Operand} {x : XV} {i : Nat} (ho : o.op = .extract y i) (hx : cV y = some x) (hw : WF h) (e : A8 x i c call sl h k = some r) : dq dr P ng o c sl h k r := by
 unfold A8 at e
 split at e
 ·rename_i vs hv
  split at e
  ·rename_i v hn
   rw [gP] at hn
   exact ⟨_, h, e, Io ho hx hv hn hw⟩
  ·cases e
 ·cases e
theorem Lq {f : Nat} {ys : Array Operand} {xs : List XV} (ho : o.op = .makeFunc (.func f) #[] ys) (hx : ys.toList.mapM cV = some xs) (hw : WF h) (e : A9 f xs c call sl h k = some r) : dq dr P ng o c sl h k r := by
 unfold A9 at e
 rw [k5] at e
 exact ⟨_, h, e, Iu ho hx hw⟩
theorem I8 {t : TypeId} {hnt : Option Operand} (ho : o.op = .makeMap t hnt) (hh : hnt = none ∨ (∃ q n e0 e1, hnt = some (.const (.int q n)) ∧ P.underlying t = some (.map e0 e1))) (hw : WF h) (e : uT c call sl h k = some r) : dq dr P ng o c sl h k r := by
 unfold uT at e
 obtain ⟨hlt, e⟩ := dI e
 refine ⟨_, _, e, dP hw hlt, fun β a w hgb hr hop hfr K Q hK => ?_⟩
 have hn := hfr h.n (Nat.le_refl _) (by simp)
 unfold Oper.wp
 have hrun : (execOp a.eval o).run P w = .ok (.value (.map (some w.heap.size))) { w with heap := w.heap.push (.map #[] 0) } := by
  rcases hh with rfl | ⟨q, n, e0, e1, rfl, ht⟩
  ·simp [execOp, ho, Instr.makeMap]
  ·simp [execOp, ho, Instr.makeMap, Act.eval, run_underlying ht, asInt, asIntOf]
 rw [hrun]
 refine hK _ _ _ (fP (L := ⟨w.heap.size, 0, 0, dv⟩) hr hlt hn rfl ⟨#[], by simp, by simp [ER]⟩) ?_
 simp only [VR]
 exact ⟨_, bM _ _ _, rfl⟩
theorem I9 {op : BinOp} {neg : Bool} {t t' : TypeId} {y z : Operand} {x : XO} (ho : o.op = .binOp op t y z t') (hn : Et op neg) (hx : KR P neg t y z = some x) (hw : WF h) (e : x c call sl h k = some r) : dq dr P ng o c sl h k r := by
 unfold KR at hx
 split at hx
 ·rename_i ht
  simp only [Option.map_eq_some_iff] at hx
  obtain ⟨xy, h1, rfl⟩ := hx
  exact La ho hn ht h1 hw e
 ·rename_i ht
  simp only [Option.map_eq_some_iff] at hx
  obtain ⟨xy, h1, rfl⟩ := hx
  exact Lb ho hn ht h1 hw e
 ·simp only [Option.bind_eq_bind, Option.bind_eq_some_iff, Option.pure_def, Option.some.injEq] at hx
  obtain ⟨eq, h1, xy, h2, xz, h3, rfl⟩ := hx
  exact N6 ho hn h2 h3 hw (N5 h1) e
theorem Oc {op : BinOp} {t t' : TypeId} {y z : Operand} {x : XO} (ho : o.op = .binOp op t y z t') (hx : NS P op t y z = some x) (hw : WF h) (e : x c call sl h k = some r) : dq dr P ng o c sl h k r := by
 unfold NS at hx
 split at hx
 ·exact I9 (neg := false) ho (Or.inl ⟨rfl, rfl⟩) hx hw e
 ·exact I9 (neg := true) ho (Or.inr ⟨rfl, rfl⟩) hx hw e
 all_goals first | (cases hx; done) | skip
 all_goals
  simp only [Option.bind_eq_bind, Option.bind_eq_some_iff, Option.pure_def, Option.some.injEq] at hx
  obtain ⟨xy, h2, xz, h3, rfl⟩ := hx
 all_goals first
  | exact gv ho h2 h3 ⟨by simp, by simp⟩ hw IJ e
  | exact gv ho h2 h3 ⟨by simp, by simp⟩ hw IK e
  | exact gv ho h2 h3 ⟨by simp, by simp⟩ hw IL e
  | exact gv ho h2 h3 ⟨by simp, by simp⟩ hw IM e
  | exact gv ho h2 h3 ⟨by simp, by simp⟩ hw IP e
  | exact gv ho h2 h3 ⟨by simp, by simp⟩ hw IQ e
  | exact gv ho h2 h3 ⟨by simp, by simp⟩ hw IS e
  | exact gv ho h2 h3 ⟨by simp, by simp⟩ hw IT e
  | exact gv ho h2 h3 ⟨by simp, by simp⟩ hw IU e
  | exact y9 ho h2 h3 hw K7 e
  | exact y9 ho h2 h3 hw K8 e
  | exact y9 ho h2 h3 hw K9 e
  | exact gv ho h2 h3 ⟨by simp, by simp⟩ hw IA e
  | exact gv ho h2 h3 ⟨by simp, by simp⟩ hw IB e
theorem Qu {α : Type} {a : Array α} {x : α} (h : a.toList = [x]) : a = #[x] := by apply Array.ext'; simpa using h
theorem Qv {α : Type} {a : Array α} {x y : α} (h : a.toList = [x, y]) : a = #[x, y] := by apply Array.ext'; simpa using h
theorem Ja {q : Call} {x : XO} (ho : o.op = .call q) (hx : Ig P q = some x) (hw : WF h) (hc : kW o = true → Ctx c h) (hC : jV dr P ng call) (e : x c call sl h k = some r) : Ew dr P ng o c sl h k r := by
 have nod : ∀ q, o.op ≠ .defer q := fun q => by rw [ho]; exact fun e => by cases e
 obtain ⟨Q4, args, ts⟩ := q
 unfold Ig at hx
 simp only at hx
 split at hx
 ·split at hx
  ·rename_i y t h1 h2
   have ho' : isLen o y t := by unfold isLen; rw [ho, Qu h1, Qu h2]
   split at hx
   ·rename_i ht
    simp only [Option.map_eq_some_iff] at hx
    obtain ⟨xy, h3, rfl⟩ := hx
    exact (Ld ho' h3 ht hw e).jZ nod
   ·rename_i ht
    simp only [Option.map_eq_some_iff] at hx
    obtain ⟨xy, h3, rfl⟩ := hx
    exact (Le ho' h3 ht hw e).jZ nod
   ·rename_i ht
    simp only [Option.map_eq_some_iff] at hx
    obtain ⟨xy, h3, rfl⟩ := hx
    exact (Lf ho' h3 ht hw e).jZ nod
   ·cases hx
  ·cases hx
 ·split at hx
  ·rename_i y z t t2 h1 h2
   have ho' : isApp o y z t t2 := by unfold isApp; rw [ho, Qv h1, Qv h2]
   split at hx
   ·rename_i ht ht2
    simp only [Option.bind_eq_bind, Option.bind_eq_some_iff, Option.pure_def, Option.some.injEq] at hx
    obtain ⟨s, h3, sb, h6, xy, h4, xz, h5, rfl⟩ := hx
    exact (Gd ho' ht ht2 h3 h6 h4 h5 hw e).jZ nod
   ·cases hx
  ·cases hx
 ·rename_i f
  simp only [Option.bind_eq_bind, Option.bind_eq_some_iff, Option.pure_def, Option.some.injEq] at hx
  obtain ⟨xf, h3, xs, h4, rfl⟩ := hx
  exact Lg ho h3 h4 hw (hc (by simp [kW, ho])) hC e
 ·cases hx
theorem ze {t : TypeId} {fs : Array Field} {i : TypeInfo} {zv : Value} {places : List (Nat × Nat)} (hu : P.underlying t = some (.struct fs)) (hi : P.info? t = some i) (hz : i.zero = some zv) (hp : fs.toList.mapM (fun f => (P.info? f.type).map fun i => (f.offset, i.size)) = some places)
    (qs : List (Nat × Value)) (cells : Array Value) (hf : Instr.fill (fun i => places.toArray[i]?) zv.cells qs = some cells) : P.built t qs = some cells := by
 unfold Program.built
 rw [hi, hu]
 simp only [hz, hp]
 exact hf
theorem BH {t e0 : TypeId} {n s : Nat} {i : TypeInfo} {zv : Value} (hu : P.underlying t = some (.array n e0)) (hi : P.info? t = some i) (hz : i.zero = some zv) (hs : te P e0 = some s)
    (qs : List (Nat × Value)) (cells : Array Value) (hf : Instr.fill (fun i => some (i * s, s)) zv.cells qs = some cells) : P.built t qs = some cells := by
 unfold te at hs
 simp only [Option.map_eq_some_iff] at hs
 obtain ⟨ie, h1, rfl⟩ := hs
 unfold Program.built
 rw [hi, hu]
 simp only [hz, h1]
 exact hf
theorem Qw (hx : ∃ x, cO P o = some x ∧ x c call sl h k = some r) (hw : WF h) (hc : kW o = true → Ctx c h) (hC : jV dr P ng call) : Ew dr P ng o c sl h k r := by
 obtain ⟨x, hx, e⟩ := hx
 unfold cO at hx
 split at hx
 ·rename_i y ho
  simp only [Option.map_eq_some_iff] at hx
  obtain ⟨a, h1, rfl⟩ := hx
  exact (Mw (Or.inl ho) h1 hw e).jZ (fun q => by rw [ho]; exact fun e => by cases e)
 ·rename_i y ho
  simp only [Option.map_eq_some_iff] at hx
  obtain ⟨a, h1, rfl⟩ := hx
  exact (Mw (Or.inr ho) h1 hw e).jZ (fun q => by rw [ho]; exact fun e => by cases e)
 ·rename_i ho
  simp only [Option.bind_eq_bind, Option.bind_eq_some_iff, Option.pure_def, Option.some.injEq] at hx
  obtain ⟨a, h1, b, h2, d, h3, rfl⟩ := hx
  exact (Li ho h1 h2 h3 hw e).jZ (fun q => by rw [ho]; exact fun e => by cases e)
 ·rename_i ho
  simp only [Option.bind_eq_bind, Option.bind_eq_some_iff, Option.pure_def, Option.some.injEq] at hx
  obtain ⟨z, h1, rfl⟩ := hx
  exact (I2 ho h1 hw e).jZ (fun q => by rw [ho]; exact fun e => by cases e)
 ·rename_i ho
  simp only [Option.map_eq_some_iff] at hx
  obtain ⟨a, h1, rfl⟩ := hx
  exact (Ob ho h1 hw e).jZ (fun q => by rw [ho]; exact fun e => by cases e)
 ·rename_i t ps ho
  split at hx
  ·rename_i fs hu
   simp only [Option.bind_eq_bind, Option.bind_eq_some_iff, Option.pure_def, Option.some.injEq] at hx
   obtain ⟨z, h1, places, h2, xs, h3, rfl⟩ := hx
   obtain ⟨i, zv, i1, i2, i3⟩ := fG h1
   exact (Bz ho h3 i3 (kx h1) (ze hu i1 i2 h2) hw e).jZ (fun q => by rw [ho]; exact fun e => by cases e)
  ·rename_i n e0 hu
   simp only [Option.bind_eq_bind, Option.bind_eq_some_iff, Option.pure_def, Option.some.injEq] at hx
   obtain ⟨z, h1, s, h2, xs, h3, rfl⟩ := hx
   obtain ⟨i, zv, i1, i2, i3⟩ := fG h1
   exact (Bz ho h3 i3 (kx h1) (BH hu i1 i2 h2) hw e).jZ (fun q => by rw [ho]; exact fun e => by cases e)
  ·cases hx
 ·rename_i t n ps ho
  split at hx
  ·rename_i e0 hu
   simp only [Option.bind_eq_bind, Option.bind_eq_some_iff] at hx
   obtain ⟨s, h1, z, h2, xs, h3, h4⟩ := hx
   split at h4
   ·rename_i hh
    simp only [Option.pure_def, Option.some.injEq] at h4
    subst h4
    exact (F7 ho hu h1 h2 h3 hh.1 hh.2 hw e).jZ (fun q => by rw [ho]; exact fun e => by cases e)
   ·cases h4
  ·cases hx
 ·rename_i t y ho
  split at hx
  ·rename_i ht
   simp only [Option.map_eq_some_iff] at hx
   obtain ⟨a, h1, rfl⟩ := hx
   exact (I3 ho h1 ht hw e).jZ (fun q => by rw [ho]; exact fun e => by cases e)
  ·rename_i n ht
   simp only [Option.map_eq_some_iff] at hx
   obtain ⟨a, h1, rfl⟩ := hx
   exact (I4 ho h1 ht hw e).jZ (fun q => by rw [ho]; exact fun e => by cases e)
  ·cases hx
 ·rename_i ho
  simp only [Option.bind_eq_bind, Option.bind_eq_some_iff, Option.pure_def, Option.some.injEq] at hx
  obtain ⟨n, h1, a, h2, b, h3, rfl⟩ := hx
  exact (I5 ho h2 h3 h1 hw e).jZ (fun q => by rw [ho]; exact fun e => by cases e)
 ·rename_i ho
  simp only [Option.map_eq_some_iff] at hx
  obtain ⟨a, h1, rfl⟩ := hx
  exact (Lj ho h1 hw e).jZ (fun q => by rw [ho]; exact fun e => by cases e)
 ·rename_i ho
  exact (Oc ho hx hw e).jZ (fun q => by rw [ho]; exact fun e => by cases e)
 ·rename_i ho
  simp only [Option.map_eq_some_iff] at hx
  obtain ⟨a, h1, rfl⟩ := hx
  exact (N7 ho h1 hw e).jZ (fun q => by rw [ho]; exact fun e => by cases e)
 ·rename_i s d y ho
  split at hx
  ·rename_i hs hd
   simp only [Option.map_eq_some_iff] at hx
   obtain ⟨a, h1, rfl⟩ := hx
   exact (IV ho hs hd h1 hw e).jZ (fun q => by rw [ho]; exact fun e => by cases e)
  ·rename_i hs hd
   simp only [Option.map_eq_some_iff] at hx
   obtain ⟨a, h1, rfl⟩ := hx
   exact (Lc ho hs hd h1 hw e).jZ (fun q => by rw [ho]; exact fun e => by cases e)
  ·cases hx
 ·rename_i f first caps ho
  split at hx
  ·rename_i hh
   simp only [Option.bind_eq_bind, Option.bind_eq_some_iff, Option.pure_def, Option.some.injEq] at hx
   obtain ⟨xs, h1, rfl⟩ := hx
   have : first = #[] := by simpa using hh
   subst this
   exact (Lq ho h1 hw e).jZ (fun q => by rw [ho]; exact fun e => by cases e)
  ·cases hx
 ·rename_i t y ho
  split at hx
  ·cases hx
  ·rename_i d hnd hu
   simp only [Option.map_eq_some_iff] at hx
   obtain ⟨a, h1, rfl⟩ := hx
   exact (Lh ho hu (fun ms q => hnd ms q) h1 hw e).jZ (fun q => by rw [ho]; exact fun e => by cases e)
  ·cases hx
 ·rename_i y s t ho
  split at hx
  ·cases hx
  ·rename_i d hnd hu
   simp only [Option.bind_eq_bind, Option.bind_eq_some_iff, Option.pure_def, Option.some.injEq] at hx
   obtain ⟨z, h1, a, h2, rfl⟩ := hx
   exact (Ge ho hu (fun ms q => hnd ms q) h1 h2 hw e).jZ (fun q => by rw [ho]; exact fun e => by cases e)
  ·cases hx
 ·rename_i t ho
  cases hx
  exact (I8 ho (Or.inl rfl) hw e).jZ (fun q => by rw [ho]; exact fun e => by cases e)
 ·rename_i t y ho
  split at hx
  ·rename_i hu
   simp only [Option.map_eq_some_iff] at hx
   obtain ⟨a, h1, rfl⟩ := hx
   exact (FY ho hu h1 hw e).jZ (fun q => by rw [ho]; exact fun e => by cases e)
  ·cases hx
 ·rename_i t y ho
  split at hx
  ·rename_i hu
   simp only [Option.map_eq_some_iff] at hx
   obtain ⟨a, h1, rfl⟩ := hx
   exact (IC ho hu h1 hw e).jZ (fun q => by rw [ho]; exact fun e => by cases e)
  ·cases hx
 ·rename_i y ho
  simp only [Option.map_eq_some_iff] at hx
  obtain ⟨a, h1, rfl⟩ := hx
  exact (K2 ho h1 hw e).jZ (fun q => by rw [ho]; exact fun e => by cases e)
 ·rename_i t y1 y2 ho
  split at hx
  ·rename_i e0 hu
   simp only [Option.bind_eq_bind, Option.bind_eq_some_iff] at hx
   obtain ⟨s, h1, z, h2, h4⟩ := hx
   split at h4
   ·rename_i hh
    simp only [Option.bind_eq_some_iff, Option.pure_def, Option.some.injEq] at h4
    obtain ⟨a, h5, b, h6, rfl⟩ := h4
    exact (Dx ho hu h1 h2 hh h5 h6 hw e).jZ (fun q => by rw [ho]; exact fun e => by cases e)
   ·cases h4
  ·cases hx
 ·rename_i t y lo hi ho
  split at hx
  ·rename_i hu
   simp only [Option.bind_eq_bind, Option.bind_eq_some_iff, Option.pure_def, Option.some.injEq] at hx
   obtain ⟨a, h1, b, h2, d, h3, rfl⟩ := hx
   exact (F5 ho h1 h2 h3 hu hw e).jZ (fun q => by rw [ho]; exact fun e => by cases e)
  ·rename_i e0 hu
   simp only [Option.bind_eq_bind, Option.bind_eq_some_iff, Option.pure_def, Option.some.injEq] at hx
   obtain ⟨s, h0, a, h1, b, h2, d, h3, rfl⟩ := hx
   exact (IW ho h1 h2 h3 hu h0 hw e).jZ (fun q => by rw [ho]; exact fun e => by cases e)
  ·cases hx
 ·rename_i s y j ho
  split at hx
  ·rename_i fs hu
   split at hx
   ·rename_i f hf
    split at hx
    ·rename_i m hm
     simp only [Option.map_eq_some_iff] at hx
     obtain ⟨a, h1, rfl⟩ := hx
     exact (I6 ho h1 hu hf hm hw e).jZ (fun q => by rw [ho]; exact fun e => by cases e)
    ·cases hx
   ·cases hx
  ·cases hx
 ·rename_i s y j ho
  split at hx
  ·rename_i fs hu
   simp only [Option.bind_eq_bind, Option.bind_eq_some_iff] at hx
   obtain ⟨f, hf, hx⟩ := hx
   split at hx
   ·rename_i hm
    simp only [Option.map_eq_some_iff] at hx
    obtain ⟨a, h1, rfl⟩ := hx
    exact (Ll ho h1 hu hf hm hw e).jZ (fun q => by rw [ho]; exact fun e => by cases e)
   ·cases hx
  ·cases hx
 ·rename_i t y z ho
  split at hx
  ·rename_i e0 hu
   simp only [Option.bind_eq_bind, Option.bind_eq_some_iff, Option.pure_def, Option.some.injEq] at hx
   obtain ⟨s, h0, a, h1, b, h2, rfl⟩ := hx
   exact (I7 ho h1 h2 hu h0 hw e).jZ (fun q => by rw [ho]; exact fun e => by cases e)
  ·rename_i n e0 hu
   simp only [Option.bind_eq_bind, Option.bind_eq_some_iff, Option.pure_def, Option.some.injEq] at hx
   obtain ⟨s, h0, a, h1, b, h2, rfl⟩ := hx
   exact (FX ho h1 h2 hu h0 hw e).jZ (fun q => by rw [ho]; exact fun e => by cases e)
  ·cases hx
 ·rename_i t y z ho
  split at hx
  ·rename_i hu
   simp only [Option.bind_eq_bind, Option.bind_eq_some_iff, Option.pure_def, Option.some.injEq] at hx
   obtain ⟨a, h1, b, h2, rfl⟩ := hx
   exact (Ln ho h1 h2 hu hw e).jZ (fun q => by rw [ho]; exact fun e => by cases e)
  ·rename_i n e0 hu
   split at hx
   ·rename_i ha hs
    simp only [Option.bind_eq_bind, Option.bind_eq_some_iff, Option.pure_def, Option.some.injEq] at hx
    obtain ⟨a, h1, b, h2, rfl⟩ := hx
    exact (KZ ho h1 h2 hu ha hs hw e).jZ (fun q => by rw [ho]; exact fun e => by cases e)
   ·cases hx
  ·cases hx
 ·rename_i t y z ok ho
  split at hx
  ·rename_i q e0 hu
   simp only [Option.bind_eq_bind, Option.bind_eq_some_iff, Option.pure_def, Option.some.injEq] at hx
   obtain ⟨eq, h0, zz, h1, a, h2, b, h3, rfl⟩ := hx
   exact (F9 ho hu (zd h0) h1 h2 h3 hw e).jZ (fun q => by rw [ho]; exact fun e => by cases e)
  ·cases hx
 ·rename_i t m0 k0 v0 ho
  split at hx
  ·rename_i q e0 hu
   simp only [Option.bind_eq_bind, Option.bind_eq_some_iff, Option.pure_def, Option.some.injEq] at hx
   obtain ⟨eq, h0, a, h1, b, h2, d, h3, rfl⟩ := hx
   exact (BG (Or.inl ho) hu (zd h0) h1 h2 h3 hw e).jZ (fun q => by rw [ho]; exact fun e => by cases e)
  ·cases hx
 ·rename_i t m0 k0 v0 ho
  split at hx
  ·rename_i q e0 hu
   simp only [Option.bind_eq_bind, Option.bind_eq_some_iff, Option.pure_def, Option.some.injEq] at hx
   obtain ⟨eq, h0, a, h1, b, h2, d, h3, rfl⟩ := hx
   exact (BG (Or.inr ho) hu (zd h0) h1 h2 h3 hw e).jZ (fun q => by rw [ho]; exact fun e => by cases e)
  ·cases hx
 ·rename_i ho
  simp only [Option.bind_eq_bind, Option.bind_eq_some_iff, Option.pure_def, Option.some.injEq] at hx
  obtain ⟨a, h1, rfl⟩ := hx
  exact (Lo ho h1 hw e).jZ (fun q => by rw [ho]; exact fun e => by cases e)
 ·rename_i q ho
  exact Ja ho hx hw hc hC e
 ·cases hx
theorem R7 (P : Program) (ng : Nat) : FK dr P ng := fun o x hx c call sl h k r hc hw hC e => Qw ⟨x, hx, e⟩ hw hc hC
end
end
section
open Go Go.RowKit
variable {dr : Prop}
def top (n : Nat) : C := ⟨n, [(0, jf)]⟩
theorem HQ {P : Program} {X : dg} {M : Mf} (hmx : P.follows .mixedOrders = true) (hNG : ∀ (f : Nat) (fn : Func), P.funcs[f]? = some fn → (fn.name == "runtime.NumGoroutine") = false) (hX : wY P X) (hM : dG dr P P.globals.size M) {fuel f : Nat} {args : List AV} {v : AV} {h0 h' : H}
    (hev : ev (cC P) (bW P X) M fuel (top h0.n) (.call (.Kx f) args) h0 = .call v h') (hwf : WF h0) {β : cn} {w : World} (hgb : GB P.globals.size β) (hr : HR (top h0.n).floor β (view (top h0.n) h0) w) (hdom : ∀ id, h0.n ≤ id → β id = none) {cargs : List Value} (hv : bE β args cargs) :
    Calls P f cargs.toArray w fun e w' => ∃ β' val, e = .returned val ∧ VR β' v val ∧ Sub β β' ∧ Below w.heap.size w w' ∧ (dr → w.drawn ≤ w'.drawn) := by
 have hC := (Bk (ng := P.globals.size) hmx (R7 P _) (Nat.le_refl _) hNG hX hM fuel).2
 have hctx : Ctx (top h0.n) h0 := ⟨Nat.le_refl _, fun id _ => by
  show seen [(0, jf)] id = true
  simp only [seen]
  have : Nat.ble 0 id = true := by simp
  rw [this]
  exact Bw (id := id) (b := jf) (Or.inl rfl)⟩
 have hfd : lu dr P P.globals.size f args (top h0.n) h0 v h' := hC (.Kx f) args (top h0.n) h0 v h' hctx hwf (by unfold gm; rw [hev])
 obtain ⟨hst, _, hd⟩ := hfd
 refine hd β w cargs hgb hr hv (fun id h1 _ => hdom id h1) _ fun β' val w' hP hvr => ⟨β', val, rfl, hvr, hP.sub, ⟨hP.os, hP.tape.1, hP.output, hP.size, fun B hB => hP.frame B hB fun id b L bV hg _ => ?_⟩, hP.tape.2⟩
 have h1 := fO hwf (dQ (jk hg)).1
 have h2 : h0.n ≤ id := bV
 omega
def isTrue : lr → Bool
 | .call (.bool true) _ => true
 | _ => false
theorem A1 {x : lr} (h : isTrue x = true) : ∃ h', x = .call (.bool true) h' := by
 unfold isTrue at h
 split at h
 ·exact ⟨_, rfl⟩
 ·cases h
end
end Go.Proofs.YtgaihilgffficaaGreatDoor.Ev
