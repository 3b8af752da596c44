/- CoverStates, part 2 -/
import Derived.Test.YtgaihilgffficaaGreatDoorEvA
import Derived.Below
set_option linter.all false
namespace Go.Proofs.YtgaihilgffficaaGreatDoor.Ev
open Go
def mo : Value → Option AV
 | .bool b => some (.bool b)
 | .int k n => some (.int k n)
 | .string s => some (.str (s.data.toList.map UInt8.toNat))
 | .pointer none => some .gA
 | .slice none 0 0 => some .aO
 | .map none => some .eU
 | .nilFunc => some .jN
 | .nilIface => some .wy
 | .func (.func f) first caps => if first.isEmpty && caps.isEmpty then some (.fn f []) else none
 | _ => none
def NQ : Value → Option AV
 | .agg cs => (cs.toList.mapM mo).map .agg
 | .tuple cs => (cs.toList.mapM mo).map .bO
 | v => mo v
def cV : Operand → Option XV
 | .tmp t => some (.tmp t)
 | .const v => (NQ v).map .const
 | .global g => some (.Ar g)
 | .func f => some (.const (.fn f []))
section
variable (P : Program)
def Dg (t : TypeId) : Option (Option Nat) :=
 match P.underlying t, P.info? t with
 | some (.struct _), some i | some (.array _ _), some i => some (some i.size)
 | some _, some _ => some none
 | _, _ => none
def iC (t : TypeId) : Option AV := do NQ (← (← P.info? t).zero)
def te (t : TypeId) : Option Nat := (P.info? t).map (·.size)
def rm (x : Option Operand) : Option (Option XV) := match x with | none => some none | some x => (cV x).map some
def kV (place : Nat → Option (Nat × Nat)) : List (Nat × Operand) → Option (List (Nat × Nat × XV))
 | [] => some []
 | q :: qs => do
  let p ← place q.1
  let x ← cV q.2
  pure ((p.1, p.2, x) :: (← kV place qs))
def r8 (e : TypeId) : Option Nat := match P.info? e with
 | some i => match i.zero with
  | some z => if z.cells.size = i.size ∧ i.bytes ≤ 1000000 then some i.size else none
  | none => none
 | none => none
def KQ (e : TypeId) : Option Nat := match P.info? e with
 | some i => if 0 < i.bytes then some i.bytes else none
 | none => none
def Ig (c : Call) : Option XO :=
 match c.callee with
 | .builtin .len => match c.args.toList, c.argTypes.toList with
  | [x], [t] => match P.underlying t with
   | some .string => (cV x).map Bb
   | some (.slice _) => (cV x).map uU
   | some (.map _ _) => (cV x).map Ed
   | _ => none
  | _, _ => none
 | .builtin .append => match c.args.toList, c.argTypes.toList with
  | [s, x], [t, t2] => match P.underlying t, P.underlying t2 with
   | some (.slice e), some (.slice _) => do pure (eI (← r8 P e) (← KQ P e) (← cV s) (← cV x))
   | _, _ => none
  | _, _ => none
 | .value f => do pure (Bc (← cV f) (← c.args.toList.mapM cV))
 | _ => none
def Bf (t : TypeId) : Option iH := match P.underlying t with
 | some (.int _) => some r5
 | some .string => some eqStr
 | some .bool => some HX
 | _ => none
def gn (i : Nat) : List Field → Option (List iH)
 | [] => some []
 | f :: fs => if f.offset = i ∧ f.name ≠ "_" then do pure ((← Bf P f.type) :: (← gn (i + 1) fs)) else none
def JS (t : TypeId) : Option iH := match P.underlying t with
 | some (.struct fs) => if P.stoodInHeld t = false ∧ P.eqGuardType P.depth t = false then (gn P 0 fs.toList).map tc else none
 | _ => Bf P t
def NR (t : TypeId) : Option iH := match P.underlying t with
 | some (.array 2 e) => match te P e with
  | some 1 => (Bf P e).map fun g => tc [g, g]
  | _ => none
 | _ => none
def Q6 (t : TypeId) : Option iH := match JS P t with
 | some e => some e
 | none => NR P t
def KR (neg : Bool) (t : TypeId) (x y : Operand) : Option XO :=
 match P.underlying t, y with
 | some (.pointer _), .const (.pointer none) => (cV x).map (Ec neg)
 | some (.slice _), .const (.slice none 0 0) => (cV x).map (pY neg)
 | _, _ => do pure (H6 (← JS P t) neg (← cV x) (← cV y))
def NS (op : BinOp) (t : TypeId) (x y : Operand) : Option XO :=
 match op, P.underlying t with
 | .eql, _ => KR P false t x y
 | .neq, _ => KR P true t x y
 | .add, some (.int _) => do pure (ints HZ (← cV x) (← cV y))
 | .sub, some (.int _) => do pure (ints H0 (← cV x) (← cV y))
 | .mul, some (.int _) => do pure (ints KH (← cV x) (← cV y))
 | .quo, some (.int _) => do pure (ints KI (← cV x) (← cV y))
 | .rem, some (.int _) => do pure (ints KJ (← cV x) (← cV y))
 | .lss, some (.int _) => do pure (ints H2 (← cV x) (← cV y))
 | .leq, some (.int _) => do pure (ints H3 (← cV x) (← cV y))
 | .gtr, some (.int _) => do pure (ints H4 (← cV x) (← cV y))
 | .geq, some (.int _) => do pure (ints H5 (← cV x) (← cV y))
 | .lss, some .string => do pure (r6 KK (← cV x) (← cV y))
 | .gtr, some .string => do pure (r6 KL (← cV x) (← cV y))
 | .geq, some .string => do pure (r6 KM (← cV x) (← cV y))
 | .and, some (.int _) => do pure (ints (p7 Nat.land) (← cV x) (← cV y))
 | .xor, some (.int _) => do pure (ints (p7 Nat.xor) (← cV x) (← cV y))
 | _, _ => none
def cO (o : Oper) : Option XO :=
 match o.op with
 | .move x | .assign x => (cV x).map Q5
 | .pick c a b => do pure (w9 (← cV c) (← cV a) (← cV b))
 | .alloc e => do pure (A4 (.const (← iC P e)))
 | .box _ x => (cV x).map A4
 | .build t ps => match P.underlying t with
  | some (.struct fs) => do
   let z ← iC P t
   let places ← fs.toList.mapM fun f => (P.info? f.type).map fun i => (f.offset, i.size)
   let ps ← kV (fun i => places.toArray[i]?) ps.toList
   pure (rh z.cells ps)
  | some (.array _ e) => do
   let z ← iC P t
   let s ← te P e
   let ps ← kV (fun i => some (i * s, s)) ps.toList
   pure (rh z.cells ps)
  | _ => none
 | .buildSlice t n ps => match P.underlying t with
  | some (.slice e) => do
   let s ← r8 P e
   let z ← iC P e
   let ps ← kV (fun i => some (i * s, s)) ps.toList
   if 0 < s ∧ n * s ≤ 1000000 then pure (pX n z.cells ps) else none
  | _ => none
 | .load t a => match Dg P t with
  | some none => (cV a).map uO
  | some (some n) => (cV a).map (uP n)
  | none => none
 | .store t a x => do pure (uQ (← te P t) (← cV a) (← cV x))
 | .nilCheck x => (cV x).map xa
 | .binOp op t x y _ => NS P op t x y
 | .unOp .not _ x => (cV x).map H7
 | .convert s d x => match P.underlying s, P.underlying d with
  | some (.int _), some (.int k) => (cV x).map (yQ k)
  | some .string, some .string => (cV x).map A5
  | _, _ => none
 | .makeFunc (.func f) first caps => if first.isEmpty then do pure (A9 f (← caps.toList.mapM cV)) else none
 | .makeInterface t x => match P.underlying t with
  | some (.interface _) => none
  | some _ => (cV x).map (H8 t)
  | none => none
 | .typeAssert x _ t true => match P.underlying t with
  | some (.interface _) => none
  | some _ => do pure (yR t (← iC P t) (← cV x))
  | none => none
 | .makeMap _ none => some uT
 | .makeMap t (some x) => match P.underlying t with
  | some (.map _ _) => (cV x).map p9
  | _ => none
 | .range t x => match P.underlying t with
  | some (.map _ _) => (cV x).map De
  | _ => none
 | .next x false => (cV x).map H9
 | .makeSlice t l c => match P.underlying t with
  | some (.slice e) => do
   let s ← r8 P e
   let z ← iC P e
   if 0 < s then pure (mj z.cells (← cV l) (← cV c)) else none
  | _ => none
 | .slice t x lo hi none => match P.underlying t with
  | some .string => do pure (pZ (← cV x) (← rm lo) (← rm hi))
  | some (.slice e) => do pure (mi (← te P e) (← cV x) (← rm lo) (← rm hi))
  | _ => none
 | .fieldAddr s x f => match P.underlying s with
  | some (.struct fs) => match fs[f]? with
   | some f => match te P f.type with
    | some (_ + 1) => (cV x).map (uR f.offset)
    | _ => none
   | none => none
  | _ => none
 | .field s x f => match P.underlying s with
  | some (.struct fs) => do
   let f ← fs[f]?
   match Dg P f.type with
   | some none => (cV x).map (A6 f.offset)
   | _ => none
  | _ => none
 | .indexAddr t x i => match P.underlying t with
  | some (.slice e) => do pure (uS (← te P e) (← cV x) (← cV i))
  | some (.array n e) => do pure (p8 n (← te P e) (← cV x) (← cV i))
  | _ => none
 | .index t x i => match P.underlying t with
  | some .string => do pure (A7 (← cV x) (← cV i))
  | some (.array n e) => match Dg P e, te P e with
   | some none, some 1 => do pure (Be n (← cV x) (← cV i))
   | _, _ => none
  | _ => none
 | .lookup t x i ok => match P.underlying t with
  | some (.map q e) => do pure (p5 (← Q6 P q) (← iC P e) (← cV x) (← cV i) ok)
  | _ => none
 | .mapUpdate t m k v | .insert t m k v => match P.underlying t with
  | some (.map q _) => do pure (ri (← Q6 P q) (← cV m) (← cV k) (← cV v))
  | _ => none
 | .extract x i => do pure (A8 (← cV x) i)
 | .call c => Ig P c
 | _ => none
def kW (o : Oper) : Bool :=
 match o.op with
 | .store .. | .mapUpdate .. | .insert .. | .mapEntry .. | .entryStore .. => true
 | .call c => match c.callee with
  | .builtin .len | .builtin .max | .builtin .min => false
  | _ => true
 | .range .. | .next .. | .entry .. => true
 | _ => false
def Bg (o : Oper) : Option Operand :=
 match o.op with
 | .load _ a => some a
 | .lookup _ x _ _ => some x
 | .convert s _ x => match P.underlying s with
  | some (.slice _) => some x
  | _ => none
 | .call c => match c.callee with
  | .builtin .len => match c.argTypes.toList, c.args.toList with
   | [t], [x] => match P.underlying t with
    | some (.map _ _) => some x
    | _ => none
   | _, _ => none
  | _ => none
 | _ => none
def uV (ops : Array Oper) (g : Option (Nat × Bool)) : Option (Option (Nat × Bool)) :=
 match g with
 | none => some none
 | some (j, w) => match (ops[j]?).bind (·.dst) with
  | some d => some (some (d, w))
  | none => none
def NT : Operand → Bool
 | .global g => Nat.blt g P.globals.size
 | _ => true
def cR (ops : Array Oper) (bt : Nat) (o : Oper) : XR :=
 match cO P o, uV ops o.guard, o.op.operands.toList.all (NT P) with
 | some x, some g, true => { dst := o.dst, op := x, guard := g, bt := bt, mem := kW o, oJ := false, fc := none }
 | _, _, _ => { dst := o.dst, op := KP, guard := none, bt := bt, mem := true, oJ := false, fc := none }
def SG (ops : Array Oper) : List XR := ops.toList.map (cR P ops 0)
def Ef (ops : Array Oper) (b : Array Nat) (j : Nat) : Bool :=
 (List.range ops.size).all fun i => !kW (ops.getD i default) || i == j || (if i < j then (b.getD j 0).testBit i else (b.getD i 0).testBit j)
def cD (ops : Array Oper) (b : Array Nat) (j : Nat) : XR :=
 let x := cR P ops (b.getD j 0) (ops.getD j default)
 { x with mem := kW (ops.getD j default), oJ := kW (ops.getD j default) && Ef ops b j, fc := (Bg P (ops.getD j default)).bind cV }
def Ih (ops : Array Oper) : List XR := (List.range ops.size).map (cD P ops (Region.before ops))
def Mu (ops : Array Oper) (b : Array Nat) : Bool :=
 (List.range ops.size).all fun j =>
  (b.getD j 0 < 2 ^ j) && ((ops.getD j default).after.all fun e => !Region.binds .any e || e.on < j) &&
  match (ops.getD j default).dst with
  | none => true
  | some d => (List.range ops.size).all fun i => i == j || (if i < j then (b.getD j 0).testBit i else (b.getD i 0).testBit j) || !(((ops.getD i default).looksAt ops).contains d || (ops.getD i default).dst == some d)
def cC : Code → XC
 | .skip => .skip
 | .region _ ops false => .JL (SG P ops)
 | .region _ ops true => bif Mu ops (Region.before ops) then .br (Ih P ops) else .bad
 | .seq a b => .seq (cC a) (cC b)
 | .cond c a b => match cV c, NT P c with
  | some c, true => .cond c (cC a) (cC b)
  | _, _ => .bad
 | .block id b => .block id (cC b)
 | .loop b => .loop (cC b)
 | .exit id => .exit id
 | .ret => .ret
 | .label _ => .skip
 | _ => .bad
def Ii : ResultVar → Option (Nat × Option (Option Nat))
 | .tmp t => some (t, none)
 | .cell a t => do pure (a, some (← Dg P t))
def cF (f : Func) : Option XF := do
 let b ← f.body
 let rs ← f.results.toList.mapM (Ii P)
 if f.ntmps ≤ 1000000 then pure { nt := f.ntmps, res := rs, body := cC P b } else none
def xd (f : Nat) : Option XF := (P.funcs[f]?).bind (cF P)
abbrev dg := List (Nat × (List AV → Option AV))
def AY : dg → Nat → Option (List AV → Option AV)
 | [], _ => none
 | e :: es, f => bif Nat.beq e.1 f then some e.2 else AY es f
def bW (X : dg) (f : Nat) : Option XT := match AY X f with
 | some g => some (.ext g)
 | none => (xd P f).map .fn
end
section
variable {dr : Prop}
structure Loc where
 cm : Nat
 base : Nat
 size : Nat
 val : Value
def dv : Value := .nilFunc
abbrev cn := Nat → Option Loc
def Sub (β β' : cn) : Prop := ∀ id L, β id = some L → β' id = some L
theorem Sub.refl (β : cn) : Sub β β := fun _ _ h => h
theorem Sub.trans {β β' β'' : cn} (h : Sub β β') (h' : Sub β' β'') : Sub β β'' := fun id L e => h' id L (h id L e)
def GB (ng : Nat) (β : cn) : Prop := ∀ g, g < ng → ∃ s, β g = some ⟨g, 0, s, dv⟩
theorem GB.mono {ng : Nat} {β β' : cn} (h : GB ng β) (hs : Sub β β') : GB ng β' := fun g hg => by
 obtain ⟨s, e⟩ := h g hg
 exact ⟨s, hs _ _ e⟩
mutual
def VR (β : cn) : AV → Value → Prop
 | .bool b, v => v = .bool b
 | .int k n, v => v = .int k n
 | .str s, v => ∃ b : ByteArray, v = .string b ∧ b.data.toList.map UInt8.toNat = s
 | .gA, v => v = .pointer none
 | .ptr id off, v => ∃ L, β id = some L ∧ v = .pointer (some ⟨L.cm, L.base + off, none⟩)
 | .aO, v => v = .slice none 0 0
 | .sl id off len esz cap, v => ∃ L o cp, β id = some L ∧ v = .slice (some ⟨L.cm, o, none⟩) len cp ∧ len ≤ cp ∧ o + cp * esz ≤ L.size ∧ (o = L.base + off ∨ (len = 0 ∧ cp = 0)) ∧ (∀ c, cap = some c → cp = c)
 | .eU, v => v = .map none
 | .mp id, v => ∃ L, β id = some L ∧ v = .map (some L.cm)
 | .jN, v => v = .nilFunc
 | .fn f caps, v => ∃ cs, v = .func (.func f) #[] cs ∧ bE β caps cs.toList
 | .KC f first caps, v => ∃ fs cs, v = .func (.func f) fs cs ∧ bE β first fs.toList ∧ bE β caps cs.toList
 | .wy, v => v = .nilIface
 | .iface t x, v => ∃ c, v = .iface t c ∧ VR β x c
 | .B0 id, v => ∃ L, β id = some L ∧ v = .func (.yield L.cm) #[] #[]
 | .agg vs, v => ∃ cs, v = .agg cs ∧ bE β vs cs.toList
 | .bO vs, v => ∃ cs, v = .tuple cs ∧ bE β vs cs.toList
 | .raw oa n cp, v => v = .slice oa n cp
 | .var id, v => ∃ L, β id = some L ∧ v = L.val ∧ v.cells = #[v]
 | .top, _ => True
def bE (β : cn) : List AV → List Value → Prop
 | [], cs => cs = []
 | v :: vs, cs => ∃ c cs', cs = c :: cs' ∧ VR β v c ∧ bE β vs cs'
end
mutual
theorem VR.mono {β β' : cn} (h : Sub β β') : ∀ (v : AV) (c : Value), VR β v c → VR β' v c
 | .bool b, v, e => by simpa [VR] using e
 | .int k n, v, e => by simpa [VR] using e
 | .str s, v, e => by simpa [VR] using e
 | .gA, v, e => by simpa [VR] using e
 | .ptr id off, v, e => by
  simp only [VR] at e ⊢
  obtain ⟨L, h1, h2⟩ := e
  exact ⟨L, h _ _ h1, h2⟩
 | .aO, v, e => by simpa [VR] using e
 | .sl id off len esz cap, v, e => by
  simp only [VR] at e ⊢
  obtain ⟨L, o, cp, h1, h2⟩ := e
  exact ⟨L, o, cp, h _ _ h1, h2⟩
 | .eU, v, e => by simpa [VR] using e
 | .mp id, v, e => by
  simp only [VR] at e ⊢
  obtain ⟨L, h1, h2⟩ := e
  exact ⟨L, h _ _ h1, h2⟩
 | .jN, v, e => by simpa [VR] using e
 | .fn f caps, v, e => by
  simp only [VR] at e ⊢
  obtain ⟨cs, h1, h2⟩ := e
  exact ⟨cs, h1, bE.mono h _ _ h2⟩
 | .KC f first caps, v, e => by
  simp only [VR] at e ⊢
  obtain ⟨fs, cs, h1, h2, h3⟩ := e
  exact ⟨fs, cs, h1, bE.mono h _ _ h2, bE.mono h _ _ h3⟩
 | .wy, v, e => by simpa [VR] using e
 | .iface t x, v, e => by
  simp only [VR] at e ⊢
  obtain ⟨c, h1, h2⟩ := e
  exact ⟨c, h1, VR.mono h _ _ h2⟩
 | .B0 id, v, e => by
  simp only [VR] at e ⊢
  obtain ⟨L, h1, h2⟩ := e
  exact ⟨L, h _ _ h1, h2⟩
 | .agg vs, v, e => by
  simp only [VR] at e ⊢
  obtain ⟨cs, h1, h2⟩ := e
  exact ⟨cs, h1, bE.mono h _ _ h2⟩
 | .bO vs, v, e => by
  simp only [VR] at e ⊢
  obtain ⟨cs, h1, h2⟩ := e
  exact ⟨cs, h1, bE.mono h _ _ h2⟩
 | .raw oa n cp, v, e => by simpa [VR] using e
 | .var id, v, e => by
  simp only [VR] at e ⊢
  obtain ⟨L, h1, h2⟩ := e
  exact ⟨L, h _ _ h1, h2⟩
 | .top, v, e => by simp [VR]
theorem bE.mono {β β' : cn} (h : Sub β β') : ∀ (vs : List AV) (cs : List Value), bE β vs cs → bE β' vs cs
 | [], cs, e => by simpa [bE] using e
 | v :: vs, cs, e => by
  simp only [bE] at e ⊢
  obtain ⟨c, cs', h1, h2, h3⟩ := e
  exact ⟨c, cs', h1, VR.mono h _ _ h2, bE.mono h _ _ h3⟩
end
/-! lists of related values -/
theorem bE.length {β : cn} : ∀ {vs : List AV} {cs : List Value}, bE β vs cs → vs.length = cs.length
 | [], cs, h => by simp only [bE] at h; simp [h]
 | v :: vs, cs, h => by
  simp only [bE] at h
  obtain ⟨c, cs', rfl, _, h⟩ := h
  simp [bE.length h]
theorem bE.get {β : cn} : ∀ {vs : List AV} {cs : List Value}, bE β vs cs → ∀ {i : Nat} {v : AV}, vs[i]? = some v → ∃ c, cs[i]? = some c ∧ VR β v c
 | [], cs, h, i, v, e => by simp at e
 | v :: vs, cs, h, i, u, e => by
  simp only [bE] at h
  obtain ⟨c, cs', rfl, h1, h2⟩ := h
  cases i with
  | zero => simp at e; subst e; exact ⟨c, by simp, h1⟩
  | succ i => simpa using bE.get h2 (by simpa using e)
theorem bE.of {β : cn} : ∀ {vs : List AV} {cs : List Value}, vs.length = cs.length → (∀ (i : Nat) (v : AV) (c : Value), vs[i]? = some v → cs[i]? = some c → VR β v c) → bE β vs cs
 | [], [], _, _ => by simp [bE]
 | [], _ :: _, h, _ => by simp at h
 | _ :: _, [], h, _ => by simp at h
 | v :: vs, c :: cs, h, hh => by
  simp only [bE]
  exact ⟨c, cs, rfl, hh 0 v c (by simp) (by simp), bE.of (by simpa using h) fun i v c h1 h2 => hh (i + 1) v c (by simpa using h1) (by simpa using h2)⟩
theorem bE.append {β : cn} {vs us : List AV} {cs ds : List Value} (h : bE β vs cs) (h' : bE β us ds) : bE β (vs ++ us) (cs ++ ds) := by
 induction vs generalizing cs with
 | nil => simp only [bE] at h; subst h; simpa using h'
 | cons v vs ih =>
  simp only [bE] at h
  obtain ⟨c, cs', rfl, h1, h2⟩ := h
  simp only [List.cons_append, bE]
  exact ⟨c, cs' ++ ds, rfl, h1, ih h2⟩
theorem bE.take {β : cn} {vs : List AV} {cs : List Value} (h : bE β vs cs) (n : Nat) : bE β (vs.take n) (cs.take n) :=
 bE.of (by simp [h.length]) fun i v c h1 h2 => by
  have e1 : i < n := by
   rcases Nat.lt_or_ge i n with e | e
   ·exact e
   ·rw [List.getElem?_eq_none (by simp; omega)] at h1; cases h1
  rw [List.getElem?_take_of_lt e1] at h1 h2
  obtain ⟨c', h3, h4⟩ := h.get h1
  rw [h3] at h2; cases h2; exact h4
theorem bE.drop {β : cn} {vs : List AV} {cs : List Value} (h : bE β vs cs) (n : Nat) : bE β (vs.drop n) (cs.drop n) :=
 bE.of (by simp [h.length]) fun i v c h1 h2 => by
  rw [List.getElem?_drop] at h1 h2
  obtain ⟨c', h3, h4⟩ := h.get h1
  rw [h3] at h2; cases h2; exact h4
/-! heaps -/
abbrev View := Nat → Option AB
def view (c : C) (h : H) : View := fun id => match cT c h id with
 | some .dead => none
 | b => b
def ER (β : cn) : List (AV × AV × Nat) → List MapEntry → Prop
 | [], es => es = []
 | x :: xs, es => ∃ e es', es = e :: es' ∧ VR β x.1 e.key ∧ VR β x.2.1 e.val ∧ e.born = x.2.2 ∧ ER β xs es'
theorem ER.mono {β β' : cn} (h : Sub β β') : ∀ {xs : List (AV × AV × Nat)} {es : List MapEntry}, ER β xs es → ER β' xs es
 | [], es, e => e
 | x :: xs, es, ⟨e, es', h1, h2, h3, h4, h5⟩ => ⟨e, es', h1, VR.mono h _ _ h2, VR.mono h _ _ h3, h4, h5.mono h⟩
def R0 : Nat → LoopState
 | 0 => .ready
 | 1 => .done
 | 2 => .busy
 | _ => .exhausted
def NU : Ex → Code
 | .normal => .skip
 | .exit id => .exit id
 | .ret => .ret
structure Fz (cur : Array Value) (fz : Nat × Nat) (L : Loc) (k : Nat) : Prop where
 le : L.size ≤ cur.size
 fit : L.base + k ≤ L.size
 nf : ∀ i, L.base ≤ i → i < L.size → (decide (fz.1 ≤ i) && decide (i < fz.2)) = false
def R3 (a : Array Nat) : Value := .agg (a.map fun n => .slice none n 0)
def Eg (β : cn) (n : Nat) : Option Nat → Value → Prop
 | none, v => v = .slice none 0 0 ∧ n = 0
 | some j, v => ∃ G, β j = some G ∧ v = .slice (some ⟨G.cm, 0, none⟩) n G.size ∧ n ≤ G.size ∧ G.size ≤ maxLen
theorem Eg.mono {β β' : cn} (h : Sub β β') {n : Nat} {j : Option Nat} {v : Value} (q : Eg β n j v) : Eg β' n j v := by
 cases j with
 | none => exact q
 | some j =>
  obtain ⟨G, h1, h2⟩ := q
  exact ⟨G, h _ _ h1, h2⟩
def BR (β : cn) (L : Loc) (w : World) : AB → Prop
 | .cells vs => ∃ (cur : Array Value) (e : TypeId × (Nat × Nat)), w.heap[L.cm]? = some (.cells cur e.1 e.2) ∧ Fz cur e.2 L vs.length ∧ ∀ (i : Nat) (v : AV), vs[i]? = some v → ∃ c, cur[L.base + i]? = some c ∧ VR β v c
 | .map es clock => ∃ ces, w.heap[L.cm]? = some (.map ces clock) ∧ ER β es ces.toList
 | .iter m since seen last => ∃ om, w.heap[L.cm]? = some (.mapIter om since seen.toArray last) ∧ L.base = 0 ∧ (m = none → om = none) ∧ ∀ i, m = some i → ∃ M, β i = some M ∧ om = some M.cm
 | .A2 m since b stepped v => ∃ (M S : Loc) (seen : Array Nat), β m = some M ∧ β v = some S ∧ S.val = R3 seen ∧ seen.back? = some b ∧ w.heap[L.cm]? = some (.mapIter (some M.cm) since seen stepped) ∧ L.base = 0
 | .Ru T s j => ∃ p v, (p = .pointer none ∨ p = .pointer (some ⟨L.cm, 0, none⟩)) ∧ w.heap[L.cm]? = some (.cells #[p, v] T (0, 0)) ∧ Eg β s.length j v ∧ L.base = 0
 | .Rv e s => ∃ cur : Array Value, w.heap[L.cm]? = some (.cells cur e (0, 0)) ∧ cur.size = L.size ∧ L.base = 0 ∧ cur.toList.take s.length = s.map fun n => Value.int .u8 (Int.ofNat n)
 | .ND m => ∃ M t, β m = some M ∧ w.heap[L.cm]? = some (.cells #[.map (some M.cm)] t (0, 0)) ∧ L.base = 0
 | .KF => w.heap[L.cm]? = some (.deferred (some []))
 | .loop st pend nt sl ps assign body d => ∃ r, w.heap[L.cm]? = some (.loop r) ∧ r.state = R0 st ∧ r.pending = pend.map NU ∧ r.tmps.size = nt ∧ (∀ t, VR β (slot sl t) (r.tmps.getD t undef)) ∧ r.params.toList = ps ∧ r.assign = assign ∧ r.body = body ∧ ∃ D, β d = some D ∧ r.defers = D.cm
 | .dead => True
theorem BR.mono {β β' : cn} (h : Sub β β') {L : Loc} {w w' : World} {b : AB} (hb : BR β L w b) (hw : w'.heap[L.cm]? = w.heap[L.cm]?) : BR β' L w' b := by
 cases b with
 | cells vs =>
  obtain ⟨cur, e, h1, h2, h3⟩ := hb
  exact ⟨cur, e, hw.trans h1, h2, fun i v hi => by obtain ⟨c, h4, h5⟩ := h3 i v hi; exact ⟨c, h4, VR.mono h _ _ h5⟩⟩
 | map es clock =>
  obtain ⟨ces, h1, h2⟩ := hb
  exact ⟨ces, hw.trans h1, h2.mono h⟩
 | iter m since seen last =>
  obtain ⟨om, h1, h2, h3, h4⟩ := hb
  exact ⟨om, hw.trans h1, h2, h3, fun i hi => by obtain ⟨M, a, b⟩ := h4 i hi; exact ⟨M, h _ _ a, b⟩⟩
 | A2 m since b stepped v =>
  obtain ⟨M, S, seen, h1, h2, h3, h4, h5, h6⟩ := hb
  exact ⟨M, S, seen, h _ _ h1, h _ _ h2, h3, h4, hw.trans h5, h6⟩
 | Ru T s j =>
  obtain ⟨p, v, h1, h2, h3, h4⟩ := hb
  exact ⟨p, v, h1, hw.trans h2, h3.mono h, h4⟩
 | Rv e s =>
  obtain ⟨cur, h1, h2⟩ := hb
  exact ⟨cur, hw.trans h1, h2⟩
 | ND m =>
  obtain ⟨M, t, h1, h2, h3⟩ := hb
  exact ⟨M, t, h _ _ h1, hw.trans h2, h3⟩
 | KF => exact hw.trans hb
 | loop st pend nt sl ps assign body d =>
  obtain ⟨r, h1, h2, h3, h4, h5, h6, h7, h8, D, h9, h10⟩ := hb
  exact ⟨r, hw.trans h1, h2, h3, h4, fun t => VR.mono h _ _ (h5 t), h6, h7, h8, D, h _ _ h9, h10⟩
 | dead => trivial
structure HR (f : Nat) (β : cn) (g : View) (w : World) : Prop where
 at_ : ∀ id b, g id = some b → ∃ L, β id = some L ∧ L.cm < w.heap.size ∧ BR β L w b
 inj : ∀ i j b d L M, g i = some b → g j = some d → β i = some L → β j = some M → L.cm = M.cm → i = j ∨ (i < f ∧ j < f)
theorem HR.up {f f' : Nat} {β : cn} {g : View} {w : World} (h : HR f β g w) (hf : f ≤ f') : HR f' β g w :=
 ⟨h.at_, fun i j b d L M e1 e2 e3 e4 e5 => by rcases h.inj i j b d L M e1 e2 e3 e4 e5 with q | q; exact Or.inl q; exact Or.inr ⟨om, om⟩⟩
theorem HR.sub {f : Nat} {β : cn} {g g' : View} {w : World} (h : HR f β g w) (hs : ∀ id b, g' id = some b → g id = some b) : HR f β g' w :=
 ⟨fun id b e => h.at_ id b (hs id b e), fun i j b d L M e1 e2 => h.inj i j b d L M (hs _ _ e1) (hs _ _ e2)⟩
structure cI (dr : Prop) (f n n' : Nat) (β : cn) (g : View) (w : World) (β' : cn) (g' : View) (w' : World) : Prop where
 le : n ≤ n'
 sub : Sub β β'
 fresh : ∀ id L, β' id = some L → β id = none → n ≤ id ∧ id < n'
 hr : HR f β' g' w'
 os : w'.os = w.os
 tape : w'.tape = w.tape ∧ (dr → w.drawn ≤ w'.drawn)
 output : w'.output = w.output
 size : w.heap.size ≤ w'.heap.size
 frame : ∀ B, B < w.heap.size → (∀ id b L, f ≤ id → g id = some b → β id = some L → L.cm ≠ B) → w'.heap[B]? = w.heap[B]?
 news : ∀ id L, β' id = some L → β id = none → w.heap.size ≤ L.cm ∨ ∃ i b M, f ≤ i ∧ g i = some b ∧ β i = some M ∧ M.cm = L.cm
 jG : ∀ id b, g' id = some b → (∃ d, g id = some d) ∨ β id = none
theorem cI.refl {f n : Nat} {β : cn} {g : View} {w : World} (h : HR f β g w) : cI dr f n n β g w β g w :=
 ⟨Nat.le_refl _, Sub.refl _, fun id L h1 h2 => by (rw [h2] at h1; cases h1), h, rfl, ⟨rfl, fun _ => Nat.le_refl _⟩, rfl, Nat.le_refl _, fun _ _ _ => rfl, fun id L h1 h2 => by (rw [h2] at h1; cases h1), fun id b h => Or.inl ⟨b, h⟩⟩
theorem cI.trans {f n n1 n2 : Nat} {β β1 β2 : cn} {g g1 g2 : View} {w w1 w2 : World} (h : cI dr f n n1 β g w β1 g1 w1) (h' : cI dr f n1 n2 β1 g1 w1 β2 g2 w2) :
    cI dr f n n2 β g w β2 g2 w2 := by
 have back : ∀ id b L, f ≤ id → g1 id = some b → β1 id = some L → w.heap.size ≤ L.cm ∨ ∃ i d M, f ≤ i ∧ g i = some d ∧ β i = some M ∧ M.cm = L.cm := by
  intro id b L bV h1 h2
  cases hb : β id with
  | some M =>
   have : M = L := by have := h.sub id M hb; rw [this] at h2; cases h2; rfl
   subst this
   rcases h.jG id b h1 with ⟨d, hd⟩ | hn
   ·exact Or.inr ⟨id, d, M, bV, hd, hb, rfl⟩
   ·rw [hn] at hb; cases hb
  | none => exact h.news id L h2 hb
 refine ⟨Nat.le_trans h.le h'.le, h.sub.trans h'.sub, ?_, h'.hr, h'.os.trans h.os, ⟨h'.tape.1.trans h.tape.1, fun q => Nat.le_trans (h.tape.2 q) (h'.tape.2 q)⟩, h'.output.trans h.output, Nat.le_trans h.size h'.size, ?_, ?_, ?_⟩
 ·intro id L h1 h2
  cases hb : β1 id with
  | some M => have := h.fresh id M hb h2; have := h'.le; omega
  | none => have := h'.fresh id L h1 hb; have := h.le; omega
 ·intro B hB hf
  refine (h'.frame B (Nat.lt_of_lt_of_le hB h.size) fun id b L bV h1 h2 e => ?_).trans (h.frame B hB hf)
  rcases back id b L bV h1 h2 with hk | ⟨i, d, M, hi, hd, hM, e2⟩
  ·omega
  ·exact hf i d M hi hd hM (e2.trans e)
 ·intro id L h1 h2
  cases hb : β1 id with
  | some M =>
   have : M = L := by have := h'.sub id M hb; rw [this] at h1; cases h1; rfl
   subst this
   exact h.news id M hb h2
  | none =>
   rcases h'.news id L h1 hb with hk | ⟨i, b, M, hi, hg, hM, e⟩
   ·exact Or.inl (Nat.le_trans h.size hk)
   ·rcases back i b M hi hg hM with hk | ⟨j, d, M', hj, hd, hM', e2⟩
    ·exact Or.inl om
    ·exact Or.inr ⟨j, d, M', hj, hd, hM', e2.trans e⟩
 ·intro id b h1
  rcases h'.jG id b h1 with ⟨d, hd⟩ | hn
  ·exact h.jG id d hd
  ·cases hb : β id with
   | none => exact Or.inr rfl
   | some M => have := h.sub id M hb; rw [this] at hn; cases hn
end
end Go.Proofs.YtgaihilgffficaaGreatDoor.Ev
