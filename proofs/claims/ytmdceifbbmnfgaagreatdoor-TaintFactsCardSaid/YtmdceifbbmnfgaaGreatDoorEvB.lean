/- The evaluator: compilation of the code; plain facts. -/
import Derived.Test.YtmdceifbbmnfgaaGreatDoorEvA
set_option linter.unusedVariables false
set_option linter.unusedSimpArgs false
namespace Go.Proofs.YtmdceifbbmnfgaaGreatDoor.Ev
open Go
def cCell : Value → Option AV
 | .bool b => some (.bool b)
 | .int k n => some (.int k n)
 | .string s => some (.str (s.data.toList.map UInt8.toNat))
 | .pointer none => some .nilp
 | .slice none 0 0 => some .nils
 | .map none => some .nilm
 | .nilFunc => some .nilf
 | .nilIface => some .nili
 | .func (.func f) first caps => if first.isEmpty && caps.isEmpty then some (.fn f []) else none
 | _ => none
def cAV : Value → Option AV
 | .agg cs => (cs.toList.mapM cCell).map .agg
 | .tuple cs => (cs.toList.mapM cCell).map .tup
 | v => cCell v
def cV : Operand → Option XV
 | .tmp t => some (.tmp t)
 | .const v => (cAV v).map .const
 | .global g => some (.glob g)
 | .func f => some (.const (.fn f []))
section
variable (P : Program)
def isA (t : TypeId) : Option (Option Nat) :=
 match P.underlying t, P.info? t with
 | some (.struct _), some i | some (.array _ _), some i => some (some i.size)
 | some _, some _ => some none
 | _, _ => none
def zeroA (t : TypeId) : Option AV := do cAV (← (← P.info? t).zero)
def szA (t : TypeId) : Option Nat := (P.info? t).map (·.size)
def cOpt (x : Option Operand) : Option (Option XV) := match x with | none => some none | some x => (cV x).map some
def cParts (place : Nat → Option (Nat × Nat)) : List (Nat × Operand) → Option (List (Nat × Nat × XV))
 | [] => some []
 | q :: qs => do
  let p ← place q.1
  let x ← cV q.2
  pure ((p.1, p.2, x) :: (← cParts place qs))
def appOk (e : TypeId) : Option Nat := match P.info? e with
 | some i => match i.zero with
  | some z => if z.cells.size = i.size ∧ i.bytes ≤ 1000000 then some i.size else none
  | none => none
 | none => none
def methodOf (name : String) (t : TypeId) : Option Nat := match P.info? t with
 | some i => match i.methods.find? (·.name == name) with
  | some m => if m.path.isEmpty then match m.func, P.underlying t with
    | some (f, true), some (.pointer _) => some f
    | some (_, true), _ => none
    | some (_, false), some (.pointer _) => none
    | some (f, false), some _ => some f
    | _, _ => none
   else none
  | none => none
 | none => none
def cCall (c : Call) : Option XO :=
 match c.callee with
 | .builtin .len => match c.args.toList, c.argTypes.toList with
  | [x], [t] => match P.underlying t with
   | some .string => (cV x).map oLenS
   | some (.slice _) => (cV x).map oLenL
   | some (.map _ _) => (cV x).map oLenM
   | _ => none
  | _, _ => none
 | .builtin .append => match c.args.toList, c.argTypes.toList with
  | [s, x], [t, t2] => match P.underlying t, P.underlying t2 with
   | some (.slice e), some (.slice _) => do pure (oAppend (← appOk P e) (← cV s) (← cV x))
   | some (.slice e), some (.int _) => do pure (oAppendZ (← appOk P e) (← zeroA P e).cells (← cV s) (← cV x))
   | _, _ => none
  | _, _ => none
 | .builtin .cap => match c.args.toList, c.argTypes.toList with
  | [x], [t] => match P.underlying t with
   | some (.slice _) => (cV x).map oCap
   | _ => none
  | _, _ => none
 | .builtin .max => match c.args.toList with
  | [x, y] => do pure (ints fMax (← cV x) (← cV y))
  | _ => none
 | .builtin .min => match c.args.toList with
  | [x, y] => do pure (ints fMin (← cV x) (← cV y))
  | _ => none
 | .builtin .copy => match c.args.toList, c.argTypes.toList with
  | [d, x], [t, t2] => match P.underlying t, P.underlying t2 with
   | some (.slice e), some (.slice _) => do pure (oCopy (← szA P e) (← cV d) (← cV x))
   | _, _ => none
  | _, _ => none
 | .builtin .clear => match c.args.toList, c.argTypes.toList with
  | [x], [t] => match P.underlying t with
   | some (.slice e) => do pure (oClear (← appOk P e) (← zeroA P e).cells (← cV x))
   | _ => none
  | _, _ => none
 | .value f => do pure (oCall (← cV f) (← c.args.toList.mapM cV))
 | .invoke x name => do pure (oInvoke (methodOf P name) (← cV x) (← c.args.toList.mapM cV))
 | _ => none
def eqB (t : TypeId) : Option EqF := match P.underlying t with
 | some (.int _) => some eqInt
 | some .string => some eqStr
 | some .bool => some eqBl
 | _ => none
def flatFs (i : Nat) : List Field → Option (List EqF)
 | [] => some []
 | f :: fs => if f.offset = i ∧ f.name ≠ "_" then do pure ((← eqB P f.type) :: (← flatFs (i + 1) fs)) else none
def eqT (t : TypeId) : Option EqF := match P.underlying t with
 | some (.struct fs) => if P.stoodInHeld t = false ∧ P.eqGuardType P.depth t = false then (flatFs P 0 fs.toList).map eqSt else none
 | _ => eqB P t
def eqA2 (t : TypeId) : Option EqF := match P.underlying t with
 | some (.array 2 e) => match szA P e with
  | some 1 => (eqB P e).map fun g => eqSt [g, g]
  | _ => none
 | _ => none
def eqK (t : TypeId) : Option EqF := match eqT P t with
 | some e => some e
 | none => eqA2 P t
def eqlO (neg : Bool) (t : TypeId) (x y : Operand) : Option XO :=
 match P.underlying t, y with
 | some (.pointer _), .const (.pointer none) => (cV x).map (oNilP neg)
 | some (.slice _), .const (.slice none 0 0) => (cV x).map (oNilS neg)
 | some (.map _ _), .const (.map none) => (cV x).map (oNilM neg)
 | some (.func _ _ _), .const .nilFunc => (cV x).map (oNilF neg)
 | some (.interface _), .const .nilIface => (cV x).map (oNilI neg)
 | _, _ => do pure (oEql (← eqT P t) neg (← cV x) (← cV y))
def cBin (op : BinOp) (t : TypeId) (x y : Operand) : Option XO :=
 match op, P.underlying t with
 | .eql, _ => eqlO P false t x y
 | .neq, _ => eqlO P true t x y
 | .add, some (.int _) => do pure (ints fAdd (← cV x) (← cV y))
 | .sub, some (.int _) => do pure (ints fSub (← cV x) (← cV y))
 | .mul, some (.int _) => do pure (ints fMul (← cV x) (← cV y))
 | .quo, some (.int _) => do pure (ints fQuo (← cV x) (← cV y))
 | .rem, some (.int _) => do pure (ints fRem (← cV x) (← cV y))
 | .lss, some (.int _) => do pure (ints fLss (← cV x) (← cV y))
 | .leq, some (.int _) => do pure (ints fLeq (← cV x) (← cV y))
 | .gtr, some (.int _) => do pure (ints fGtr (← cV x) (← cV y))
 | .geq, some (.int _) => do pure (ints fGeq (← cV x) (← cV y))
 | .add, some .string => do pure (oCat (← cV x) (← cV y))
 | .lss, some .string => do pure (oScmp sLss (← cV x) (← cV y))
 | .leq, some .string => do pure (oScmp sLeq (← cV x) (← cV y))
 | .gtr, some .string => do pure (oScmp sGtr (← cV x) (← cV y))
 | .geq, some .string => do pure (oScmp sGeq (← cV x) (← cV y))
 | .and, some (.int _) => do pure (ints (onNat Nat.land) (← cV x) (← cV y))
 | .or, some (.int _) => do pure (ints (onNat Nat.lor) (← cV x) (← cV y))
 | .xor, some (.int _) => do pure (ints (onNat Nat.xor) (← cV x) (← cV y))
 | .andNot, some (.int _) => do pure (ints fAndNot (← cV x) (← cV y))
 | .shl, some (.int _) => do pure (oShl (← cV x) (← cV y))
 | .shr, some (.int _) => do pure (oShr (← cV x) (← cV y))
 | _, _ => none
def cO (o : Oper) : Option XO :=
 match o.op with
 | .move x | .assign x => (cV x).map oMv
 | .pick c a b => do pure (oPick (← cV c) (← cV a) (← cV b))
 | .alloc e => do pure (oBox (.const (← zeroA P e)))
 | .box _ x => (cV x).map oBox
 | .build t ps => match P.underlying t with
  | some (.struct fs) => do
   let z ← zeroA P t
   let places ← fs.toList.mapM fun f => (P.info? f.type).map fun i => (f.offset, i.size)
   let ps ← cParts (fun i => places.toArray[i]?) ps.toList
   pure (oBuild z.cells ps)
  | some (.array _ e) => do
   let z ← zeroA P t
   let s ← szA P e
   let ps ← cParts (fun i => some (i * s, s)) ps.toList
   pure (oBuild z.cells ps)
  | _ => none
 | .buildSlice t n ps => match P.underlying t with
  | some (.slice e) => do
   let s ← appOk P e
   let z ← zeroA P e
   let ps ← cParts (fun i => some (i * s, s)) ps.toList
   if 0 < s ∧ n * s ≤ 1000000 then pure (oBslice n z.cells ps) else none
  | _ => none
 | .load t a => match isA P t with
  | some none => (cV a).map oLoad1
  | some (some n) => (cV a).map (oLoadN n)
  | none => none
 | .store t a x => do pure (oStore (← szA P t) (← cV a) (← cV x))
 | .nilCheck x => (cV x).map oNilc
 | .binOp op t x y _ => cBin P op t x y
 | .unOp .not _ x => (cV x).map oNot
 | .unOp .neg _ x => (cV x).map oNeg
 | .convert s d x => match P.underlying s, P.underlying d with
  | some (.int _), some (.int k) => (cV x).map (oToInt k)
  | some .string, some .string => (cV x).map oSame
  | _, _ => none
 | .makeFunc (.func f) first caps => if first.isEmpty then do pure (oMkfn f (← caps.toList.mapM cV)) else do pure (oMkfnB f (← first.toList.mapM cV) (← caps.toList.mapM cV))
 | .makeInterface t x => match P.underlying t with
  | some (.interface _) => none
  | some _ => (cV x).map (oMkif t)
  | none => none
 | .makeMap _ none => some oMkmap
 | .makeMap t (some x) => match P.underlying t with
  | some (.map _ _) => (cV x).map oMkmapH
  | _ => none
 | .range t x => match P.underlying t with
  | some (.map _ _) => (cV x).map oRange
  | _ => none
 | .next x false => (cV x).map oNext
 | .entry x => (cV x).map oEntry
 | .makeSlice t l c => match P.underlying t with
  | some (.slice e) => do
   let s ← appOk P e
   let z ← zeroA P e
   if 0 < s then pure (oMkslice z.cells (← cV l) (← cV c)) else none
  | _ => none
 | .slice t x lo hi none => match P.underlying t with
  | some .string => do pure (oSliceS (← cV x) (← cOpt lo) (← cOpt hi))
  | some (.slice e) => do pure (oSlice (← szA P e) (← cV x) (← cOpt lo) (← cOpt hi))
  | some (.array n e) => do pure (oSliceA n (← szA P e) (← cV x) (← cOpt lo) (← cOpt hi))
  | _ => none
 | .slice t x lo (some hi) (some mx) => match P.underlying t with
  | some (.slice e) => do pure (oSlice3 (← szA P e) (← cV x) (← cOpt lo) (← cOpt (some hi)) (← cOpt (some mx)))
  | _ => none
 | .fieldAddr s x f => match P.underlying s with
  | some (.struct fs) => match fs[f]? with
   | some f => match szA P f.type with
    | some (_ + 1) => (cV x).map (oFaddr f.offset)
    | _ => none
   | none => none
  | _ => none
 | .field s x f => match P.underlying s with
  | some (.struct fs) => do
   let f ← fs[f]?
   match isA P f.type with
   | some none => (cV x).map (oFld1 f.offset)
   | some (some n) => (cV x).map (oFldN n f.offset)
   | none => none
  | _ => none
 | .indexAddr t x i => match P.underlying t with
  | some (.slice e) => do pure (oIaddr (← szA P e) (← cV x) (← cV i))
  | some (.array n e) => do pure (oIaddrA n (← szA P e) (← cV x) (← cV i))
  | _ => none
 | .index t x i => match P.underlying t with
  | some .string => do pure (oIdxS (← cV x) (← cV i))
  | some (.array n e) => match isA P e, szA P e with
   | some none, some 1 => do pure (oIdx1 n (← cV x) (← cV i))
   | _, _ => none
  | _ => none
 | .lookup t x i ok => match P.underlying t with
  | some (.map q e) => do pure (oLookup (← eqK P q) (← zeroA P e) (← cV x) (← cV i) ok)
  | _ => none
 | .mapUpdate t m k v | .insert t m k v => match P.underlying t with
  | some (.map q _) => do pure (oMapup (← eqK P q) (← cV m) (← cV k) (← cV v))
  | _ => none
 | .mapEntry t m k => match P.underlying t with
  | some (.map q e) => do pure (oMapEntry (← eqK P q) (← zeroA P e) (← cV m) (← cV k))
  | _ => none
 | .entryStore _ m s v => do pure (oEntryStore (← cV m) (← cV s) (← cV v))
 | .extract x i => do pure (oExtr (← cV x) i)
 | .call c => cCall P c
 | _ => none
def memO (o : Oper) : Bool :=
 match o.op with
 | .store .. | .mapUpdate .. | .insert .. | .mapEntry .. | .entryStore .. => true
 | .call c => match c.callee with
  | .builtin .len | .builtin .max | .builtin .min => false
  | _ => true
 | .range .. | .next .. | .entry .. => true
 | _ => false
def footO (o : Oper) : Option Operand :=
 match o.op with
 | .load _ a => some a
 | .lookup _ x _ _ => some x
 | .convert s _ x => match P.underlying s with
  | some (.slice _) => some x
  | _ => none
 | .call c => match c.callee with
  | .builtin .len => match c.argTypes.toList, c.args.toList with
   | [t], [x] => match P.underlying t with
    | some (.map _ _) => some x
    | _ => none
   | _, _ => none
  | _ => none
 | _ => none
def cGuard (ops : Array Oper) (g : Option (Nat × Bool)) : Option (Option (Nat × Bool)) :=
 match g with
 | none => some none
 | some (j, w) => match (ops[j]?).bind (·.dst) with
  | some d => some (some (d, w))
  | none => none
def gOk : Operand → Bool
 | .global g => Nat.blt g P.globals.size
 | _ => true
def cR (ops : Array Oper) (preds : Nat) (o : Oper) : XR :=
 match cO P o, cGuard ops o.guard, o.op.operands.toList.all (gOk P) with
 | some x, some g, true => { dst := o.dst, op := x, guard := g, preds := preds, mem := memO o, bar := false, foot := none }
 | _, _, _ => { dst := o.dst, op := oBad, guard := none, preds := preds, mem := true, bar := false, foot := none }
def cRs (ops : Array Oper) : List XR := ops.toList.map (cR P ops 0)
def barOf (ops : Array Oper) (b : Array Nat) (j : Nat) : Bool :=
 (List.range ops.size).all fun i => !memO (ops.getD i default) || i == j || (if i < j then (b.getD j 0).testBit i else (b.getD i 0).testBit j)
def cD (ops : Array Oper) (b : Array Nat) (j : Nat) : XR :=
 let x := cR P ops (b.getD j 0) (ops.getD j default)
 { x with mem := memO (ops.getD j default), bar := memO (ops.getD j default) && barOf ops b j, foot := (footO P (ops.getD j default)).bind cV }
def cDs (ops : Array Oper) : List XR := (List.range ops.size).map (cD P ops (Region.before ops))
def okD (ops : Array Oper) (b : Array Nat) : Bool :=
 (List.range ops.size).all fun j =>
  (b.getD j 0 < 2 ^ j) && ((ops.getD j default).after.all fun e => !Region.binds .any e || e.on < j) &&
  match (ops.getD j default).dst with
  | none => true
  | some d => (List.range ops.size).all fun i => i == j || (if i < j then (b.getD j 0).testBit i else (b.getD i 0).testBit j) || !(((ops.getD i default).looksAt ops).contains d || (ops.getD i default).dst == some d)
def rngOf : Code → Option (Nat × Nat × Nat × Nat)
 | .seq (.region _ ops false) (.seq (.cond (.tmp u) .skip (.exit id)) _) => match ops.toList with
  | [o, o'] => match o.op, o.dst, o.guard, o'.op, o'.dst, o'.guard with
   | .next (.tmp x) false, some t, none, .extract (.tmp t') 0, some u', none => bif Nat.beq t t' && Nat.beq u u' then some (x, t, u, id) else none
   | _, _, _, _, _, _ => none
  | _ => none
 | _ => none
def cC : Code → XC
 | .skip => .skip
 | .region _ ops false => .reg (cRs P ops)
 | .region _ ops true => bif okD ops (Region.before ops) then .dreg (cDs P ops) else .bad
 | .seq a b => .seq (cC a) (cC b)
 | .cond c a b => match cV c, gOk P c with
  | some c, true => .cond c (cC a) (cC b)
  | _, _ => .bad
 | .block id b => .block id (cC b)
 | .loop b => match rngOf b with
  | some q => .rng q.1 q.2.1 q.2.2.1 q.2.2.2 (cC b)
  | none => .loop (cC b)
 | .rangeFunc f ps assign body => match cV f, gOk P f with
  | some f, true => .rf f ps.toList assign body
  | _, _ => .bad
 | .exit id => .exit id
 | .ret => .ret
 | .label _ => .skip
 | _ => .bad
def cRes : ResultVar → Option (Nat × Option (Option Nat))
 | .tmp t => some (t, none)
 | .cell a t => do pure (a, some (← isA P t))
def cF (f : Func) : Option XF := do
 let b ← f.body
 let rs ← f.results.toList.mapM (cRes P)
 if f.ntmps ≤ 1000000 then pure { nt := f.ntmps, res := rs, body := cC P b } else none
def tblOf (f : Nat) : Option XF := (P.funcs[f]?).bind (cF P)
abbrev Exts := List (Nat × (List AV → Option AV))
def extOf : Exts → Nat → Option (List AV → Option AV)
 | [], _ => none
 | e :: es, f => bif Nat.beq e.1 f then some e.2 else extOf es f
def tblX (X : Exts) (f : Nat) : Option XT := match extOf X f with
 | some g => some (.ext g)
 | none => (tblOf P f).map .fn
end
theorem forceNat_eq {β : Type} (n : Nat) (k : Nat → β) : forceNat n k = k n := by cases n <;> rfl
theorem forceInt_eq {β : Type} (n : Int) (k : Int → β) : forceInt n k = k n := by cases n <;> simp [forceInt, forceNat_eq]
theorem forceBool_eq {β : Type} (b : Bool) (k : Bool → β) : forceBool b k = k b := by cases b <;> rfl
theorem takeK_some {α R : Type} {r : R} : ∀ {n : Nat} {l : List α} {k : List α → Option R}, takeK n l k = some r → n ≤ l.length ∧ k (l.take n) = some r
 | 0, l, k, h => ⟨Nat.zero_le _, by simpa [takeK] using h⟩
 | n + 1, [], k, h => by cases h
 | n + 1, x :: xs, k, h => by
  have := takeK_some (n := n) (l := xs) (k := fun ys => k (x :: ys)) h
  exact ⟨by simpa using this.1, by simpa using this.2⟩
theorem dropK_some {α R : Type} {r : R} : ∀ {n : Nat} {l : List α} {k : List α → Option R}, dropK n l k = some r → n ≤ l.length ∧ k (l.drop n) = some r
 | 0, l, k, h => ⟨Nat.zero_le _, by simpa [dropK] using h⟩
 | n + 1, [], k, h => by cases h
 | n + 1, x :: xs, k, h => by
  have := dropK_some (n := n) (l := xs) (k := k) h
  exact ⟨by simpa using this.1, by simpa using this.2⟩
theorem overK_some {R : Type} {r : R} : ∀ {news l : List AV} {k : List AV → Option R}, overK news l k = some r → news.length ≤ l.length ∧ k (news ++ l.drop news.length) = some r
 | [], l, k, h => ⟨Nat.zero_le _, by simpa [overK] using h⟩
 | y :: news, [], k, h => by cases h
 | y :: news, x :: xs, k, h => by
  have := overK_some (news := news) (l := xs) (k := fun zs => k (y :: zs)) h
  exact ⟨by simpa using this.1, by simpa using this.2⟩
theorem spliceK_some {R : Type} {r : R} : ∀ {off : Nat} {news l : List AV} {k : List AV → Option R}, spliceK off news l k = some r →
  off + news.length ≤ l.length ∧ k (l.take off ++ (news ++ l.drop (off + news.length))) = some r
 | 0, news, l, k, h => by
  have := overK_some (news := news) (l := l) (k := k) h
  exact ⟨by simpa using this.1, by simpa using this.2⟩
 | n + 1, news, [], k, h => by cases h
 | n + 1, news, x :: xs, k, h => by
  have := spliceK_some (off := n) (news := news) (l := xs) (k := fun ys => k (x :: ys)) h
  refine ⟨by have := this.1; simp; omega, ?_⟩
  rw [show n + 1 + news.length = n + news.length + 1 by omega]
  simpa using this.2
theorem appK_eq {α R : Type} : ∀ (xs ys : List α) (k : List α → Option R), appK xs ys k = k (xs ++ ys)
 | [], ys, k => rfl
 | x :: xs, ys, k => appK_eq xs ys fun zs => k (x :: zs)
theorem nth_eq {α : Type} : ∀ (n : Nat) (l : List α), nth n l = l[n]?
 | 0, [] => rfl
 | 0, x :: l => rfl
 | n + 1, [] => rfl
 | n + 1, x :: l => by have := nth_eq n l; simpa [nth] using this
theorem lenN_eq {α : Type} : ∀ (l : List α), lenN l = l.length
 | [] => rfl
 | x :: l => congrArg Nat.succ (lenN_eq l)
theorem eqL_eq : ∀ (x y : List Nat), eqL x y = decide (x = y)
 | [], [] => rfl
 | [], b :: y => rfl
 | a :: x, [] => rfl
 | a :: x, b :: y => by
  have ih := eqL_eq x y
  show (bif Nat.beq a b then eqL x y else false) = _
  rw [ih]
  by_cases h : a = b
  ·subst h; simp
  ·have : Nat.beq a b = false := by rw [Bool.eq_false_iff]; intro e; exact h (Nat.eq_of_beq_eq_true e)
   simp [this, h]
theorem repK_eq {R : Type} : ∀ (n : Nat) (z : List AV) (k : List AV → Option R), repK n z k = k (List.replicate n z).flatten
 | 0, z, k => rfl
 | n + 1, z, k => by
  show repK n z (fun l => appK z l k) = _
  rw [repK_eq n z, appK_eq]
  simp [List.replicate_succ]
theorem beq_dec (a b : Nat) : Nat.beq a b = decide (a = b) := by
 by_cases h : a = b
 ·subst h; simp
 ·rw [decide_eq_false h, Bool.eq_false_iff]; intro e; exact h (Nat.eq_of_beq_eq_true e)
theorem eqI_eq (a b : Int) : eqI a b = decide (a = b) := by
 cases a <;> cases b <;> simp only [eqI, beq_dec] <;> rw [Bool.eq_iff_iff] <;> simp <;> omega
theorem ltI_eq (a b : Int) : ltI a b = decide (a < b) := by
 cases a <;> cases b <;> simp only [ltI] <;> rw [Bool.eq_iff_iff] <;> simp [Nat.blt_eq] <;> omega
theorem inR_wrap {k : IntKind} {n : Int} (h : inR k n = true) : k.wrap n = n := by
 have e63 : (2 : Int) ^ 63 = 9223372036854775808 := by decide
 have e64 : (2 : Int) ^ 64 = 18446744073709551616 := by decide
 have e31 : (2 : Int) ^ 31 = 2147483648 := by decide
 have e32 : (2 : Int) ^ 32 = 4294967296 := by decide
 have e8 : (2 : Int) ^ 8 = 256 := by decide
 have e16 : (2 : Int) ^ 16 = 65536 := by decide
 cases k <;> cases n <;> simp only [inR, Bool.false_eq_true] at h <;> (have h := Nat.le_of_ble_eq_true h; simp only [IntKind.wrap, IntKind.bits, IntKind.signed, Nat.reduceSub, e63, e64, e31, e32, e8, e16, Bool.true_and, Bool.false_and, Bool.false_eq_true, if_false, decide_eq_true_eq, ge_iff_le, Int.ofNat_eq_natCast]; (try split) <;> omega)
/-! tries -/
theorem d4_spec (i : Nat) : d4 i = match i % 4 with | 0 => .x0 | 1 => .x1 | 2 => .x2 | _ => .x3 := by
 unfold d4
 have h : Nat.mod i 4 = i % 4 := rfl
 have : i % 4 < 4 := Nat.mod_lt _ (by omega)
 rw [h]
 generalize i % 4 = m at this ⊢
 match m, this with
 | 0, _ => rfl
 | 1, _ => rfl
 | 2, _ => rfl
 | 3, _ => rfl
theorem d4_iff {i j : Nat} : d4 i = d4 j ↔ i % 4 = j % 4 := by
 have h1 : i % 4 < 4 := Nat.mod_lt _ (by omega)
 have h2 : j % 4 < 4 := Nat.mod_lt _ (by omega)
 rw [d4_spec, d4_spec]
 generalize i % 4 = m at h1 ⊢
 generalize j % 4 = n at h2 ⊢
 match m, h1 with
 | 0, _ | 1, _ | 2, _ | 3, _ => (match n, h2 with | 0, _ | 1, _ | 2, _ | 3, _ => simp)
theorem selO_put {β : Type} (z a b c d v : β) (x y : D4) : selO z (putO a b c d x v id) y = if x = y then v else sel4 a b c d y := by
 cases x <;> cases y <;> rfl
theorem putO_eq {β γ : Type} (a b c d : β) (x : D4) (v : β) (K : O4 β → γ) : putO a b c d x v K = K (putO a b c d x v id) := by cases x <;> rfl
theorem sel4_same {β : Type} (z : β) (x : D4) : sel4 z z z z x = z := by cases x <;> rfl
structure TrOk {α T : Type} (z : T) (q : Nat) (gt : T → Nat → Option α) (st : ∀ {γ : Type}, T → Nat → α → (T → γ) → γ) : Prop where
 eq : ∀ {γ : Type} (t : T) (i : Nat) (a : α) (K : T → γ), st t i a K = K (st t i a id)
 get : ∀ (t : T) (i j : Nat) (a : α), gt (st t i a id) j = if i % q = j % q then some a else gt t j
 nil : ∀ j, gt z j = none
theorem TrOk.one {α : Type} : TrOk (α := α) (.nil : T1 α) 4 gt1 st1 := by
 refine ⟨fun t i a K => ?_, fun t i j a => ?_, fun j => rfl⟩
 ·cases t <;> exact putO_eq _ _ _ _ _ _ _
 ·cases t with
  | nil =>
   show selO none (putO none none none none (d4 i) (some a) id) (d4 j) = _
   rw [selO_put, sel4_same]
   by_cases h : i % 4 = j % 4
   ·rw [if_pos (d4_iff.2 h), if_pos h]
   ·rw [if_neg (fun q => h (d4_iff.1 q)), if_neg h]; rfl
  | node b c d e =>
   show selO none (putO b c d e (d4 i) (some a) id) (d4 j) = _
   rw [selO_put]
   by_cases h : i % 4 = j % 4
   ·rw [if_pos (d4_iff.2 h), if_pos h]
   ·rw [if_neg (fun q => h (d4_iff.1 q)), if_neg h]; rfl
theorem TrOk.succ {α T : Type} {z : T} {q : Nat} {gt : T → Nat → Option α} {st : ∀ {γ : Type}, T → Nat → α → (T → γ) → γ} (h : TrOk z q gt (fun {γ} => @st γ))
  {gt' : O4 T → Nat → Option α} {sn : ∀ {γ : Type}, T → T → T → T → D4 → Nat → α → (O4 T → γ) → γ} {st' : ∀ {γ : Type}, O4 T → Nat → α → (O4 T → γ) → γ}
  (hg : ∀ t i, gt' t i = gt (selO z t (d4 (Nat.div i q))) i) (hn : ∀ {γ : Type} (a b c d : T) (x : D4) (i : Nat) (v : α) (K : O4 T → γ), sn a b c d x i v K = st (sel4 a b c d x) i v fun y => putO a b c d x y K)
  (hs : ∀ {γ : Type} (i : Nat) (v : α) (K : O4 T → γ), st' .nil i v K = sn z z z z (d4 (Nat.div i q)) i v K) (hs' : ∀ {γ : Type} (a b c d : T) (i : Nat) (v : α) (K : O4 T → γ), st' (.node a b c d) i v K = sn a b c d (d4 (Nat.div i q)) i v K) :
  TrOk (α := α) (.nil : O4 T) (q * 4) gt' (fun {γ} => @st' γ) := by
 have heq : ∀ {γ : Type} (a b c d : T) (x : D4) (i : Nat) (v : α) (K : O4 T → γ), sn a b c d x i v K = K (putO a b c d x (st (sel4 a b c d x) i v id) id) := fun a b c d x i v K => by rw [hn, h.eq, putO_eq]
 have nil' : ∀ j, gt' .nil j = none := fun j => by rw [hg]; exact h.nil j
 have main : ∀ (a b c d : T) (i j : Nat) (v : α), gt' (sn a b c d (d4 (Nat.div i q)) i v id) j = if i % (q * 4) = j % (q * 4) then some v else gt (sel4 a b c d (d4 (Nat.div j q))) j := fun a b c d i j v => by
  rw [heq, hg, id, selO_put]
  have e1 : Nat.div i q = i / q := rfl
  have e2 : Nat.div j q = j / q := rfl
  rw [e1, e2]
  by_cases x : d4 (i / q) = d4 (j / q)
  ·rw [if_pos x, h.get, x]
   have y := d4_iff.1 x
   by_cases w : i % q = j % q
   ·rw [if_pos w, if_pos (by rw [Nat.mod_mul, Nat.mod_mul, w, y])]
   ·rw [if_neg w, if_neg]
    intro e
    apply w
    have := congrArg (· % q) e
    simpa [Nat.mod_mul_right_mod] using this
  ·rw [if_neg x, if_neg]
   intro e
   apply x
   rw [d4_iff]
   have := congrArg (· / q) e
   simpa [Nat.mod_mul_right_div_self] using this
 refine ⟨fun t i a K => ?_, fun t i j a => ?_, nil'⟩
 ·cases t with
  | nil => rw [hs, hs, heq, heq]; rfl
  | node b c d e => rw [hs', hs', heq, heq]; rfl
 ·cases t with
  | nil => rw [hs, main, nil', sel4_same, h.nil]
  | node b c d e => rw [hs', main, hg]; rfl
theorem ok2 (α : Type) : TrOk (α := α) (.nil : T2 α) 16 gt2 st2 := (TrOk.one (α := α)).succ (gt' := gt2) (sn := sn2) (st' := st2) (fun _ _ => rfl) (fun _ _ _ _ _ _ _ _ => rfl) (fun _ _ _ => rfl) (fun _ _ _ _ _ _ _ => rfl)
theorem ok3 (α : Type) : TrOk (α := α) (.nil : T3 α) 64 gt3 st3 := (ok2 α).succ (gt' := gt3) (sn := sn3) (st' := st3) (fun _ _ => rfl) (fun _ _ _ _ _ _ _ _ => rfl) (fun _ _ _ => rfl) (fun _ _ _ _ _ _ _ => rfl)
theorem ok4 (α : Type) : TrOk (α := α) (.nil : T4 α) 256 gt4 st4 := (ok3 α).succ (gt' := gt4) (sn := sn4) (st' := st4) (fun _ _ => rfl) (fun _ _ _ _ _ _ _ _ => rfl) (fun _ _ _ => rfl) (fun _ _ _ _ _ _ _ => rfl)
theorem ok5 (α : Type) : TrOk (α := α) (.nil : T5 α) 1024 gt5 st5 := (ok4 α).succ (gt' := gt5) (sn := sn5) (st' := st5) (fun _ _ => rfl) (fun _ _ _ _ _ _ _ _ => rfl) (fun _ _ _ => rfl) (fun _ _ _ _ _ _ _ => rfl)
theorem ok6 (α : Type) : TrOk (α := α) (.nil : T6 α) 4096 gt6 st6 := (ok5 α).succ (gt' := gt6) (sn := sn6) (st' := st6) (fun _ _ => rfl) (fun _ _ _ _ _ _ _ _ => rfl) (fun _ _ _ => rfl) (fun _ _ _ _ _ _ _ => rfl)
theorem ok7 (α : Type) : TrOk (α := α) (.nil : T7 α) 16384 gt7 st7 := (ok6 α).succ (gt' := gt7) (sn := sn7) (st' := st7) (fun _ _ => rfl) (fun _ _ _ _ _ _ _ _ => rfl) (fun _ _ _ => rfl) (fun _ _ _ _ _ _ _ => rfl)
theorem ok8 (α : Type) : TrOk (α := α) (.nil : T8 α) 65536 gt8 st8 := (ok7 α).succ (gt' := gt8) (sn := sn8) (st' := st8) (fun _ _ => rfl) (fun _ _ _ _ _ _ _ _ => rfl) (fun _ _ _ => rfl) (fun _ _ _ _ _ _ _ => rfl)
theorem ok9 (α : Type) : TrOk (α := α) (.nil : T9 α) 262144 gt9 st9 := (ok8 α).succ (gt' := gt9) (sn := sn9) (st' := st9) (fun _ _ => rfl) (fun _ _ _ _ _ _ _ _ => rfl) (fun _ _ _ => rfl) (fun _ _ _ _ _ _ _ => rfl)
theorem ok10 (α : Type) : TrOk (α := α) (.nil : T10 α) 1048576 gt10 st10 := (ok9 α).succ (gt' := gt10) (sn := sn10) (st' := st10) (fun _ _ => rfl) (fun _ _ _ _ _ _ _ _ => rfl) (fun _ _ _ => rfl) (fun _ _ _ _ _ _ _ => rfl)
theorem ok11 (α : Type) : TrOk (α := α) (.nil : T11 α) 4194304 gt11 st11 := (ok10 α).succ (gt' := gt11) (sn := sn11) (st' := st11) (fun _ _ => rfl) (fun _ _ _ _ _ _ _ _ => rfl) (fun _ _ _ => rfl) (fun _ _ _ _ _ _ _ => rfl)
theorem ok12 (α : Type) : TrOk (α := α) (.nil : T12 α) 16777216 gt12 st12 := (ok11 α).succ (gt' := gt12) (sn := sn12) (st' := st12) (fun _ _ => rfl) (fun _ _ _ _ _ _ _ _ => rfl) (fun _ _ _ => rfl) (fun _ _ _ _ _ _ _ => rfl)
theorem blt_case {R : Type} (i n : Nat) (x y : R) : Bool.casesOn (motive := fun _ => R) (Nat.blt i n) y x = if i < n then x else y := by
 by_cases h : i < n
 ·have : Nat.blt i n = true := by simpa [Nat.blt_eq] using h
  rw [if_pos h, this]
 ·have : Nat.blt i n = false := by
   cases e : Nat.blt i n with
   | false => rfl
   | true => exact absurd (by simpa [Nat.blt_eq] using e) h
  rw [if_neg h, this]
theorem Tr.get_eq {α : Type} (t : Tr α) (i : Nat) : Tr.get t i = if i < 64 then gt3 t.a i else if i < 1024 then gt5 t.b i else if i < 16384 then gt7 t.c i else if i < 16777216 then gt12 t.d i else none := by
 unfold Tr.get Tr.getT Tr.getU
 rw [blt_case, blt_case, blt_case, blt_case]
theorem Tr.setK_def {α γ : Type} (n : Nat) (t : Tr α) (i : Nat) (v : α) (K : Tr α → γ) : Tr.setK n t i v K = if i < 64 then K ⟨st3 t.a i v id, t.b, t.c, t.d⟩ else if i < 1024 then K ⟨t.a, st5 t.b i v id, t.c, t.d⟩ else if i < 16384 then K ⟨t.a, t.b, st7 t.c i v id, t.d⟩ else K ⟨t.a, t.b, t.c, st12 t.d i v id⟩ := by
 obtain ⟨a, b, c, d⟩ := t
 show Tr.setR a b c d i v K = _
 unfold Tr.setR Tr.setT Tr.setU
 rw [blt_case, blt_case, blt_case, (ok3 α).eq, (ok5 α).eq, (ok7 α).eq, (ok12 α).eq]
structure TopOk (α : Type) : Prop where
 eq : ∀ {γ : Type} (t : Tr α) (i : Nat) (a : α) (K : Tr α → γ), Tr.setK 0 t i a K = K (Tr.setK 0 t i a id)
 get : ∀ (t : Tr α) (i j : Nat) (a : α), i + 1 < 16777216 → Tr.get (Tr.setK 0 t i a id) j = if i = j then some a else Tr.get t j
 nil : ∀ j, Tr.get (α := α) .nil j = none
theorem trOk (α : Type) : TopOk α := by
 refine ⟨fun t i a K => ?_, fun t i j a hi => ?_, fun j => ?_⟩
 ·rw [Tr.setK_def, Tr.setK_def]
  by_cases h1 : i < 64
  ·rw [if_pos h1, if_pos h1]; rfl
  rw [if_neg h1, if_neg h1]
  by_cases h2 : i < 1024
  ·rw [if_pos h2, if_pos h2]; rfl
  rw [if_neg h2, if_neg h2]
  by_cases h3 : i < 16384
  ·rw [if_pos h3, if_pos h3]; rfl
  rw [if_neg h3, if_neg h3]; rfl
 ·have fin : ∀ (q : Nat) (x y : Option α), i < q → j < q → x = (if i % q = j % q then some a else y) → x = if i = j then some a else y := fun q x y h1 h2 e => by
   rw [Nat.mod_eq_of_lt h1, Nat.mod_eq_of_lt h2] at e; exact e
  have oth : ∀ (x : Option α), ¬ i = j → x = if i = j then some a else x := fun x h => (if_neg h).symm
  rw [Tr.setK_def, Tr.get_eq, Tr.get_eq]
  by_cases h1 : i < 64
  ·rw [if_pos h1]
   by_cases j1 : j < 64
   ·rw [if_pos j1, if_pos j1]; exact fin 64 _ _ h1 j1 ((ok3 α).get _ _ _ _)
   ·rw [if_neg j1, if_neg j1]; exact oth _ (by omega)
  rw [if_neg h1]
  by_cases h2 : i < 1024
  ·rw [if_pos h2]
   by_cases j1 : j < 64
   ·rw [if_pos j1, if_pos j1]; exact oth _ (by omega)
   rw [if_neg j1, if_neg j1]
   by_cases j2 : j < 1024
   ·rw [if_pos j2, if_pos j2]; exact fin 1024 _ _ h2 j2 ((ok5 α).get _ _ _ _)
   ·rw [if_neg j2, if_neg j2]; exact oth _ (by omega)
  rw [if_neg h2]
  by_cases h3 : i < 16384
  ·rw [if_pos h3]
   by_cases j1 : j < 64
   ·rw [if_pos j1, if_pos j1]; exact oth _ (by omega)
   rw [if_neg j1, if_neg j1]
   by_cases j2 : j < 1024
   ·rw [if_pos j2, if_pos j2]; exact oth _ (by omega)
   rw [if_neg j2, if_neg j2]
   by_cases j3 : j < 16384
   ·rw [if_pos j3, if_pos j3]; exact fin 16384 _ _ h3 j3 ((ok7 α).get _ _ _ _)
   ·rw [if_neg j3, if_neg j3]; exact oth _ (by omega)
  rw [if_neg h3]
  by_cases j1 : j < 64
  ·rw [if_pos j1, if_pos j1]; exact oth _ (by omega)
  rw [if_neg j1, if_neg j1]
  by_cases j2 : j < 1024
  ·rw [if_pos j2, if_pos j2]; exact oth _ (by omega)
  rw [if_neg j2, if_neg j2]
  by_cases j3 : j < 16384
  ·rw [if_pos j3, if_pos j3]; exact oth _ (by omega)
  rw [if_neg j3, if_neg j3]
  by_cases j4 : j < 16777216
  ·rw [if_pos j4, if_pos j4]; exact fin 16777216 _ _ (by omega) j4 ((ok12 α).get _ _ _ _)
  ·rw [if_neg j4, if_neg j4]; exact oth _ (by omega)
 ·rw [Tr.get_eq]
  show (if j < 64 then gt3 .nil j else if j < 1024 then gt5 .nil j else if j < 16384 then gt7 .nil j else if j < 16777216 then gt12 .nil j else none) = none
  rw [(ok3 α).nil, (ok5 α).nil, (ok7 α).nil, (ok12 α).nil]
  repeat' split
  all_goals rfl
def Tr.set {α : Type} (fuel : Nat) (t : Tr α) (i : Nat) (a : α) : Tr α := Tr.setK fuel t i a id
theorem Tr.setK_eq {α β : Type} (fuel : Nat) (t : Tr α) (i : Nat) (a : α) (k : Tr α → β) : Tr.setK fuel t i a k = k (Tr.set fuel t i a) := (trOk α).eq t i a k
theorem Tr.get_nil {α : Type} (i : Nat) : Tr.get (Tr.nil : Tr α) i = none := (trOk α).nil i
theorem Tr.get_set {α : Type} (n : Nat) (t : Tr α) (i j : Nat) (a : α) (h : i + 1 < 16777216) : Tr.get (Tr.set n t i a) j = if i = j then some a else Tr.get t j := (trOk α).get t i j a h
theorem evVs_eq (sl : Tr AV) {R : Type} : ∀ (xs : List XV) (k : List AV → Option R), evVs sl xs k = k (xs.map (evV sl))
 | [], k => rfl
 | x :: xs, k => evVs_eq sl xs fun vs => k (evV sl x :: vs)
theorem eqON_sound {a b : Option Nat} (h : eqON a b = true) : a = b := by
 cases a <;> cases b <;> simp [eqON] at h
 ·rfl
 ·rw [h]
theorem eqL_sound {a b : List Nat} (h : eqL a b = true) : a = b := by rw [eqL_eq] at h; simpa using h
theorem eqI_sound {a b : Int} (h : eqI a b = true) : a = b := by rw [eqI_eq] at h; simpa using h
theorem kindEq_sound {a b : IntKind} (h : kindEq a b = true) : a = b := by simpa [kindEq] using h
mutual
theorem eqAV_sound : ∀ (x y : AV), eqAV x y = true → x = y
 | .bool a, y, h => by cases y <;> simp [eqAV] at h; rw [h]
 | .int k a, y, h => by
  cases y <;> simp [eqAV] at h
  rw [kindEq_sound h.1, eqI_sound h.2]
 | .str a, y, h => by cases y <;> simp [eqAV] at h; rw [eqL_sound h]
 | .nilp, y, h => by cases y <;> simp [eqAV] at h; rfl
 | .ptr a b, y, h => by cases y <;> simp [eqAV] at h; rw [h.1, h.2]
 | .nils, y, h => by cases y <;> simp [eqAV] at h; rfl
 | .sl a b c d e, y, h => by
  cases y <;> simp [eqAV] at h
  obtain ⟨⟨⟨⟨h1, h2⟩, h3⟩, h4⟩, h5⟩ := h
  rw [h1, h2, h3, h4, eqON_sound h5]
 | .nilm, y, h => by cases y <;> simp [eqAV] at h; rfl
 | .mp a, y, h => by cases y <;> simp [eqAV] at h; rw [h]
 | .nilf, y, h => by cases y <;> simp [eqAV] at h; rfl
 | .fn f cs, y, h => by
  cases y <;> simp [eqAV] at h
  rw [h.1, eqAVs_sound _ _ h.2]
 | .fnb f fs cs, y, h => by
  cases y <;> simp [eqAV] at h
  rw [h.1.1, eqAVs_sound _ _ h.1.2, eqAVs_sound _ _ h.2]
 | .nili, y, h => by cases y <;> simp [eqAV] at h; rfl
 | .yld a, y, h => by cases y <;> simp [eqAV] at h; rw [h]
 | .iface t v, y, h => by
  cases y <;> simp [eqAV] at h
  rw [h.1, eqAV_sound _ _ h.2]
 | .agg cs, y, h => by cases y <;> simp [eqAV] at h; rw [eqAVs_sound _ _ h]
 | .tup cs, y, h => by cases y <;> simp [eqAV] at h; rw [eqAVs_sound _ _ h]
 | .raw oa n cp, y, h => by
  cases y <;> simp [eqAV] at h
  obtain ⟨⟨h1, h2⟩, h3⟩ := h
  rw [h1, h2, h3]
 | .var a, y, h => by cases y <;> simp [eqAV] at h; rw [h]
 | .top, y, h => by cases y <;> simp [eqAV] at h; rfl
theorem eqAVs_sound : ∀ (xs ys : List AV), eqAVs xs ys = true → xs = ys
 | [], ys, h => by cases ys <;> simp [eqAVs] at h; rfl
 | x :: xs, ys, h => by
  cases ys with
  | nil => simp [eqAVs] at h
  | cons y ys =>
   simp [eqAVs] at h
   rw [eqAV_sound _ _ h.1, eqAVs_sound _ _ h.2]
end
theorem eqEs_sound : ∀ (xs ys : List (AV × AV × Nat)), eqEs xs ys = true → xs = ys
 | [], [], _ => rfl
 | [], _ :: _, h => by simp [eqEs] at h
 | _ :: _, [], h => by simp [eqEs] at h
 | (a, b, c) :: xs, (a', b', c') :: ys, h => by
  simp [eqEs] at h
  obtain ⟨⟨⟨h1, h2⟩, h3⟩, h4⟩ := h
  rw [eqAV_sound _ _ h1, eqAV_sound _ _ h2, h3, eqEs_sound _ _ h4]
theorem eqOB_sound {a b : Option AB} (h : eqOB a b = true) : a = b := by
 cases a <;> cases b <;> simp [eqOB] at h
 ·rfl
 ·rename_i a b
  cases a <;> cases b <;> simp [eqAB] at h
  ·rw [eqAVs_sound _ _ h]
  ·rw [eqEs_sound _ _ h.1, h.2]
  ·obtain ⟨⟨⟨h1, h2⟩, h3⟩, h4⟩ := h
   rw [eqON_sound h1, h2, eqL_sound h3, h4]
  ·obtain ⟨⟨⟨⟨h1, h2⟩, h3⟩, h4⟩, h5⟩ := h
   rw [h1, h2, h3, h4, h5]
  ·rfl
theorem unchB_some {preds A : Nat} : ∀ {bs : List (Nat × Tr AB × Tr AB)}, unchB preds A bs = true → ∀ b ∈ bs, preds.testBit b.1 = false → Tr.get b.2.2 A = Tr.get b.2.1 A
 | [], _, b, hb, _ => by cases hb
 | b0 :: bs, h, b, hb, hp => by
  unfold unchB at h
  rw [Bool.and_eq_true, Bool.or_eq_true] at h
  rcases List.mem_cons.1 hb with rfl | hb
  ·rcases h.1 with q | q
   ·rw [hp] at q; cases q
   ·exact (eqOB_sound q).symm
  ·exact unchB_some h.2 b hb hp
theorem unchF_some {preds : Nat} {t t' : Tr AB} : ∀ {fs : List (Nat × Nat)}, unchF preds t t' fs = true → ∀ f ∈ fs, preds.testBit f.1 = false → Tr.get t' f.2 = Tr.get t f.2
 | [], _, b, hb, _ => by cases hb
 | b0 :: bs, h, b, hb, hp => by
  unfold unchF at h
  rw [Bool.and_eq_true, Bool.or_eq_true] at h
  rcases List.mem_cons.1 hb with rfl | hb
  ·rcases h.1 with q | q
   ·rw [hp] at q; cases q
   ·exact (eqOB_sound q).symm
  ·exact unchF_some h.2 b hb hp
end Go.Proofs.YtmdceifbbmnfgaaGreatDoor.Ev
