/- The compilation of the model's code for the evaluator. -/
import Derived.Test.YtndmnbigfpaenaaGreatDoorEvA
set_option linter.unusedVariables false
namespace Go.Proofs.YtndmnbigfpaenaaGreatDoor.Ev
open Go

def cCell : Value → Option AV
  | .bool b => some (.bool b)
  | .int k n => some (.int k n)
  | .string s => some (.str (s.data.toList.map UInt8.toNat))
  | .pointer none => some .nilp
  | .slice none 0 0 => some .nils
  | .map none => some .nilm
  | .nilFunc => some .nilf
  | .nilIface => some .nili
  | .func (.func f) first caps => if first.isEmpty && caps.isEmpty then some (.fn f []) else none
  | _ => none
def cAV : Value → Option AV
  | .agg cs => (cs.toList.mapM cCell).map .agg
  | .tuple cs => (cs.toList.mapM cCell).map .tup
  | v => cCell v
def cV : Operand → Option XV
  | .tmp t => some (.tmp t)
  | .const v => (cAV v).map .const
  | .global g => some (.glob g)
  | .func f => some (.const (.fn f []))

section
variable (P : Program)
def isA (t : TypeId) : Option (Option Nat) :=
  match P.underlying t, P.info? t with
  | some (.struct _), some i | some (.array _ _), some i => some (some i.size)
  | some _, some _ => some none
  | _, _ => none
def zeroA (t : TypeId) : Option AV := do cAV (← (← P.info? t).zero)
def szA (t : TypeId) : Option Nat := (P.info? t).map (·.size)
def cOpt (x : Option Operand) : Option (Option XV) := match x with | none => some none | some x => (cV x).map some
/-- the parts of a literal -/
def cParts (place : Nat → Option (Nat × Nat)) : List (Nat × Operand) → Option (List (Nat × Nat × XV))
  | [] => some []
  | q :: qs => do
    let p ← place q.1
    let x ← cV q.2
    pure ((p.1, p.2, x) :: (← cParts place qs))
/-- what is appended to -/
def appOk (e : TypeId) : Option Nat := match P.info? e with
  | some i => match i.zero with
    | some z => if z.cells.size = i.size ∧ i.bytes ≤ 1000000 then some i.size else none
    | none => none
  | none => none
/-- the function of a method, its receiver as it is -/
def methodOf (name : String) (t : TypeId) : Option Nat := match P.info? t with
  | some i => match i.methods.find? (·.name == name) with
    | some m => if m.path.isEmpty then match m.func, P.underlying t with
        | some (f, true), some (.pointer _) => some f
        | some (_, true), _ => none
        | some (_, false), some (.pointer _) => none
        | some (f, false), some _ => some f
        | _, _ => none
      else none
    | none => none
  | none => none
def cCall (c : Call) : Option XO :=
  match c.callee with
  | .builtin .len => match c.args.toList, c.argTypes.toList with
    | [x], [t] => match P.underlying t with
      | some .string => (cV x).map oLenS
      | some (.slice _) => (cV x).map oLenL
      | some (.map _ _) => (cV x).map oLenM
      | _ => none
    | _, _ => none
  | .builtin .append => match c.args.toList, c.argTypes.toList with
    | [s, x], [t, t2] => match P.underlying t, P.underlying t2 with
      | some (.slice e), some (.slice _) => do pure (oAppend (← appOk P e) (← cV s) (← cV x))
      | _, _ => none
    | _, _ => none
  | .builtin .max => match c.args.toList with
    | [x, y] => do pure (ints fMax (← cV x) (← cV y))
    | _ => none
  | .builtin .min => match c.args.toList with
    | [x, y] => do pure (ints fMin (← cV x) (← cV y))
    | _ => none
  | .builtin .copy => match c.args.toList, c.argTypes.toList with
    | [d, x], [t, t2] => match P.underlying t, P.underlying t2 with
      | some (.slice e), some (.slice _) => do pure (oCopy (← szA P e) (← cV d) (← cV x))
      | _, _ => none
    | _, _ => none
  | .value f => do pure (oCall (← cV f) (← c.args.toList.mapM cV))
  | .invoke x name => do pure (oInvoke (methodOf P name) (← cV x) (← c.args.toList.mapM cV))
  | _ => none
/-- equality by type -/
def eqB (t : TypeId) : Option EqF := match P.underlying t with
  | some (.int _) => some eqInt
  | some .string => some eqStr
  | some .bool => some eqBl
  | _ => none
def flatFs (i : Nat) : List Field → Option (List EqF)
  | [] => some []
  | f :: fs => if f.offset = i ∧ f.name ≠ "_" then do pure ((← eqB P f.type) :: (← flatFs (i + 1) fs)) else none
def eqT (t : TypeId) : Option EqF := match P.underlying t with
  | some (.struct fs) => if P.stoodInHeld t = false ∧ P.eqGuardType P.depth t = false then (flatFs P 0 fs.toList).map eqSt else none
  | _ => eqB P t
/-- NEST -/
def nestFs (i : Nat) : List Field → Option (List (Nat × EqF))
  | [] => some []
  | f :: fs => if f.offset = i ∧ f.name ≠ "_" then match eqB P f.type with
      | some g => do pure ((0, g) :: (← nestFs (i + 1) fs))
      | none => match P.underlying f.type, isA P f.type with
        | some (.struct gs), some (some (n + 1)) => if P.stoodInHeld f.type = false then do
            let e ← flatFs P 0 gs.toList
            pure ((n + 1, eqSt e) :: (← nestFs (i + (n + 1)) fs))
          else none
        | _, _ => none
    else none
def eqN (t : TypeId) : Option EqF := match P.underlying t with
  | some (.struct fs) => if P.stoodInHeld t = false ∧ P.eqGuardType P.depth t = false then (nestFs P 0 fs.toList).map eqNe else none
  | _ => none
def eqTN (t : TypeId) : Option EqF := match eqT P t with
  | some e => some e
  | none => eqN P t
/-- TSEN -/
def eqlO (neg : Bool) (t : TypeId) (x y : Operand) : Option XO :=
  match P.underlying t, y with
  | some (.pointer _), .const (.pointer none) => (cV x).map (oNilP neg)
  | some (.slice _), .const (.slice none 0 0) => (cV x).map (oNilS neg)
  | some (.map _ _), .const (.map none) => (cV x).map (oNilM neg)
  | some (.func _ _ _), .const .nilFunc => (cV x).map (oNilF neg)
  | _, _ => do pure (oEql (← eqTN P t) neg (← cV x) (← cV y))
def cBin (op : BinOp) (t : TypeId) (x y : Operand) : Option XO :=
  match op, P.underlying t with
  | .eql, _ => eqlO P false t x y
  | .neq, _ => eqlO P true t x y
  | .add, some (.int _) => do pure (ints fAdd (← cV x) (← cV y))
  | .sub, some (.int _) => do pure (ints fSub (← cV x) (← cV y))
  | .mul, some (.int _) => do pure (ints fMul (← cV x) (← cV y))
  | .quo, some (.int _) => do pure (ints fQuo (← cV x) (← cV y))
  | .rem, some (.int _) => do pure (ints fRem (← cV x) (← cV y))
  | .lss, some (.int _) => do pure (ints fLss (← cV x) (← cV y))
  | .leq, some (.int _) => do pure (ints fLeq (← cV x) (← cV y))
  | .gtr, some (.int _) => do pure (ints fGtr (← cV x) (← cV y))
  | .geq, some (.int _) => do pure (ints fGeq (← cV x) (← cV y))
  | .add, some .string => do pure (oCat (← cV x) (← cV y))
  | .lss, some .string => do pure (oScmp sLss (← cV x) (← cV y))
  | .leq, some .string => do pure (oScmp sLeq (← cV x) (← cV y))
  | .gtr, some .string => do pure (oScmp sGtr (← cV x) (← cV y))
  | .geq, some .string => do pure (oScmp sGeq (← cV x) (← cV y))
  | .and, some (.int _) => do pure (ints (onNat Nat.land) (← cV x) (← cV y))
  | .or, some (.int _) => do pure (ints (onNat Nat.lor) (← cV x) (← cV y))
  | .xor, some (.int _) => do pure (ints (onNat Nat.xor) (← cV x) (← cV y))
  | .andNot, some (.int _) => do pure (ints fAndNot (← cV x) (← cV y))
  | .shl, some (.int _) => do pure (oShl (← cV x) (← cV y))
  | .shr, some (.int _) => do pure (oShr (← cV x) (← cV y))
  | _, _ => none
def cO (o : Oper) : Option XO :=
  match o.op with
  | .move x | .assign x => (cV x).map oMv
  | .pick c a b => do pure (oPick (← cV c) (← cV a) (← cV b))
  | .alloc e => do pure (oBox (.const (← zeroA P e)))
  | .box _ x => (cV x).map oBox
  | .build t ps => match P.underlying t with
    | some (.struct fs) => do
      let z ← zeroA P t
      let places ← fs.toList.mapM fun f => (P.info? f.type).map fun i => (f.offset, i.size)
      let ps ← cParts (fun i => places.toArray[i]?) ps.toList
      pure (oBuild z.cells ps)
    | some (.array _ e) => do
      let z ← zeroA P t
      let s ← szA P e
      let ps ← cParts (fun i => some (i * s, s)) ps.toList
      pure (oBuild z.cells ps)
    | _ => none
  | .buildSlice t n ps => match P.underlying t with
    | some (.slice e) => do
      let s ← appOk P e
      let z ← zeroA P e
      let ps ← cParts (fun i => some (i * s, s)) ps.toList
      if 0 < s ∧ n * s ≤ 1000000 then pure (oBslice n z.cells ps) else none
    | _ => none
  | .load t a => match isA P t with
    | some none => (cV a).map oLoad1
    | some (some n) => (cV a).map (oLoadN n)
    | none => none
  | .store t a x => do pure (oStore (← szA P t) (← cV a) (← cV x))
  | .nilCheck x => (cV x).map oNilc
  | .binOp op t x y _ => cBin P op t x y
  | .unOp .not _ x => (cV x).map oNot
  | .unOp .neg _ x => (cV x).map oNeg
  | .convert s d x => match P.underlying s, P.underlying d with
    | some (.int _), some (.int k) => (cV x).map (oToInt k)
    | some .string, some .string => (cV x).map oSame
    | some (.slice e), some .string => match P.underlying e with
      | some (.int .u8) => (cV x).map oBytesStr
      | _ => none
    | _, _ => none
  | .makeFunc (.func f) first caps => if first.isEmpty then do pure (oMkfn f (← caps.toList.mapM cV)) else none
  | .makeInterface t x => match P.underlying t with
    | some (.interface _) => none
    | some _ => (cV x).map (oMkif t)
    | none => none
  | .typeAssert x _ t true => match P.underlying t with
    | some (.interface _) => none
    | some _ => do pure (oAssert t (← zeroA P t) (← cV x))
    | none => none
  | .makeMap _ none => some oMkmap
  | .makeMap t (some x) => match P.underlying t with
    | some (.map _ _) => (cV x).map oMkmapH
    | _ => none
  | .range t x => match P.underlying t with
    | some (.map _ _) => (cV x).map oRange
    | _ => none
  | .next x false => (cV x).map oNext
  | .entry x => (cV x).map oEntry
  | .makeSlice t l c => match P.underlying t with
    | some (.slice e) => do
      let s ← appOk P e
      let z ← zeroA P e
      if 0 < s then pure (oMkslice z.cells (← cV l) (← cV c)) else none
    | _ => none
  | .slice t x lo hi none => match P.underlying t with
    | some .string => do pure (oSliceS (← cV x) (← cOpt lo) (← cOpt hi))
    | some (.slice e) => do pure (oSlice (← szA P e) (← cV x) (← cOpt lo) (← cOpt hi))
    | _ => none
  | .slice t x lo (some hi) (some mx) => match P.underlying t with
    | some (.slice e) => do pure (oSlice3 (← szA P e) (← cV x) (← cOpt lo) (← cOpt (some hi)) (← cOpt (some mx)))
    | _ => none
  | .fieldAddr s x f => match P.underlying s with
    | some (.struct fs) => match fs[f]? with
      | some f => match szA P f.type with
        | some (_ + 1) => (cV x).map (oFaddr f.offset)
        | _ => none
      | none => none
    | _ => none
  | .field s x f => match P.underlying s with
    | some (.struct fs) => do
      let f ← fs[f]?
      match isA P f.type with
      | some none => (cV x).map (oFld1 f.offset)
      | some (some n) => (cV x).map (oFldN n f.offset)
      | none => none
    | _ => none
  | .indexAddr t x i => match P.underlying t with
    | some (.slice e) => do pure (oIaddr (← szA P e) (← cV x) (← cV i))
    | some (.array n e) => do pure (oIaddrA n (← szA P e) (← cV x) (← cV i))
    | _ => none
  | .index t x i => match P.underlying t with
    | some .string => do pure (oIdxS (← cV x) (← cV i))
    | some (.array n e) => match isA P e, szA P e with
      | some none, some 1 => do pure (oIdx1 n (← cV x) (← cV i))
      | _, _ => none
    | _ => none
  | .lookup t x i ok => match P.underlying t with
    | some (.map q e) => do pure (oLookup (← eqT P q) (← zeroA P e) (← cV x) (← cV i) ok)
    | _ => none
  | .mapUpdate t m k v | .insert t m k v => match P.underlying t with
    | some (.map q _) => do pure (oMapup (← eqT P q) (← cV m) (← cV k) (← cV v))
    | _ => none
  | .extract x i => do pure (oExtr (← cV x) i)
  | .call c => cCall P c
  | _ => none
/-- may an operation write old blocks, or read any? -/
def memO (o : Oper) : Bool :=
  match o.op with
  | .store .. | .mapUpdate .. | .insert .. => true
  | .call c => match c.callee with
    | .builtin .len | .builtin .max | .builtin .min => false
    | _ => true
  | .range .. | .next .. | .entry .. => true
  | _ => false
/-- the operand that leads to the one block that an operation reads -/
def footO (o : Oper) : Option Operand :=
  match o.op with
  | .load _ a => some a
  | .lookup _ x _ _ => some x
  | .convert s _ x => match P.underlying s with
    | some (.slice _) => some x
    | _ => none
  | .call c => match c.callee with
    | .builtin .len => match c.argTypes.toList, c.args.toList with
      | [t], [x] => match P.underlying t with
        | some (.map _ _) => some x
        | _ => none
      | _, _ => none
    | _ => none
  | _ => none
def cGuard (ops : Array Oper) (g : Option (Nat × Bool)) : Option (Option (Nat × Bool)) :=
  match g with
  | none => some none
  | some (j, w) => match (ops[j]?).bind (·.dst) with
    | some d => some (some (d, w))
    | none => none
def gOk : Operand → Bool
  | .global g => Nat.blt g P.globals.size
  | _ => true
def cR (ops : Array Oper) (preds : Nat) (o : Oper) : XR :=
  match cO P o, cGuard ops o.guard, o.op.operands.toList.all (gOk P) with
  | some x, some g, true => { dst := o.dst, op := x, guard := g, preds := preds, mem := memO o, bar := false, foot := none }
  | _, _, _ => { dst := o.dst, op := oBad, guard := none, preds := preds, mem := true, bar := false, foot := none }
def cRs (ops : Array Oper) : List XR := ops.toList.map (cR P ops 0)
/-- is j ordered against every other operation on the heap? -/
def barOf (ops : Array Oper) (b : Array Nat) (j : Nat) : Bool :=
  (List.range ops.size).all fun i => !memO (ops.getD i default) || i == j || (if i < j then (b.getD j 0).testBit i else (b.getD i 0).testBit j)
def cD (ops : Array Oper) (b : Array Nat) (j : Nat) : XR :=
  let x := cR P ops (b.getD j 0) (ops.getD j default)
  { x with mem := memO (ops.getD j default), bar := memO (ops.getD j default) && barOf ops b j, foot := (footO P (ops.getD j default)).bind cV }
def cDs (ops : Array Oper) : List XR := (List.range ops.size).map (cD P ops (Region.before ops))
/-- are the slots of a region that draws ordered? -/
def okD (ops : Array Oper) (b : Array Nat) : Bool :=
  (List.range ops.size).all fun j =>
    (b.getD j 0 < 2 ^ j) && ((ops.getD j default).after.all fun e => !Region.binds .any e || e.on < j) &&
    match (ops.getD j default).dst with
    | none => true
    | some d => (List.range ops.size).all fun i => i == j || (if i < j then (b.getD j 0).testBit i else (b.getD i 0).testBit j) || !(((ops.getD i default).looksAt ops).contains d || (ops.getD i default).dst == some d)
/-- a loop over the entries of a map: its iterator, the slots of the step and of its word, the block that it leaves by -/
def rngOf : Code → Option (Nat × Nat × Nat × Nat)
  | .seq (.region _ ops false) (.seq (.cond (.tmp u) .skip (.exit id)) _) => match ops.toList with
    | [o, o'] => match o.op, o.dst, o.guard, o'.op, o'.dst, o'.guard with
      | .next (.tmp x) false, some t, none, .extract (.tmp t') 0, some u', none => bif Nat.beq t t' && Nat.beq u u' then some (x, t, u, id) else none
      | _, _, _, _, _, _ => none
    | _ => none
  | _ => none
def cC : Code → XC
  | .skip => .skip
  | .region _ ops false => .reg (cRs P ops)
  | .region _ ops true => bif okD ops (Region.before ops) then .dreg (cDs P ops) else .bad
  | .seq a b => .seq (cC a) (cC b)
  | .cond c a b => match cV c, gOk P c with
    | some c, true => .cond c (cC a) (cC b)
    | _, _ => .bad
  | .block id b => .block id (cC b)
  | .loop b => match rngOf b with
    | some q => .rng q.1 q.2.1 q.2.2.1 q.2.2.2 (cC b)
    | none => .loop (cC b)
  | .rangeFunc f ps assign body => match cV f, gOk P f with
    | some f, true => .rf f ps.toList assign body
    | _, _ => .bad
  | .exit id => .exit id
  | .ret => .ret
  | .label _ => .skip
  | _ => .bad
def cRes : ResultVar → Option (Nat × Option (Option Nat))
  | .tmp t => some (t, none)
  | .cell a t => do pure (a, some (← isA P t))
def cF (f : Func) : Option XF := do
  let b ← f.body
  let rs ← f.results.toList.mapM (cRes P)
  if f.ntmps ≤ 1000000 then pure { nt := f.ntmps, res := rs, body := cC P b } else none
def tblOf (f : Nat) : Option XF := (P.funcs[f]?).bind (cF P)
abbrev Exts := List (Nat × (List AV → Option AV))
def extOf : Exts → Nat → Option (List AV → Option AV)
  | [], _ => none
  | e :: es, f => bif Nat.beq e.1 f then some e.2 else extOf es f
def tblX (X : Exts) (f : Nat) : Option XT := match extOf X f with
  | some g => some (.ext g)
  | none => (tblOf P f).map .fn
end
end Go.Proofs.YtndmnbigfpaenaaGreatDoor.Ev
