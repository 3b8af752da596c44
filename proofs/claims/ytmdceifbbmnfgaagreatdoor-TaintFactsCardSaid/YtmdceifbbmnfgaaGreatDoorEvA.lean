/- An evaluator for closed calls: abstract values, heap, compiled code, evaluation by fuel. No program in this text. -/
import Derived.Orders
set_option linter.unusedVariables false
set_option linter.unusedSimpArgs false
namespace Go.Proofs.YtmdceifbbmnfgaaGreatDoor.Ev
open Go
/-! values -/
inductive AV where
 | bool (b : Bool)
 | int (k : IntKind) (n : Int)
 | str (s : List Nat)
 | nilp
 | ptr (id off : Nat)
 | nils
 | sl (id off len esz : Nat) (cap : Option Nat)
 | nilm
 | mp (id : Nat)
 | nilf
 | fn (f : Nat) (caps : List AV)
 | fnb (f : Nat) (first caps : List AV)
 | nili
 | iface (t : Nat) (v : AV)
 | yld (id : Nat)
 | agg (vs : List AV)
 | tup (vs : List AV)
 | raw (oa : Option Addr) (n cp : Nat)
 | var (id : Nat)
 | top
 deriving Inhabited
/-! tries -/
inductive D4 where
 | x0 | x1 | x2 | x3
 deriving DecidableEq
inductive O4 (β : Type) where
 | nil
 | node (a b c d : β)
abbrev T1 (α : Type) := O4 (Option α)
abbrev T2 (α : Type) := O4 (T1 α)
abbrev T3 (α : Type) := O4 (T2 α)
abbrev T4 (α : Type) := O4 (T3 α)
abbrev T5 (α : Type) := O4 (T4 α)
abbrev T6 (α : Type) := O4 (T5 α)
abbrev T7 (α : Type) := O4 (T6 α)
abbrev T8 (α : Type) := O4 (T7 α)
abbrev T9 (α : Type) := O4 (T8 α)
abbrev T10 (α : Type) := O4 (T9 α)
abbrev T11 (α : Type) := O4 (T10 α)
abbrev T12 (α : Type) := O4 (T11 α)
structure Tr (α : Type) where
 a : T3 α
 b : T5 α
 c : T7 α
 d : T12 α
inductive Ex where
 | normal
 | exit (id : Nat)
 | ret
inductive AB where
 | cells (vs : List AV)
 | map (es : List (AV × AV × Nat)) (clock : Nat)
 | iter (m : Option Nat) (since : Nat) (seen : List Nat) (last : Nat)
 | iterL (m since b stepped v : Nat)
 | bld (T : Nat) (s : List Nat) (j : Option Nat)
 | byt (e : Nat) (s : List Nat)
 | kbox (m : Nat)
 | defd
 | loop (st : Nat) (pend : Option Ex) (nt : Nat) (sl : Tr AV) (ps : List Nat) (assign body : Code) (d : Nat)
 | dead
 deriving Inhabited
def AV.cells : AV → List AV
 | .agg vs => vs
 | v => [v]
/-! strictness -/
def forceNat {β : Type} (n : Nat) (k : Nat → β) : β := match n with
 | 0 => k 0
 | m + 1 => k (Nat.succ m)
def forceInt {β : Type} (n : Int) (k : Int → β) : β :=
 match n with
 | .ofNat m => forceNat m fun m => k (.ofNat m)
 | .negSucc m => forceNat m fun m => k (.negSucc m)
def forceBool {β : Type} (b : Bool) (k : Bool → β) : β := match b with
 | false => k false
 | true => k true
/-! tries -/
def Tr.nil {α : Type} : Tr α := ⟨.nil, .nil, .nil, .nil⟩
def d4 (n : Nat) : D4 := Nat.casesOn (motive := fun _ => D4) (Nat.mod n 4) .x0 fun n => Nat.casesOn (motive := fun _ => D4) n .x1 fun n => Nat.casesOn (motive := fun _ => D4) n .x2 fun _ => .x3
def sel4 {β : Type} (a b c d : β) (x : D4) : β := D4.casesOn (motive := fun _ => β) x a b c d
def selO {β : Type} (z : β) (t : O4 β) (x : D4) : β := O4.casesOn (motive := fun _ => β) t z fun a b c d => sel4 a b c d x
def gt1 {α : Type} (t : T1 α) (i : Nat) : Option α := selO none t (d4 i)
def gt2 {α : Type} (t : T2 α) (i : Nat) : Option α := gt1 (selO .nil t (d4 (Nat.div i 4))) i
def gt3 {α : Type} (t : T3 α) (i : Nat) : Option α := gt2 (selO .nil t (d4 (Nat.div i 16))) i
def gt4 {α : Type} (t : T4 α) (i : Nat) : Option α := gt3 (selO .nil t (d4 (Nat.div i 64))) i
def gt5 {α : Type} (t : T5 α) (i : Nat) : Option α := gt4 (selO .nil t (d4 (Nat.div i 256))) i
def gt6 {α : Type} (t : T6 α) (i : Nat) : Option α := gt5 (selO .nil t (d4 (Nat.div i 1024))) i
def gt7 {α : Type} (t : T7 α) (i : Nat) : Option α := gt6 (selO .nil t (d4 (Nat.div i 4096))) i
def gt8 {α : Type} (t : T8 α) (i : Nat) : Option α := gt7 (selO .nil t (d4 (Nat.div i 16384))) i
def gt9 {α : Type} (t : T9 α) (i : Nat) : Option α := gt8 (selO .nil t (d4 (Nat.div i 65536))) i
def gt10 {α : Type} (t : T10 α) (i : Nat) : Option α := gt9 (selO .nil t (d4 (Nat.div i 262144))) i
def gt11 {α : Type} (t : T11 α) (i : Nat) : Option α := gt10 (selO .nil t (d4 (Nat.div i 1048576))) i
def gt12 {α : Type} (t : T12 α) (i : Nat) : Option α := gt11 (selO .nil t (d4 (Nat.div i 4194304))) i
def putO {β γ : Type} (a b c d : β) (x : D4) (v : β) (K : O4 β → γ) : γ := D4.casesOn (motive := fun _ => γ) x (K (.node v b c d)) (K (.node a v c d)) (K (.node a b v d)) (K (.node a b c v))
def st1 {α γ : Type} (t : T1 α) (i : Nat) (v : α) (K : T1 α → γ) : γ := O4.casesOn (motive := fun _ => γ) t (putO none none none none (d4 i) (some v) K) fun a b c d => putO a b c d (d4 i) (some v) K
def sn2 {α γ : Type} (a b c d : T1 α) (x : D4) (i : Nat) (v : α) (K : T2 α → γ) : γ := st1 (sel4 a b c d x) i v fun y => putO a b c d x y K
def st2 {α γ : Type} (t : T2 α) (i : Nat) (v : α) (K : T2 α → γ) : γ := O4.casesOn (motive := fun _ => γ) t (sn2 .nil .nil .nil .nil (d4 (Nat.div i 4)) i v K) fun a b c d => sn2 a b c d (d4 (Nat.div i 4)) i v K
def sn3 {α γ : Type} (a b c d : T2 α) (x : D4) (i : Nat) (v : α) (K : T3 α → γ) : γ := st2 (sel4 a b c d x) i v fun y => putO a b c d x y K
def st3 {α γ : Type} (t : T3 α) (i : Nat) (v : α) (K : T3 α → γ) : γ := O4.casesOn (motive := fun _ => γ) t (sn3 .nil .nil .nil .nil (d4 (Nat.div i 16)) i v K) fun a b c d => sn3 a b c d (d4 (Nat.div i 16)) i v K
def sn4 {α γ : Type} (a b c d : T3 α) (x : D4) (i : Nat) (v : α) (K : T4 α → γ) : γ := st3 (sel4 a b c d x) i v fun y => putO a b c d x y K
def st4 {α γ : Type} (t : T4 α) (i : Nat) (v : α) (K : T4 α → γ) : γ := O4.casesOn (motive := fun _ => γ) t (sn4 .nil .nil .nil .nil (d4 (Nat.div i 64)) i v K) fun a b c d => sn4 a b c d (d4 (Nat.div i 64)) i v K
def sn5 {α γ : Type} (a b c d : T4 α) (x : D4) (i : Nat) (v : α) (K : T5 α → γ) : γ := st4 (sel4 a b c d x) i v fun y => putO a b c d x y K
def st5 {α γ : Type} (t : T5 α) (i : Nat) (v : α) (K : T5 α → γ) : γ := O4.casesOn (motive := fun _ => γ) t (sn5 .nil .nil .nil .nil (d4 (Nat.div i 256)) i v K) fun a b c d => sn5 a b c d (d4 (Nat.div i 256)) i v K
def sn6 {α γ : Type} (a b c d : T5 α) (x : D4) (i : Nat) (v : α) (K : T6 α → γ) : γ := st5 (sel4 a b c d x) i v fun y => putO a b c d x y K
def st6 {α γ : Type} (t : T6 α) (i : Nat) (v : α) (K : T6 α → γ) : γ := O4.casesOn (motive := fun _ => γ) t (sn6 .nil .nil .nil .nil (d4 (Nat.div i 1024)) i v K) fun a b c d => sn6 a b c d (d4 (Nat.div i 1024)) i v K
def sn7 {α γ : Type} (a b c d : T6 α) (x : D4) (i : Nat) (v : α) (K : T7 α → γ) : γ := st6 (sel4 a b c d x) i v fun y => putO a b c d x y K
def st7 {α γ : Type} (t : T7 α) (i : Nat) (v : α) (K : T7 α → γ) : γ := O4.casesOn (motive := fun _ => γ) t (sn7 .nil .nil .nil .nil (d4 (Nat.div i 4096)) i v K) fun a b c d => sn7 a b c d (d4 (Nat.div i 4096)) i v K
def sn8 {α γ : Type} (a b c d : T7 α) (x : D4) (i : Nat) (v : α) (K : T8 α → γ) : γ := st7 (sel4 a b c d x) i v fun y => putO a b c d x y K
def st8 {α γ : Type} (t : T8 α) (i : Nat) (v : α) (K : T8 α → γ) : γ := O4.casesOn (motive := fun _ => γ) t (sn8 .nil .nil .nil .nil (d4 (Nat.div i 16384)) i v K) fun a b c d => sn8 a b c d (d4 (Nat.div i 16384)) i v K
def sn9 {α γ : Type} (a b c d : T8 α) (x : D4) (i : Nat) (v : α) (K : T9 α → γ) : γ := st8 (sel4 a b c d x) i v fun y => putO a b c d x y K
def st9 {α γ : Type} (t : T9 α) (i : Nat) (v : α) (K : T9 α → γ) : γ := O4.casesOn (motive := fun _ => γ) t (sn9 .nil .nil .nil .nil (d4 (Nat.div i 65536)) i v K) fun a b c d => sn9 a b c d (d4 (Nat.div i 65536)) i v K
def sn10 {α γ : Type} (a b c d : T9 α) (x : D4) (i : Nat) (v : α) (K : T10 α → γ) : γ := st9 (sel4 a b c d x) i v fun y => putO a b c d x y K
def st10 {α γ : Type} (t : T10 α) (i : Nat) (v : α) (K : T10 α → γ) : γ := O4.casesOn (motive := fun _ => γ) t (sn10 .nil .nil .nil .nil (d4 (Nat.div i 262144)) i v K) fun a b c d => sn10 a b c d (d4 (Nat.div i 262144)) i v K
def sn11 {α γ : Type} (a b c d : T10 α) (x : D4) (i : Nat) (v : α) (K : T11 α → γ) : γ := st10 (sel4 a b c d x) i v fun y => putO a b c d x y K
def st11 {α γ : Type} (t : T11 α) (i : Nat) (v : α) (K : T11 α → γ) : γ := O4.casesOn (motive := fun _ => γ) t (sn11 .nil .nil .nil .nil (d4 (Nat.div i 1048576)) i v K) fun a b c d => sn11 a b c d (d4 (Nat.div i 1048576)) i v K
def sn12 {α γ : Type} (a b c d : T11 α) (x : D4) (i : Nat) (v : α) (K : T12 α → γ) : γ := st11 (sel4 a b c d x) i v fun y => putO a b c d x y K
def st12 {α γ : Type} (t : T12 α) (i : Nat) (v : α) (K : T12 α → γ) : γ := O4.casesOn (motive := fun _ => γ) t (sn12 .nil .nil .nil .nil (d4 (Nat.div i 4194304)) i v K) fun a b c d => sn12 a b c d (d4 (Nat.div i 4194304)) i v K
def Tr.getU {α : Type} (t : Tr α) (i : Nat) : Option α := Bool.casesOn (motive := fun _ => Option α) (Nat.blt i 16384) (Bool.casesOn (motive := fun _ => Option α) (Nat.blt i 16777216) none (gt12 t.d i)) (gt7 t.c i)
def Tr.getT {α : Type} (t : Tr α) (i : Nat) : Option α := Bool.casesOn (motive := fun _ => Option α) (Nat.blt i 1024) (Tr.getU t i) (gt5 t.b i)
def Tr.get {α : Type} (t : Tr α) (i : Nat) : Option α := Bool.casesOn (motive := fun _ => Option α) (Nat.blt i 64) (Tr.getT t i) (gt3 t.a i)
def Tr.setU {α γ : Type} (a : T3 α) (b : T5 α) (c : T7 α) (d : T12 α) (i : Nat) (v : α) (K : Tr α → γ) : γ := Bool.casesOn (motive := fun _ => γ) (Nat.blt i 16384) (st12 d i v fun d => K ⟨a, b, c, d⟩) (st7 c i v fun c => K ⟨a, b, c, d⟩)
def Tr.setT {α γ : Type} (a : T3 α) (b : T5 α) (c : T7 α) (d : T12 α) (i : Nat) (v : α) (K : Tr α → γ) : γ := Bool.casesOn (motive := fun _ => γ) (Nat.blt i 1024) (Tr.setU a b c d i v K) (st5 b i v fun b => K ⟨a, b, c, d⟩)
def Tr.setR {α γ : Type} (a : T3 α) (b : T5 α) (c : T7 α) (d : T12 α) (i : Nat) (v : α) (K : Tr α → γ) : γ := Bool.casesOn (motive := fun _ => γ) (Nat.blt i 64) (Tr.setT a b c d i v K) (st3 a i v fun a => K ⟨a, b, c, d⟩)
def Tr.setK {α γ : Type} (_ : Nat) (t : Tr α) (i : Nat) (v : α) (K : Tr α → γ) : γ := Tr.casesOn (motive := fun _ => γ) t fun a b c d => Tr.setR a b c d i v K
structure H where
 t : Tr AB
 n : Nat
structure C where
 floor : Nat
 vis : List (Nat × Nat)
def seen : List (Nat × Nat) → Nat → Bool
 | [], _ => false
 | r :: rs, id => bif Nat.ble r.1 id then Nat.blt id r.2 else seen rs id
def getB (c : C) (h : H) (id : Nat) : Option AB := bif seen c.vis id then Tr.get h.t id else none
def depth : Nat := 40
def setB {R : Type} (c : C) (h : H) (id : Nat) (b : AB) (k : H → Option R) : Option R :=
 bif Nat.ble c.floor id && seen c.vis id then Tr.setK depth h.t id b fun t => k ⟨t, h.n⟩ else none
def newB {R : Type} (h : H) (b : AB) (k : Nat → H → Option R) : Option R :=
 bif Nat.blt h.n 10000000 then Tr.setK depth h.t h.n b fun t => forceNat (Nat.succ h.n) fun n => k h.n ⟨t, n⟩ else none
/-! lists -/
def takeK {α R : Type} : Nat → List α → (List α → Option R) → Option R
 | 0, _, k => k []
 | n + 1, l, k => match l with
  | [] => none
  | x :: xs => takeK n xs fun ys => k (x :: ys)
def dropK {α R : Type} : Nat → List α → (List α → Option R) → Option R
 | 0, l, k => k l
 | n + 1, l, k => match l with
  | [] => none
  | _ :: xs => dropK n xs k
def overK {R : Type} : List AV → List AV → (List AV → Option R) → Option R
 | [], l, k => k l
 | y :: news, l, k => match l with
  | [] => none
  | _ :: xs => overK news xs fun zs => k (y :: zs)
def spliceK {R : Type} : Nat → List AV → List AV → (List AV → Option R) → Option R
 | 0, news, l, k => overK news l k
 | n + 1, news, l, k => match l with
  | [] => none
  | x :: xs => spliceK n news xs fun ys => k (x :: ys)
def appK {α R : Type} : List α → List α → (List α → Option R) → Option R
 | [], ys, k => k ys
 | x :: xs, ys, k => appK xs ys fun zs => k (x :: zs)
def nth {α : Type} : Nat → List α → Option α
 | _, [] => none
 | 0, x :: _ => some x
 | n + 1, _ :: xs => nth n xs
def lenN {α : Type} : List α → Nat
 | [] => 0
 | _ :: l => Nat.succ (lenN l)
def eqL : List Nat → List Nat → Bool
 | [], [] => true
 | a :: x, b :: y => bif Nat.beq a b then eqL x y else false
 | _, _ => false
def ltL : List Nat → List Nat → Bool
 | _, [] => false
 | [], _ :: _ => true
 | a :: x, b :: y => bif Nat.blt a b then true else bif Nat.beq a b then ltL x y else false
def repK {R : Type} : Nat → List AV → (List AV → Option R) → Option R
 | 0, _, k => k []
 | n + 1, z, k => repK n z fun l => appK z l k
def bytesK {R : Type} : List AV → (List Nat → Option R) → Option R
 | [], k => k []
 | v :: vs, k => match v with
  | .int .u8 (.ofNat b) => bif Nat.ble b 255 then bytesK vs fun bs => k (b :: bs) else none
  | _ => none
/-! numbers -/
def inR (k : IntKind) (n : Int) : Bool :=
 match k, n with
 | .i64, .ofNat m => Nat.ble m 9223372036854775807
 | .i64, .negSucc m => Nat.ble m 9223372036854775807
 | .i32, .ofNat m => Nat.ble m 2147483647
 | .i32, .negSucc m => Nat.ble m 2147483647
 | .u8, .ofNat m => Nat.ble m 255
 | .u16, .ofNat m => Nat.ble m 65535
 | .u32, .ofNat m => Nat.ble m 4294967295
 | .u64, .ofNat m => Nat.ble m 18446744073709551615
 | _, _ => false
def eqI : Int → Int → Bool
 | .ofNat a, .ofNat b => Nat.beq a b
 | .negSucc a, .negSucc b => Nat.beq a b
 | _, _ => false
def ltI : Int → Int → Bool
 | .ofNat a, .ofNat b => Nat.blt a b
 | .negSucc a, .negSucc b => Nat.blt b a
 | .negSucc _, .ofNat _ => true
 | .ofNat _, .negSucc _ => false
def kindEq (a b : IntKind) : Bool := decide (a = b)
def intK {R : Type} (k : IntKind) (n : Int) (h : H) (K : AV → H → Option R) : Option R :=
 bif inR k n then forceInt n fun n => K (.int k n) h else none
def boolK {R : Type} (b : Bool) (h : H) (K : AV → H → Option R) : Option R := forceBool b fun b => K (.bool b) h
abbrev EqF := AV → AV → Option Bool
def eqInt : EqF := fun x y => match x, y with
 | .int k a, .int j b => bif kindEq k j then some (eqI a b) else none
 | _, _ => none
def eqStr : EqF := fun x y => match x, y with
 | .str a, .str b => some (eqL a b)
 | _, _ => none
def eqBl : EqF := fun x y => match x, y with
 | .bool a, .bool b => some (a == b)
 | _, _ => none
def eqFs : List EqF → List AV → List AV → Option Bool
 | [], [], [] => some true
 | f :: fs, x :: xs, y :: ys => match f x y with
  | some true => eqFs fs xs ys
  | some false => some false
  | none => none
 | _, _, _ => none
def eqSt (fs : List EqF) : EqF := fun x y => match x, y with
 | .agg xs, .agg ys => eqFs fs xs ys
 | _, _ => none
/-! equality of blocks -/
def eqON : Option Nat → Option Nat → Bool
 | none, none => true
 | some a, some b => Nat.beq a b
 | _, _ => false
mutual
def eqAV : AV → AV → Bool
 | .bool a, y => match y with | .bool b => a == b | _ => false
 | .int k a, y => match y with | .int j b => kindEq k j && eqI a b | _ => false
 | .str a, y => match y with | .str b => eqL a b | _ => false
 | .nilp, y => match y with | .nilp => true | _ => false
 | .ptr a b, y => match y with | .ptr a' b' => Nat.beq a a' && Nat.beq b b' | _ => false
 | .nils, y => match y with | .nils => true | _ => false
 | .sl a b c d e, y => match y with | .sl a' b' c' d' e' => Nat.beq a a' && Nat.beq b b' && Nat.beq c c' && Nat.beq d d' && eqON e e' | _ => false
 | .nilm, y => match y with | .nilm => true | _ => false
 | .mp a, y => match y with | .mp a' => Nat.beq a a' | _ => false
 | .nilf, y => match y with | .nilf => true | _ => false
 | .fn f cs, y => match y with | .fn f' cs' => Nat.beq f f' && eqAVs cs cs' | _ => false
 | .fnb f a b, y => match y with | .fnb f' a' b' => Nat.beq f f' && eqAVs a a' && eqAVs b b' | _ => false
 | .nili, y => match y with | .nili => true | _ => false
 | .yld a, y => match y with | .yld a' => Nat.beq a a' | _ => false
 | .iface t v, y => match y with | .iface t' v' => Nat.beq t t' && eqAV v v' | _ => false
 | .agg cs, y => match y with | .agg cs' => eqAVs cs cs' | _ => false
 | .tup cs, y => match y with | .tup cs' => eqAVs cs cs' | _ => false
 | .raw oa n cp, y => match y with | .raw oa' n' cp' => decide (oa = oa') && Nat.beq n n' && Nat.beq cp cp' | _ => false
 | .var a, y => match y with | .var a' => Nat.beq a a' | _ => false
 | .top, y => match y with | .top => true | _ => false
def eqAVs : List AV → List AV → Bool
 | [], ys => match ys with | [] => true | _ => false
 | x :: xs, ys => match ys with | y :: ys => eqAV x y && eqAVs xs ys | [] => false
end
def eqEs : List (AV × AV × Nat) → List (AV × AV × Nat) → Bool
 | [], [] => true
 | x :: xs, y :: ys => eqAV x.1 y.1 && eqAV x.2.1 y.2.1 && Nat.beq x.2.2 y.2.2 && eqEs xs ys
 | _, _ => false
def eqAB : AB → AB → Bool
 | .cells a, .cells b => eqAVs a b
 | .map a c, .map b d => eqEs a b && Nat.beq c d
 | .iter a b c d, .iter a' b' c' d' => eqON a a' && Nat.beq b b' && eqL c c' && Nat.beq d d'
 | .iterL a b c d e, .iterL a' b' c' d' e' => Nat.beq a a' && Nat.beq b b' && Nat.beq c c' && Nat.beq d d' && Nat.beq e e'
 | .dead, .dead => true
 | _, _ => false
def eqOB : Option AB → Option AB → Bool
 | none, none => true
 | some a, some b => eqAB a b
 | _, _ => false
/-! compiled code -/
inductive XV where
 | tmp (t : Nat)
 | const (v : AV)
 | glob (g : Nat)
 deriving Inhabited
/-! evaluation -/
def slot (sl : Tr AV) (t : Nat) : AV := match Tr.get sl t with | some v => v | none => .tup []
def evV (sl : Tr AV) : XV → AV
 | .tmp t => slot sl t
 | .const v => v
 | .glob g => .ptr g 0
def evVs {R : Type} (sl : Tr AV) : List XV → (List AV → Option R) → Option R
 | [], k => k []
 | x :: xs, k => evVs sl xs fun vs => k (evV sl x :: vs)
def okT : AV → Bool
 | .top => false
 | _ => true
def evParts {R : Type} (sl : Tr AV) : List (Nat × Nat × XV) → List AV → (List AV → Option R) → Option R
 | [], l, k => k l
 | p :: ps, l, k =>
  let cs := (evV sl p.2.2).cells
  bif Nat.beq (lenN cs) p.2.1 && okT (evV sl p.2.2) then spliceK p.1 cs l fun l => evParts sl ps l k else none
def findE (eq : EqF) (key : AV) : List (AV × AV × Nat) → Nat → Option (Option (Nat × AV))
 | [], _ => some none
 | e :: es, i => match eq key e.1 with
  | some true => some (some (i, e.2.1))
  | some false => findE eq key es (Nat.succ i)
  | none => none
def setE {R : Type} (v : AV) : Nat → List (AV × AV × Nat) → (List (AV × AV × Nat) → Option R) → Option R
 | _, [], _ => none
 | 0, e :: es, k => k ((e.1, v, e.2.2) :: es)
 | i + 1, e :: es, k => setE v i es fun es => k (e :: es)
def asNat : AV → Option Nat
 | .int _ (.ofNat n) => some n
 | _ => none
def optNat (sl : Tr AV) (d : Nat) : Option XV → Option Nat
 | none => some d
 | some x => asNat (evV sl x)
inductive Cee where
 | fn (f : Nat)
 | fnB (f : Nat)
 | yld (id : Nat)
abbrev Caller := Cee → List AV → C → H → Option (AV × H)
abbrev Out := Option (Tr AV × H)
abbrev Kont := AV → H → Out
abbrev XO := C → Caller → Tr AV → H → Kont → Out
def oMv (x : XV) : XO := fun _ _ sl h k => k (evV sl x) h
def oPick (b x y : XV) : XO := fun _ _ sl h k => match evV sl b with
 | .bool true => k (evV sl x) h
 | .bool false => k (evV sl y) h
 | _ => none
def oBox (x : XV) : XO := fun _ _ sl h k => bif okT (evV sl x) then newB h (.cells (evV sl x).cells) fun id h => k (.ptr id 0) h else none
def oBuild (z : List AV) (ps : List (Nat × Nat × XV)) : XO := fun _ _ sl h k => evParts sl ps z fun l => k (.agg l) h
def oBslice (n : Nat) (z : List AV) (ps : List (Nat × Nat × XV)) : XO := fun _ _ sl h k => repK n z fun l => evParts sl ps l fun l => newB h (.cells l) fun id h => k (.sl id 0 n (lenN z) (some n)) h
def cellsAt (c : C) (h : H) (id : Nat) (k : List AV → Out) : Out := match getB c h id with
 | some (.cells vs) => k vs
 | _ => none
def oLoad1 (x : XV) : XO := fun c _ sl h k => match evV sl x with
 | .ptr id off => cellsAt c h id fun vs => match nth off vs with
  | some v => k v h
  | none => none
 | _ => none
def oLoadN (n : Nat) (x : XV) : XO := fun c _ sl h k => match evV sl x with
 | .ptr id off => cellsAt c h id fun vs => dropK off vs fun vs => takeK n vs fun vs => k (.agg vs) h
 | _ => none
def one : AV → Bool
 | .agg _ | .tup _ => false
 | .var _ | .top => false
 | _ => true
def ones : List AV → Bool
 | [] => true
 | v :: vs => bif one v then ones vs else false
def oStore (n : Nat) (a x : XV) : XO := fun c _ sl h k => match evV sl a with
 | .ptr id off => cellsAt c h id fun vs =>
  bif Nat.beq (lenN (evV sl x).cells) n && ones (evV sl x).cells then spliceK off (evV sl x).cells vs fun vs => setB c h id (.cells vs) fun h => k (.tup []) h else none
 | _ => none
def oNilc (x : XV) : XO := fun _ _ sl h k => match evV sl x with
 | .ptr id off => k (.ptr id off) h
 | .fn f cs => k (.fn f cs) h
 | _ => none
def ints (f : IntKind → Int → Int → H → Kont → Out) (x y : XV) : XO := fun _ _ sl h k => match evV sl x, evV sl y with
 | .int p a, .int q b => bif kindEq p q then f p a b h k else none
 | _, _ => none
def fAdd (p : IntKind) (a b : Int) (h : H) (k : Kont) : Out := intK p (Int.add a b) h k
def fSub (p : IntKind) (a b : Int) (h : H) (k : Kont) : Out := intK p (Int.sub a b) h k
def fMul (p : IntKind) (a b : Int) (h : H) (k : Kont) : Out := intK p (Int.mul a b) h k
def fQuo (p : IntKind) (a b : Int) (h : H) (k : Kont) : Out := bif eqI b 0 then none else intK p (Int.tdiv a b) h k
def fRem (p : IntKind) (a b : Int) (h : H) (k : Kont) : Out := bif eqI b 0 then none else intK p (Int.tmod a b) h k
def fLss (_ : IntKind) (a b : Int) (h : H) (k : Kont) : Out := boolK (ltI a b) h k
def fLeq (_ : IntKind) (a b : Int) (h : H) (k : Kont) : Out := boolK (!ltI b a) h k
def fGtr (_ : IntKind) (a b : Int) (h : H) (k : Kont) : Out := boolK (ltI b a) h k
def fGeq (_ : IntKind) (a b : Int) (h : H) (k : Kont) : Out := boolK (!ltI a b) h k
def oEql (eq : EqF) (neg : Bool) (x y : XV) : XO := fun _ _ sl h k => match eq (evV sl x) (evV sl y) with
 | some b => boolK (bne b neg) h k
 | none => none
def oCat (x y : XV) : XO := fun _ _ sl h k => match evV sl x, evV sl y with
 | .str a, .str b => bif Nat.blt (Nat.add (lenN a) (lenN b)) 10000000 then appK a b fun l => k (.str l) h else none
 | _, _ => none
def oScmp (f : List Nat → List Nat → Bool) (x y : XV) : XO := fun _ _ sl h k => match evV sl x, evV sl y with
 | .str a, .str b => boolK (f a b) h k
 | _, _ => none
def sLss (a b : List Nat) : Bool := ltL a b
def sLeq (a b : List Nat) : Bool := ltL a b || eqL a b
def sGtr (a b : List Nat) : Bool := !(ltL a b || eqL a b)
def sGeq (a b : List Nat) : Bool := !ltL a b
def oNilP (neg : Bool) (x : XV) : XO := fun _ _ sl h k => match evV sl x with
 | .nilp => k (.bool (!neg)) h
 | .ptr _ _ => k (.bool neg) h
 | _ => none
def oNilS (neg : Bool) (x : XV) : XO := fun _ _ sl h k => match evV sl x with
 | .nils => k (.bool (!neg)) h
 | .sl _ _ _ _ _ => k (.bool neg) h
 | _ => none
def oNilM (neg : Bool) (x : XV) : XO := fun _ _ sl h k => match evV sl x with
 | .nilm => k (.bool (!neg)) h
 | .mp _ => k (.bool neg) h
 | _ => none
def oNilF (neg : Bool) (x : XV) : XO := fun _ _ sl h k => match evV sl x with
 | .nilf => k (.bool (!neg)) h
 | .fn _ _ => k (.bool neg) h
 | _ => none
def oNilI (neg : Bool) (x : XV) : XO := fun _ _ sl h k => match evV sl x with
 | .nili => k (.bool (!neg)) h
 | .iface _ _ => k (.bool neg) h
 | _ => none
def oNot (x : XV) : XO := fun _ _ sl h k => match evV sl x with
 | .bool b => boolK (!b) h k
 | _ => none
def intW (p : IntKind) (n : Int) (h : H) (K : Kont) : Out := match p, n with
 | .u64, .negSucc m => bif Nat.ble m 18446744073709551615 then forceNat (Nat.sub 18446744073709551615 m) fun m => K (.int .u64 (.ofNat m)) h else none
 | p, n => intK p n h K
def oNeg (x : XV) : XO := fun _ _ sl h k => match evV sl x with
 | .int p n => intW p (Int.neg n) h k
 | _ => none
def oToInt (p : IntKind) (x : XV) : XO := fun _ _ sl h k => match evV sl x with
 | .int _ n => intW p n h k
 | _ => none
def oSame (x : XV) : XO := fun _ _ sl h k => match evV sl x with
 | .str s => k (.str s) h
 | _ => none
def oBytesStr (x : XV) : XO := fun c _ sl h k => match evV sl x with
 | .nils => k (.str []) h
 | .sl id off n _ _ => cellsAt c h id fun vs => dropK off vs fun vs => takeK n vs fun vs => bytesK vs fun bs => k (.str bs) h
 | _ => none
def oSlice (esz : Nat) (x : XV) (lo hi : Option XV) : XO := fun _ _ sl h k => match evV sl x with
 | .nils => match optNat sl 0 lo, optNat sl 0 hi with
  | some 0, some 0 => k .nils h
  | _, _ => none
 | .sl id off n es cap => match optNat sl 0 lo, optNat sl n hi with
  | some l, some u =>
   bif Nat.ble l u && Nat.ble u n && Nat.beq es esz then
    forceNat (Nat.add off (Nat.mul l esz)) fun o => forceNat (Nat.sub u l) fun m =>
     match cap with
     | none => k (.sl id o m es none) h
     | some cp => forceNat (Nat.sub cp l) fun cp => k (.sl id o m es (some cp)) h
   else none
  | _, _ => none
 | _ => none
def oSliceA (n esz : Nat) (x : XV) (lo hi : Option XV) : XO := fun c _ sl h k => match evV sl x with
 | .ptr id off => match optNat sl 0 lo, optNat sl n hi with
  | some l, some u => bif Nat.ble l u && Nat.ble u n then cellsAt c h id fun vs => bif Nat.ble (Nat.add off (Nat.mul n esz)) (lenN vs) then
    forceNat (Nat.add off (Nat.mul l esz)) fun o => forceNat (Nat.sub u l) fun m => forceNat (Nat.sub n l) fun cp => k (.sl id o m esz (some cp)) h else none
   else none
  | _, _ => none
 | _ => none
def oSliceS (x : XV) (lo hi : Option XV) : XO := fun _ _ sl h k => match evV sl x with
 | .str s => match optNat sl 0 lo, optNat sl (lenN s) hi with
  | some l, some u => bif Nat.ble l u && Nat.ble u (lenN s) then dropK l s fun s => takeK (Nat.sub u l) s fun bs => k (.str bs) h else none
  | _, _ => none
 | _ => none
def oFaddr (o : Nat) (x : XV) : XO := fun _ _ sl h k => match evV sl x with
 | .ptr id off => forceNat (Nat.add off o) fun o => k (.ptr id o) h
 | _ => none
def oFld1 (o : Nat) (x : XV) : XO := fun _ _ sl h k => match evV sl x with
 | .agg vs => match nth o vs with
  | some v => k v h
  | none => none
 | _ => none
def oFldN (n o : Nat) (x : XV) : XO := fun _ _ sl h k => match evV sl x with
 | .agg vs => dropK o vs fun vs => takeK n vs fun vs => k (.agg vs) h
 | _ => none
def oIaddr (esz : Nat) (x i : XV) : XO := fun _ _ sl h k => match evV sl x, asNat (evV sl i) with
 | .sl id off n _ _, some i => bif Nat.blt i n then forceNat (Nat.add off (Nat.mul i esz)) fun o => k (.ptr id o) h else none
 | _, _ => none
def oIdxS (x i : XV) : XO := fun _ _ sl h k => match evV sl x, asNat (evV sl i) with
 | .str s, some i => match nth i s with
  | some b => k (.int .u8 (.ofNat b)) h
  | none => none
 | _, _ => none
def lookOut (ok : Bool) (v : AV) (b : Bool) (h : H) (k : Kont) : Out := bif ok then k (.tup [v, .bool b]) h else k v h
def fitK (eq : EqF) (key : AV) (k : Unit → Out) : Out := match eq key key with
 | some true => k ()
 | _ => none
def oLookup (eq : EqF) (z : AV) (x key : XV) (ok : Bool) : XO := fun c _ sl h k => fitK eq (evV sl key) fun _ => match evV sl x with
 | .nilm => lookOut ok z false h k
 | .mp id => match getB c h id with
  | some (.map es _) => match findE eq (evV sl key) es 0 with
   | some (some (_, v)) => lookOut ok v true h k
   | some none => lookOut ok z false h k
   | none => none
  | _ => none
 | _ => none
def oMapup (eq : EqF) (m key v : XV) : XO := fun c _ sl h k => fitK eq (evV sl key) fun _ => match evV sl m with
 | .mp id => match getB c h id with
  | some (.map es clock) => match findE eq (evV sl key) es 0 with
   | some (some (i, _)) => setE (evV sl v) i es fun es => setB c h id (.map es clock) fun h => k (.tup []) h
   | some none => appK es [(evV sl key, evV sl v, clock)] fun es => forceNat (Nat.succ clock) fun clock => setB c h id (.map es clock) fun h => k (.tup []) h
   | none => none
  | _ => none
 | _ => none
def bornIdx (b : Nat) : List (AV × AV × Nat) → Nat → Option Nat
 | [], _ => none
 | e :: es, i => bif Nat.beq e.2.2 b then some i else bornIdx b es (Nat.succ i)
def oMapEntry (eq : EqF) (z : AV) (m key : XV) : XO := fun c _ sl h k => fitK eq (evV sl key) fun _ => match evV sl m with
 | .mp id => match getB c h id with
  | some (.map es clock) => match findE eq (evV sl key) es 0 with
   | some (some (i, v)) => match nth i es with
    | some e => setB c h id (.map es clock) fun h => k (.tup [v, .int .i64 (.ofNat e.2.2)]) h
    | none => none
   | some none => appK es [(evV sl key, z, clock)] fun es => forceNat (Nat.succ clock) fun clock' => setB c h id (.map es clock') fun h => k (.tup [z, .int .i64 (.ofNat clock)]) h
   | none => none
  | _ => none
 | _ => none
def setV (v : AV) : Nat → List (AV × AV × Nat) → (List (AV × AV × Nat) → Out) → Out
 | _, [], _ => none
 | 0, e :: es, k => k ((e.1, v, e.2.2) :: es)
 | i + 1, e :: es, k => setV v i es fun es => k (e :: es)
def oEntryStore (m s v : XV) : XO := fun c _ sl h k => match evV sl m, evV sl s with
 | .mp id, .int _ (.ofNat b) => match getB c h id with
  | some (.map es clock) => match bornIdx b es 0 with
   | some i => setV (evV sl v) i es fun es => setB c h id (.map es clock) fun h => k (.tup []) h
   | none => none
  | _ => none
 | _, _ => none
def oMkmap : XO := fun _ _ _ h k => newB h (.map [] 0) fun id h => k (.mp id) h
def oMkslice (z : List AV) (l cp : XV) : XO := fun _ _ sl h k => match asNat (evV sl l), asNat (evV sl cp) with
 | some l, some cp => bif Nat.ble l cp && Nat.blt cp 1000000 then repK cp z fun vs => newB h (.cells vs) fun id h => k (.sl id 0 l (lenN z) (some cp)) h else none
 | _, _ => none
def oExtr (x : XV) (i : Nat) : XO := fun _ _ sl h k => match evV sl x with
 | .tup vs => match nth i vs with
  | some v => k v h
  | none => none
 | _ => none
def oMkfn (f : Nat) (cs : List XV) : XO := fun _ _ sl h k => evVs sl cs fun cs => k (.fn f cs) h
def oMkfnB (f : Nat) (fs cs : List XV) : XO := fun _ _ sl h k => evVs sl fs fun fs => evVs sl cs fun cs => k (.fnb f fs cs) h
def oCap (x : XV) : XO := fun _ _ sl h k => match evV sl x with
 | .nils => k (.int .i64 (.ofNat 0)) h
 | .sl _ _ _ _ (some cp) => k (.int .i64 (.ofNat cp)) h
 | _ => none
def oLenS (x : XV) : XO := fun c _ sl h k => match evV sl x with
 | .str s => forceNat (lenN s) fun n => k (.int .i64 (.ofNat n)) h
 | _ => none
def oLenL (x : XV) : XO := fun c _ sl h k => match evV sl x with
 | .nils => k (.int .i64 (.ofNat 0)) h
 | .sl _ _ n _ _ => k (.int .i64 (.ofNat n)) h
 | .raw _ n _ => k (.int .i64 (.ofNat n)) h
 | _ => none
def oLenM (x : XV) : XO := fun c _ sl h k => match evV sl x with
 | .nilm => k (.int .i64 (.ofNat 0)) h
 | .mp id => match getB c h id with
  | some (.map es _) => forceNat (lenN es) fun n => k (.int .i64 (.ofNat n)) h
  | _ => none
 | _ => none
def srcK (c : C) (h : H) (esz : Nat) (x : AV) (k : Nat → List AV → Out) : Out := match x with
 | .nils => k 0 []
 | .sl id off n es _ => bif Nat.beq es esz then cellsAt c h id fun vs => dropK off vs fun vs => takeK (Nat.mul n esz) vs fun vs => k n vs else none
 | .raw _ n _ => bif Nat.beq n 0 then k 0 [] else none
 | _ => none
def sureGrow (cap : Option Nat) (m : Nat) : Bool := match cap with
 | some cp => Nat.blt cp m
 | none => false
def ontoK (c : C) (h : H) (esz : Nat) (s : AV) (n : Nat) (news : List AV) (k : Kont) : Out := match s with
 | .nils => bif Nat.beq n 0 then k .nils h else bif Nat.blt 1000000 n then none else newB h (.cells news) fun id h => k (.sl id 0 n esz none) h
 | .sl id off m es cap =>
  bif Nat.beq es esz then
   bif Nat.beq n 0 then k (.sl id off m es cap) h else
   cellsAt c h id fun vs => dropK off vs fun vs => takeK (Nat.mul m esz) vs fun vs => appK vs news fun vs => forceNat (Nat.add m n) fun m' => bif Nat.blt 1000000 m' then none else
    bif sureGrow cap m' then newB h (.cells vs) fun id' h => k (.sl id' 0 m' esz none) h
    else setB c h id .dead fun h => newB h (.cells vs) fun id' h => k (.sl id' 0 m' esz none) h
  else none
 | _ => none
def oAppend (esz : Nat) (s x : XV) : XO := fun c _ sl h k => srcK c h esz (evV sl x) fun n news => bif ones news then ontoK c h esz (evV sl s) n news k else none
def oAppendZ (esz : Nat) (z : List AV) (s x : XV) : XO := fun c _ sl h k => match evV sl s, evV sl x with
 | .nils, .int .i64 (.ofNat n) => bif Nat.blt 0 esz && (Nat.blt 0 n && Nat.blt n 1000000) then repK n z fun news => newB h (.cells news) fun id h => k (.sl id 0 n esz none) h else none
 | _, _ => none
def oCall (f : XV) (args : List XV) : XO := fun c call sl h k => match evV sl f with
 | .fnb f first caps => evVs sl args fun vs => appK vs caps fun vs => appK first vs fun vs => match call (.fn f) vs c h with
  | some (v, h) => k v h
  | none => none
 | .fn f caps => evVs sl args fun vs => appK vs caps fun vs => match call (.fn f) vs c h with
  | some (v, h) => k v h
  | none => none
 | .yld id => evVs sl args fun vs => match call (.yld id) vs c h with
  | some (v, h) => k v h
  | none => none
 | _ => none
def oMkif (t : Nat) (x : XV) : XO := fun _ _ sl h k => k (.iface t (evV sl x)) h
def oInvoke (res : Nat → Option Nat) (x : XV) (args : List XV) : XO := fun c call sl h k => match evV sl x with
 | .iface t v => match res t with
  | some f => evVs sl args fun vs => match call (.fn f) (v :: vs) c h with
   | some (v, h) => k v h
   | none => none
  | none => none
 | _ => none
def fMax (p : IntKind) (a b : Int) (h : H) (k : Kont) : Out := bif ltI a b then k (.int p b) h else k (.int p a) h
def fMin (p : IntKind) (a b : Int) (h : H) (k : Kont) : Out := bif ltI b a then k (.int p b) h else k (.int p a) h
def onNat (f : Nat → Nat → Nat) (p : IntKind) (a b : Int) (h : H) (k : Kont) : Out := match a, b with
 | .ofNat m, .ofNat n => bif inR p (.ofNat m) && inR p (.ofNat n) then intK p (.ofNat (f m n)) h k else none
 | _, _ => none
def ones64 : Nat := 18446744073709551615
def fAndNot (p : IntKind) (a b : Int) (h : H) (k : Kont) : Out := match p, a, b with
 | .u64, .ofNat m, .ofNat n => bif inR .u64 (.ofNat m) && inR .u64 (.ofNat n) then intK .u64 (.ofNat (Nat.land m (Nat.sub ones64 n))) h k else none
 | _, _, _ => none
def oShl (x y : XV) : XO := fun _ _ sl h k => match evV sl x, evV sl y with
 | .int p a, .int _ (.ofNat n) => bif Nat.ble n 63 && (kindEq p .u64 || kindEq p .i64) then intK p (Int.mul a (.ofNat (Nat.pow 2 n))) h k else none
 | _, _ => none
def oShr (x y : XV) : XO := fun _ _ sl h k => match evV sl x, evV sl y with
 | .int p (.ofNat m), .int _ (.ofNat n) => bif Nat.ble n 63 && (kindEq p .u64 || kindEq p .i64) then intK p (.ofNat (Nat.div m (Nat.pow 2 n))) h k else none
 | _, _ => none
def oIdx1 (n : Nat) (x i : XV) : XO := fun _ _ sl h k => match evV sl x, asNat (evV sl i) with
 | .agg vs, some i => bif Nat.blt i n then match nth i vs with
   | some v => k v h
   | none => none
  else none
 | _, _ => none
def oIaddrA (n esz : Nat) (x i : XV) : XO := fun _ _ sl h k => match evV sl x, asNat (evV sl i) with
 | .ptr id off, some i => bif Nat.blt i n then forceNat (Nat.add off (Nat.mul i esz)) fun o => k (.ptr id o) h else none
 | _, _ => none
def oMkmapH (x : XV) : XO := fun _ _ sl h k => match evV sl x with
 | .int _ _ => newB h (.map [] 0) fun id h => k (.mp id) h
 | _ => none
def capOk (cap : Option Nat) (n m : Nat) : Bool := match cap with
 | some cp => Nat.ble m cp
 | none => Nat.ble m n
def oSlice3 (esz : Nat) (x : XV) (lo hi mx : Option XV) : XO := fun _ _ sl h k => match evV sl x with
 | .sl id off n es cap => match optNat sl 0 lo, optNat sl n hi, optNat sl 0 mx with
  | some l, some u, some m =>
   bif Nat.ble l u && Nat.ble u n && Nat.ble u m && capOk cap n m && Nat.beq es esz then
    forceNat (Nat.add off (Nat.mul l esz)) fun o => forceNat (Nat.sub u l) fun w => forceNat (Nat.sub m l) fun cp => k (.sl id o w es (some cp)) h
   else none
  | _, _, _ => none
 | _ => none
def minN (a b : Nat) : Nat := bif Nat.ble a b then a else b
def oCopy (esz : Nat) (d s : XV) : XO := fun c _ sl h k => match evV sl d, evV sl s with
 | .sl id off n es _, .sl id' off' n' es' _ => bif Nat.beq es esz && Nat.beq es' esz then
   forceNat (minN n' n) fun q => bif Nat.beq q 0 then k (.int .i64 (.ofNat 0)) h else
   cellsAt c h id' fun vs' => dropK off' vs' fun vs' => takeK (Nat.mul q esz) vs' fun news => bif ones news then
    cellsAt c h id fun vs => spliceK off news vs fun vs => setB c h id (.cells vs) fun h => k (.int .i64 (.ofNat q)) h else none
  else none
 | .sl _ _ _ _ _, .nils => k (.int .i64 (.ofNat 0)) h
 | .nils, .sl _ _ _ _ _ => k (.int .i64 (.ofNat 0)) h
 | .nils, .nils => k (.int .i64 (.ofNat 0)) h
 | _, _ => none
def oClear (esz : Nat) (z : List AV) (x : XV) : XO := fun c _ sl h k => match evV sl x with
 | .nils => k (.tup []) h
 | .sl id off n es _ => bif Nat.beq es esz then bif Nat.beq n 0 then k (.tup []) h else
   repK n z fun news => bif ones news then cellsAt c h id fun vs => spliceK off news vs fun vs => setB c h id (.cells vs) fun h => k (.tup []) h else none
  else none
 | _ => none
def oRange (x : XV) : XO := fun c _ sl h k => match evV sl x with
 | .nilm => newB h (.iter none 0 [] 0) fun id h => k (.ptr id 0) h
 | .mp m => match getB c h m with
  | some (.map _ clock) => newB h (.iter (some m) clock [] clock) fun id h => k (.ptr id 0) h
  | _ => none
 | _ => none
def oNext (x : XV) : XO := fun c _ sl h k => match evV sl x with
 | .ptr id 0 => match getB c h id with
  | some (.iter none _ _ _) => k (.tup [.bool false]) h
  | some (.iter (some m) since seen last) => match getB c h m with
   | some (.map es clock) => match es with
    | [] => k (.tup [.bool false]) h
    | [e] => match seen with
     | [] => bif Nat.blt e.2.2 since then setB c h id (.iter (some m) since [e.2.2] clock) fun h => k (.tup [.bool true, e.1, e.2.1]) h else none
     | [b] => bif Nat.beq b e.2.2 && Nat.blt e.2.2 last then k (.tup [.bool false]) h else none
     | _ => none
    | _ => none
   | _ => none
  | _ => none
 | _ => none
def bornE (b : Nat) : List (AV × AV × Nat) → Option (AV × AV)
 | [] => none
 | e :: es => bif Nat.beq e.2.2 b then some (e.1, e.2.1) else bornE b es
def lastL : List Nat → Option Nat
 | [] => none
 | x :: l => match l with
  | [] => some x
  | _ :: _ => lastL l
def entryK (c : C) (h : H) (m stepped b : Nat) (k : Kont) : Out := match getB c h m with
 | some (.map es clock) => bif Nat.beq clock stepped then match bornE b es with
   | some p => k (.tup [p.1, p.2]) h
   | none => none
  else none
 | _ => none
def oEntry (x : XV) : XO := fun c _ sl h k => match evV sl x with
 | .ptr id 0 => match getB c h id with
  | some (.iter (some m) _ seen stepped) => match lastL seen with
   | some b => entryK c h m stepped b k
   | none => none
  | some (.iterL m _ b stepped _) => entryK c h m stepped b k
  | _ => none
 | _ => none
def oBad : XO := fun _ _ _ _ _ => none
structure XR where
 dst : Option Nat
 op : XO
 guard : Option (Nat × Bool)
 preds : Nat
 mem : Bool
 bar : Bool
 foot : Option XV
inductive XC where
 | skip
 | reg (ops : List XR)
 | dreg (ops : List XR)
 | seq (a b : XC)
 | cond (c : XV) (a b : XC)
 | block (id : Nat) (b : XC)
 | loop (b : XC)
 | rng (x t u id : Nat) (b : XC)
 | rf (f : XV) (ps : List Nat) (assign body : Code)
 | exit (id : Nat)
 | ret
 | bad
structure XF where
 nt : Nat
 res : List (Nat × Option (Option Nat))
 body : XC
inductive XT where
 | fn (x : XF)
 | ext (g : List AV → Option AV)
def idxB (c : Nat) : List Nat → Nat → Int
 | [], _ => .negSucc 0
 | b :: bs, i => bif Nat.beq b c then .ofNat i else idxB c bs (Nat.succ i)
def wants (sl : Tr AV) : Option (Nat × Bool) → Bool
 | none => true
 | some (t, w) => match slot sl t with
  | .bool b => b == w
  | _ => false
def okG : AV → Bool
 | .var _ | .top => false
 | _ => true
def okW (sl : Tr AV) : Option (Nat × Bool) → Bool
 | none => true
 | some (t, _) => okG (slot sl t)
def putK {R : Type} (nt : Nat) (sl : Tr AV) (d : Option Nat) (v : AV) (k : Tr AV → Option R) : Option R :=
 match d with
 | none => k sl
 | some d => bif Nat.blt d nt then Tr.setK depth sl d v k else none
def evReg (c : C) (call : Caller) (nt : Nat) : List XR → Tr AV → H → Option (Tr AV × H)
 | [], sl, h => some (sl, h)
 | o :: ops, sl, h =>
  bif wants sl o.guard then o.op c call sl h fun v h => putK nt sl o.dst v fun sl => evReg c call nt ops sl h
  else bif okW sl o.guard then putK nt sl o.dst (.tup []) fun sl => evReg c call nt ops sl h else none
def visOf (preds : Nat) (base : List (Nat × Nat)) : List (Nat × Nat × Nat) → List (Nat × Nat)
 | [] => base
 | r :: rs => bif Nat.testBit preds r.1 then (r.2.1, r.2.2) :: visOf preds base rs else visOf preds base rs
def big : Nat := 1000000000000
def cutBase (n : Nat) : List (Nat × Nat) → List (Nat × Nat)
 | [] => []
 | r :: rs => bif Nat.ble n r.1 then cutBase n rs else bif Nat.ble r.2 n then r :: cutBase n rs else (r.1, n) :: cutBase n rs
def footId : AV → Option Nat
 | .ptr id _ => some id
 | .sl id _ _ _ _ => some id
 | .mp id => some id
 | _ => none
def unchB (preds A : Nat) : List (Nat × Tr AB × Tr AB) → Bool
 | [] => true
 | b :: bs => (Nat.testBit preds b.1 || eqOB (Tr.get b.2.1 A) (Tr.get b.2.2 A)) && unchB preds A bs
def unchF (preds : Nat) (t t' : Tr AB) : List (Nat × Nat) → Bool
 | [] => true
 | f :: fs => (Nat.testBit preds f.1 || eqOB (Tr.get t f.2) (Tr.get t' f.2)) && unchF preds t t' fs
def addR (i n n' : Nat) (rs : List (Nat × Nat × Nat)) : List (Nat × Nat × Nat) := bif Nat.beq n n' then rs else (i, n, n') :: rs
def evDreg (c : C) (call : Caller) (nt : Nat) (base : List (Nat × Nat)) : List XR → Nat → List (Nat × Nat × Nat) → List (Nat × Tr AB × Tr AB) → List (Nat × Nat) → Tr AV → H → Option (Tr AV × H)
 | [], _, _, _, _, sl, h => some (sl, h)
 | o :: ops, i, rs, bs, fs, sl, h =>
  bif wants sl o.guard then
   match o.foot with
   | some x => match footId (evV sl x) with
    | some A => bif seen ((h.n, big) :: visOf o.preds base rs) A && unchB o.preds A bs then
      o.op ⟨h.n, [(h.n, big), (A, Nat.succ A)]⟩ call sl h fun v h' => putK nt sl o.dst v fun sl => evDreg c call nt base ops (Nat.succ i) (addR i h.n h'.n rs) bs ((i, A) :: fs) sl h'
     else none
    | none => o.op ⟨h.n, [(h.n, big)]⟩ call sl h fun v h' => putK nt sl o.dst v fun sl => evDreg c call nt base ops (Nat.succ i) (addR i h.n h'.n rs) bs fs sl h'
   | none =>
    bif o.mem then
     bif o.bar then
      o.op ⟨c.floor, (h.n, big) :: visOf o.preds base rs⟩ call sl h fun v h' => bif unchF o.preds h.t h'.t fs then putK nt sl o.dst v fun sl => evDreg c call nt base ops (Nat.succ i) (addR i h.n h'.n rs) ((i, h.t, h'.t) :: bs) fs sl h' else none
     else
      o.op ⟨h.n, (h.n, big) :: visOf o.preds base rs⟩ call sl h fun v h' => putK nt sl o.dst v fun sl => evDreg c call nt base ops (Nat.succ i) (addR i h.n h'.n rs) bs fs sl h'
    else
     o.op ⟨h.n, [(h.n, big)]⟩ call sl h fun v h' => putK nt sl o.dst v fun sl => evDreg c call nt base ops (Nat.succ i) (addR i h.n h'.n rs) bs fs sl h'
  else bif okW sl o.guard then putK nt sl o.dst (.tup []) fun sl => evDreg c call nt base ops (Nat.succ i) rs bs fs sl h else none
inductive Task where
 | code (nt : Nat) (rd : Bool) (x : XC) (sl : Tr AV) (ds : List Nat)
 | call (f : Cee) (args : List AV)
inductive Res where
 | bad
 | code (e : Ex) (sl : Tr AV) (ds : List Nat) (h : H)
 | call (v : AV) (h : H)
def resOf (c : C) (h : H) (sl : Tr AV) : List (Nat × Option (Option Nat)) → (List AV → Res) → Res
 | [], k => k []
 | r :: rs, k =>
  match r.2 with
  | none => resOf c h sl rs fun vs => k (slot sl r.1 :: vs)
  | some n => match slot sl r.1 with
   | .ptr id off => match getB c h id with
    | some (.cells vs) => match n with
     | none => match nth off vs with
      | some v => resOf c h sl rs fun vs => k (v :: vs)
      | none => .bad
     | some n => match dropK off vs fun vs => takeK n vs fun vs => some vs with
      | some cs => resOf c h sl rs fun vs => k (.agg cs :: vs)
      | none => .bad
    | _ => .bad
   | _ => .bad
def slotsOf : List AV → Nat → Tr AV → (Tr AV → Res) → Res
 | [], _, sl, k => k sl
 | v :: vs, i, sl, k => Tr.setK depth sl i v fun sl => slotsOf vs (Nat.succ i) sl k
abbrev Runner := C → Task → H → Res
def callOf (ih : Runner) : Caller := fun f args c h => match ih c (.call f args) h with
 | .call v h => some (v, h)
 | _ => none
def outRes (ds : List Nat) : Out → Res
 | some (sl, h) => .code .normal sl ds h
 | none => .bad
def seqRes (ih : Runner) (c : C) (nt : Nat) (rd : Bool) (b : XC) : Res → Res
 | .code .normal sl ds h => ih c (.code nt rd b sl ds) h
 | r => r
def blockRes (id : Nat) : Res → Res
 | .code (.exit id') sl ds h => bif Nat.beq id' id then .code .normal sl ds h else .code (.exit id') sl ds h
 | r => r
def condRes (ih : Runner) (c : C) (nt : Nat) (rd : Bool) (a b : XC) (sl : Tr AV) (ds : List Nat) (h : H) : AV → Res
 | .bool true => ih c (.code nt rd a sl ds) h
 | .bool false => ih c (.code nt rd b sl ds) h
 | _ => .bad
def thenR (r : Option Res) : Res := match r with | some r => r | none => .bad
def rfEnd (c : C) (l d : Nat) (sl : Tr AV) (ds : List Nat) (h : H) : Res :=
 match getB c h l with
 | some (.loop st pend _ _ _ _ _ _) => bif Nat.beq st 2 then .bad else thenR (setB c h l .dead fun h => some (match pend with
  | none => .code .normal sl (d :: ds) h
  | some e => .code e sl (d :: ds) h))
 | _ => .bad
def rfRes (ih : Runner) (c : C) (nt : Nat) (ps : List Nat) (assign body : Code) (sl : Tr AV) (ds : List Nat) (h : H) : AV → Res
 | .fn f caps => thenR (newB h .defd fun d h => newB h (.loop 0 none nt sl ps assign body d) fun l h =>
   some (match ih c (.call (.fnB f) (.yld l :: caps)) h with
   | .call _ h => rfEnd c l d sl ds h
   | _ => .bad))
 | _ => .bad
/-! a range over a map whose rounds do not meddle with each other -/
structure Own where
 id : Nat
 i : Nat
 v : Nat
 b : Nat
 fin : AV
def mapC (f : Nat → AV → AV) : Nat → List AV → List AV
 | _, [] => []
 | i, x :: xs => f i x :: mapC f (Nat.succ i) xs
def gB (f : Nat → Nat → AV → AV) (id : Nat) : AB → AB
 | .cells vs => .cells (mapC (f id) 0 vs)
 | b => b
def roundS {R : Type} (t u : Nat) (e : AV × AV × Nat) (sl : Tr AV) (k : Tr AV → R) : R :=
 Tr.setK depth sl t (.tup [.bool true, e.1, e.2.1]) fun sl => Tr.setK depth sl u (.bool true) k
def bornLt (n : Nat) : List (AV × AV × Nat) → Bool
 | [] => true
 | e :: es => Nat.blt e.2.2 n && bornLt n es
def stepC (ih : Runner) (c : C) (nt : Nat) (rd : Bool) (x : XC) (sl : Tr AV) (ds : List Nat) (h : H) : Res :=
 match x with
 | .skip => .code .normal sl ds h
 | .reg ops => outRes ds (evReg c (callOf ih) nt ops sl h)
 | .dreg ops => outRes ds (evDreg c (callOf ih) nt (cutBase h.n c.vis) ops 0 [] [] [] sl h)
 | .seq a b => seqRes ih c nt rd b (ih c (.code nt rd a sl ds) h)
 | .cond v a b => condRes ih c nt rd a b sl ds h (evV sl v)
 | .block id b => blockRes id (ih c (.code nt rd b sl ds) h)
 | .loop b => seqRes ih c nt rd (.loop b) (ih c (.code nt rd b sl ds) h)
 | .rng x t u id b => seqRes ih c nt rd (.rng x t u id b) (ih c (.code nt rd b sl ds) h)
 | .rf f ps assign body => match rd with
  | false => rfRes ih c nt ps assign body sl ds h (evV sl f)
  | true => .bad
 | .exit id => .code (.exit id) sl ds h
 | .ret => .code .ret sl ds h
 | .bad => .bad
def retRes (h : H) : List AV → Res
 | [v] => .call v h
 | vs => .call (.tup vs) h
def shutD (c : C) : List Nat → H → (H → Res) → Res
 | [], h, k => k h
 | d :: ds, h, k => match getB c h d with
  | some .defd => thenR (setB c h d .dead fun h => some (shutD c ds h k))
  | _ => .bad
def endRes (c : C) (rs : List (Nat × Option (Option Nat))) : Res → Res
 | .code (.exit _) _ _ _ => .bad
 | .code _ sl ds h => shutD c ds h fun h => resOf c h sl rs fun vs => retRes h vs
 | _ => .bad
def stepF (ih : Runner) (c : C) (args : List AV) (h : H) : Option XT → Res
 | none => .bad
 | some (.ext g) => match g args with
  | some v => .call v h
  | none => .bad
 | some (.fn fn) => bif Nat.ble (lenN args) fn.nt then slotsOf args 0 .nil fun sl => endRes c fn.res (ih c (.code fn.nt false fn.body sl []) h) else .bad
def putPs (nt : Nat) : List Nat → List AV → Tr AV → (Tr AV → Res) → Res
 | [], [], sl, k => k sl
 | p :: ps, v :: vs, sl, k => bif Nat.blt p nt then Tr.setK depth sl p v fun sl => putPs nt ps vs sl k else .bad
 | _, _, _, _ => .bad
def roundEnd (c : C) (id : Nat) (e : Ex) (h : H) : Res := match getB c h id with
 | some (.loop _ _ nt sl ps assign body d) => thenR (match e with
  | .normal => setB c h id (.loop 0 none nt sl ps assign body d) fun h => some (.call (.bool true) h)
  | e => setB c h id (.loop 1 (some e) nt sl ps assign body d) fun h => some (.call (.bool false) h))
 | _ => .bad
def roundBody (comp : Code → XC) (ih : Runner) (c : C) (id nt : Nat) (body : Code) (sl : Tr AV) (h : H) : Res := match getB c h id with
 | some (.loop 0 pend nt' sl' ps' assign' body' d') => thenR (setB c h id (.loop 2 pend nt' sl' ps' assign' body' d') fun h => some (match ih c (.code nt true (comp body) sl []) h with
  | .code e _ [] h => roundEnd c id e h
  | _ => .bad))
 | _ => .bad
def stepY (comp : Code → XC) (ih : Runner) (c : C) (id : Nat) (args : List AV) (h : H) : Res := match getB c h id with
 | some (.loop _ _ nt sl ps assign body _) => bif Nat.ble nt 1000000 then putPs nt ps args sl fun sl => match ih c (.code nt true (comp assign) sl []) h with
  | .code .normal sl [] h => roundBody comp ih c id nt body sl h
  | _ => .bad
  else .bad
 | _ => .bad
structure Memo where
 f : Nat
 args : List AV
 c : C
 h : H
 v : AV
 h' : H
abbrev Mf := Nat → List AV → C → H → Option (AV × H)
def noM : Mf := fun _ _ _ _ => none
def step (comp : Code → XC) (tbl : Nat → Option XT) (M : Mf) (ih : Runner) (c : C) (t : Task) (h : H) : Res :=
 match t with
 | .code nt rd x sl ds => stepC ih c nt rd x sl ds h
 | .call (.fn f) args => match M f args c h with
  | some r => .call r.1 r.2
  | none => stepF ih c args h (tbl f)
 | .call (.fnB f) args => match tbl f with
  | some (.fn x) => stepF ih c args h (some (.fn x))
  | _ => .bad
 | .call (.yld id) args => stepY comp ih c id args h
def ev (comp : Code → XC) (tbl : Nat → Option XT) (M : Mf) : Nat → C → Task → H → Res
 | 0, _, _, _ => .bad
 | n + 1, c, t, h => step comp tbl M (ev comp tbl M n) c t h
def mkT : List (Nat × AB) → Tr AB
 | [] => .nil
 | p :: ps => Tr.setK depth (mkT ps) p.1 p.2 id
def subT (t : Tr AB) : List (Nat × AB) → Bool
 | [] => true
 | p :: ps => eqOB (Tr.get t p.1) (some p.2) && Nat.blt p.1 10000000 && subT t ps
end Go.Proofs.YtmdceifbbmnfgaaGreatDoor.Ev