/- CoverStates, part 1 -/
import Derived.Orders
set_option linter.all false
namespace Go.Proofs.YtgaihilgffficaaGreatDoor.Ev
theorem om {p : Prop} (h : p := by omega) : p := h
theorem am {p : Prop} (h : p := by assumption) : p := h
theorem dc {p : Prop} (h : p := by decide) : p := h
theorem fh {p : Nat → Prop} : ∀ i, i < 0 → p i := fun _ hi => absurd hi (by omega)
open Go
/-! values -/
inductive AV where
 | bool (b : Bool)
 | int (k : IntKind) (n : Int)
 | str (s : List Nat)
 | gA
 | ptr (id off : Nat)
 | aO
 | sl (id off len esz : Nat) (cap : Option Nat)
 | eU
 | mp (id : Nat)
 | jN
 | fn (f : Nat) (caps : List AV)
 | KC (f : Nat) (first caps : List AV)
 | wy
 | iface (t : Nat) (v : AV)
 | B0 (id : Nat)
 | agg (vs : List AV)
 | bO (vs : List AV)
 | raw (oa : Option Addr) (n cp : Nat)
 | var (id : Nat)
 | top
 deriving Inhabited
/-! tries -/
inductive D4 where
 | x0 | x1 | x2 | x3
 deriving DecidableEq
inductive O4 (β : Type) where
 | nil
 | node (a b c d : β)
abbrev T1 (α : Type) := O4 (Option α)
abbrev T2 (α : Type) := O4 (T1 α)
abbrev T3 (α : Type) := O4 (T2 α)
abbrev T4 (α : Type) := O4 (T3 α)
abbrev T5 (α : Type) := O4 (T4 α)
abbrev T6 (α : Type) := O4 (T5 α)
abbrev T7 (α : Type) := O4 (T6 α)
abbrev T8 (α : Type) := O4 (T7 α)
abbrev T9 (α : Type) := O4 (T8 α)
abbrev KD (α : Type) := O4 (T9 α)
abbrev KE (α : Type) := O4 (KD α)
abbrev HS (α : Type) := O4 (KE α)
structure Tr (α : Type) where
 a : T3 α
 b : T5 α
 c : T7 α
 d : HS α
 e : List (Nat × α)
inductive Ex where
 | normal
 | exit (id : Nat)
 | ret
inductive AB where
 | cells (vs : List AV)
 | map (es : List (AV × AV × Nat)) (clock : Nat)
 | iter (m : Option Nat) (since : Nat) (seen : List Nat) (last : Nat)
 | A2 (m since b stepped v : Nat)
 | Ru (T : Nat) (s : List Nat) (j : Option Nat)
 | Rv (e : Nat) (s : List Nat)
 | ND (m : Nat)
 | KF
 | loop (st : Nat) (pend : Option Ex) (nt : Nat) (sl : Tr AV) (ps : List Nat) (assign body : Code) (d : Nat)
 | dead
 deriving Inhabited
def AV.cells : AV → List AV
 | .agg vs => vs
 | v => [v]
/-! strictness -/
def cu {β : Type} (n : Nat) (k : Nat → β) : β := match n with
 | 0 => k 0
 | m + 1 => k (Nat.succ m)
def lY {β : Type} (n : Int) (k : Int → β) : β :=
 match n with
 | .ofNat m => cu m fun m => k (.ofNat m)
 | .negSucc m => cu m fun m => k (.negSucc m)
def w7 {β : Type} (b : Bool) (k : Bool → β) : β := match b with
 | false => k false
 | true => k true
/-! tries -/
def Tr.nil {α : Type} : Tr α := ⟨.nil, .nil, .nil, .nil, []⟩
def P3 {α : Type} : List (Nat × α) → Nat → Option α
 | [], _ => none
 | p :: ps, i => bif Nat.beq p.1 i then some p.2 else P3 ps i
def d4 (n : Nat) : D4 := Nat.casesOn (motive := fun _ => D4) (Nat.mod n 4) .x0 fun n => Nat.casesOn (motive := fun _ => D4) n .x1 fun n => Nat.casesOn (motive := fun _ => D4) n .x2 fun _ => .x3
def mh {β : Type} (a b c d : β) (x : D4) : β := D4.casesOn (motive := fun _ => β) x a b c d
def nD {β : Type} (z : β) (t : O4 β) (x : D4) : β := O4.casesOn (motive := fun _ => β) t z fun a b c d => mh a b c d x
def SF {α : Type} (t : T1 α) (i : Nat) : Option α := nD none t (d4 i)
def Rw {α : Type} (t : T2 α) (i : Nat) : Option α := SF (nD .nil t (d4 (Nat.div i 4))) i
def Pj {α : Type} (t : T3 α) (i : Nat) : Option α := Rw (nD .nil t (d4 (Nat.div i 16))) i
def Rx {α : Type} (t : T4 α) (i : Nat) : Option α := Pj (nD .nil t (d4 (Nat.div i 64))) i
def Pk {α : Type} (t : T5 α) (i : Nat) : Option α := Rx (nD .nil t (d4 (Nat.div i 256))) i
def Ry {α : Type} (t : T6 α) (i : Nat) : Option α := Pk (nD .nil t (d4 (Nat.div i 1024))) i
def Pl {α : Type} (t : T7 α) (i : Nat) : Option α := Ry (nD .nil t (d4 (Nat.div i 4096))) i
def Rz {α : Type} (t : T8 α) (i : Nat) : Option α := Pl (nD .nil t (d4 (Nat.div i 16384))) i
def RA {α : Type} (t : T9 α) (i : Nat) : Option α := Rz (nD .nil t (d4 (Nat.div i 65536))) i
def NF {α : Type} (t : KD α) (i : Nat) : Option α := RA (nD .nil t (d4 (Nat.div i 262144))) i
def NG {α : Type} (t : KE α) (i : Nat) : Option α := NF (nD .nil t (d4 (Nat.div i 1048576))) i
def HT {α : Type} (t : HS α) (i : Nat) : Option α := NG (nD .nil t (d4 (Nat.div i 4194304))) i
def kp {β γ : Type} (a b c d : β) (x : D4) (v : β) (K : O4 β → γ) : γ := D4.casesOn (motive := fun _ => γ) x (K (.node v b c d)) (K (.node a v c d)) (K (.node a b v d)) (K (.node a b c v))
def P4 {α γ : Type} (t : T1 α) (i : Nat) (v : α) (K : T1 α → γ) : γ := O4.casesOn (motive := fun _ => γ) t (kp none none none none (d4 i) (some v) K) fun a b c d => kp a b c d (d4 i) (some v) K
def RC {α γ : Type} (a b c d : T1 α) (x : D4) (i : Nat) (v : α) (K : T2 α → γ) : γ := P4 (mh a b c d x) i v fun y => kp a b c d x y K
def P5 {α γ : Type} (t : T2 α) (i : Nat) (v : α) (K : T2 α → γ) : γ := O4.casesOn (motive := fun _ => γ) t (RC .nil .nil .nil .nil (d4 (Nat.div i 4)) i v K) fun a b c d => RC a b c d (d4 (Nat.div i 4)) i v K
def RD {α γ : Type} (a b c d : T2 α) (x : D4) (i : Nat) (v : α) (K : T3 α → γ) : γ := P5 (mh a b c d x) i v fun y => kp a b c d x y K
def P6 {α γ : Type} (t : T3 α) (i : Nat) (v : α) (K : T3 α → γ) : γ := O4.casesOn (motive := fun _ => γ) t (RD .nil .nil .nil .nil (d4 (Nat.div i 16)) i v K) fun a b c d => RD a b c d (d4 (Nat.div i 16)) i v K
def RF {α γ : Type} (a b c d : T3 α) (x : D4) (i : Nat) (v : α) (K : T4 α → γ) : γ := P6 (mh a b c d x) i v fun y => kp a b c d x y K
def RG {α γ : Type} (t : T4 α) (i : Nat) (v : α) (K : T4 α → γ) : γ := O4.casesOn (motive := fun _ => γ) t (RF .nil .nil .nil .nil (d4 (Nat.div i 64)) i v K) fun a b c d => RF a b c d (d4 (Nat.div i 64)) i v K
def RH {α γ : Type} (a b c d : T4 α) (x : D4) (i : Nat) (v : α) (K : T5 α → γ) : γ := RG (mh a b c d x) i v fun y => kp a b c d x y K
def P7 {α γ : Type} (t : T5 α) (i : Nat) (v : α) (K : T5 α → γ) : γ := O4.casesOn (motive := fun _ => γ) t (RH .nil .nil .nil .nil (d4 (Nat.div i 256)) i v K) fun a b c d => RH a b c d (d4 (Nat.div i 256)) i v K
def RI {α γ : Type} (a b c d : T5 α) (x : D4) (i : Nat) (v : α) (K : T6 α → γ) : γ := P7 (mh a b c d x) i v fun y => kp a b c d x y K
def RJ {α γ : Type} (t : T6 α) (i : Nat) (v : α) (K : T6 α → γ) : γ := O4.casesOn (motive := fun _ => γ) t (RI .nil .nil .nil .nil (d4 (Nat.div i 1024)) i v K) fun a b c d => RI a b c d (d4 (Nat.div i 1024)) i v K
def RK {α γ : Type} (a b c d : T6 α) (x : D4) (i : Nat) (v : α) (K : T7 α → γ) : γ := RJ (mh a b c d x) i v fun y => kp a b c d x y K
def P8 {α γ : Type} (t : T7 α) (i : Nat) (v : α) (K : T7 α → γ) : γ := O4.casesOn (motive := fun _ => γ) t (RK .nil .nil .nil .nil (d4 (Nat.div i 4096)) i v K) fun a b c d => RK a b c d (d4 (Nat.div i 4096)) i v K
def RL {α γ : Type} (a b c d : T7 α) (x : D4) (i : Nat) (v : α) (K : T8 α → γ) : γ := P8 (mh a b c d x) i v fun y => kp a b c d x y K
def RM {α γ : Type} (t : T8 α) (i : Nat) (v : α) (K : T8 α → γ) : γ := O4.casesOn (motive := fun _ => γ) t (RL .nil .nil .nil .nil (d4 (Nat.div i 16384)) i v K) fun a b c d => RL a b c d (d4 (Nat.div i 16384)) i v K
def RN {α γ : Type} (a b c d : T8 α) (x : D4) (i : Nat) (v : α) (K : T9 α → γ) : γ := RM (mh a b c d x) i v fun y => kp a b c d x y K
def RO {α γ : Type} (t : T9 α) (i : Nat) (v : α) (K : T9 α → γ) : γ := O4.casesOn (motive := fun _ => γ) t (RN .nil .nil .nil .nil (d4 (Nat.div i 65536)) i v K) fun a b c d => RN a b c d (d4 (Nat.div i 65536)) i v K
def NH {α γ : Type} (a b c d : T9 α) (x : D4) (i : Nat) (v : α) (K : KD α → γ) : γ := RO (mh a b c d x) i v fun y => kp a b c d x y K
def NI {α γ : Type} (t : KD α) (i : Nat) (v : α) (K : KD α → γ) : γ := O4.casesOn (motive := fun _ => γ) t (NH .nil .nil .nil .nil (d4 (Nat.div i 262144)) i v K) fun a b c d => NH a b c d (d4 (Nat.div i 262144)) i v K
def NJ {α γ : Type} (a b c d : KD α) (x : D4) (i : Nat) (v : α) (K : KE α → γ) : γ := NI (mh a b c d x) i v fun y => kp a b c d x y K
def NK {α γ : Type} (t : KE α) (i : Nat) (v : α) (K : KE α → γ) : γ := O4.casesOn (motive := fun _ => γ) t (NJ .nil .nil .nil .nil (d4 (Nat.div i 1048576)) i v K) fun a b c d => NJ a b c d (d4 (Nat.div i 1048576)) i v K
def NL {α γ : Type} (a b c d : KE α) (x : D4) (i : Nat) (v : α) (K : HS α → γ) : γ := NK (mh a b c d x) i v fun y => kp a b c d x y K
def KG {α γ : Type} (t : HS α) (i : Nat) (v : α) (K : HS α → γ) : γ := O4.casesOn (motive := fun _ => γ) t (NL .nil .nil .nil .nil (d4 (Nat.div i 4194304)) i v K) fun a b c d => NL a b c d (d4 (Nat.div i 4194304)) i v K
def Tr.P9 {α : Type} (t : Tr α) (i : Nat) : Option α := Bool.casesOn (motive := fun _ => Option α) (Nat.blt i 16384) (Bool.casesOn (motive := fun _ => Option α) (Nat.blt i 16777216) (P3 t.e i) (HT t.d i)) (Pl t.c i)
def Tr.Qa {α : Type} (t : Tr α) (i : Nat) : Option α := Bool.casesOn (motive := fun _ => Option α) (Nat.blt i 1024) (Tr.P9 t i) (Pk t.b i)
def Tr.get {α : Type} (t : Tr α) (i : Nat) : Option α := Bool.casesOn (motive := fun _ => Option α) (Nat.blt i 64) (Tr.Qa t i) (Pj t.a i)
def Tr.Qb {α γ : Type} (a : T3 α) (b : T5 α) (c : T7 α) (d : HS α) (e : List (Nat × α)) (i : Nat) (v : α) (K : Tr α → γ) : γ := Bool.casesOn (motive := fun _ => γ) (Nat.blt i 16384) (Bool.casesOn (motive := fun _ => γ) (Nat.blt i 16777216) (K ⟨a, b, c, d, (i, v) :: e⟩) (KG d i v fun d => K ⟨a, b, c, d, e⟩)) (P8 c i v fun c => K ⟨a, b, c, d, e⟩)
def Tr.Qd {α γ : Type} (a : T3 α) (b : T5 α) (c : T7 α) (d : HS α) (e : List (Nat × α)) (i : Nat) (v : α) (K : Tr α → γ) : γ := Bool.casesOn (motive := fun _ => γ) (Nat.blt i 1024) (Tr.Qb a b c d e i v K) (P7 b i v fun b => K ⟨a, b, c, d, e⟩)
def Tr.NM {α γ : Type} (a : T3 α) (b : T5 α) (c : T7 α) (d : HS α) (e : List (Nat × α)) (i : Nat) (v : α) (K : Tr α → γ) : γ := Bool.casesOn (motive := fun _ => γ) (Nat.blt i 64) (Tr.Qd a b c d e i v K) (P6 a i v fun a => K ⟨a, b, c, d, e⟩)
def Tr.wz {α γ : Type} (_ : Nat) (t : Tr α) (i : Nat) (v : α) (K : Tr α → γ) : γ := Tr.casesOn (motive := fun _ => γ) t fun a b c d e => Tr.NM a b c d e i v K
structure H where
 t : Tr AB
 n : Nat
structure C where
 floor : Nat
 cM : List (Nat × Nat)
def seen : List (Nat × Nat) → Nat → Bool
 | [], _ => false
 | r :: rs, id => bif Nat.ble r.1 id then Nat.blt id r.2 || Nat.beq r.2 0 else seen rs id
def cT (c : C) (h : H) (id : Nat) : Option AB := bif seen c.cM id then Tr.get h.t id else none
def depth : Nat := 40
def wA {R : Type} (c : C) (h : H) (id : Nat) (b : AB) (k : H → Option R) : Option R :=
 bif Nat.ble c.floor id && seen c.cM id then Tr.wz depth h.t id b fun t => k ⟨t, h.n⟩ else none
def pW {R : Type} (h : H) (b : AB) (k : Nat → H → Option R) : Option R :=
 Tr.wz depth h.t h.n b fun t => cu (Nat.succ h.n) fun n => k h.n ⟨t, n⟩
/-! lists -/
def gh {α R : Type} : Nat → List α → (List α → Option R) → Option R
 | 0, _, k => k []
 | n + 1, l, k => match l with
  | [] => none
  | x :: xs => gh n xs fun ys => k (x :: ys)
def jg {α R : Type} : Nat → List α → (List α → Option R) → Option R
 | 0, l, k => k l
 | n + 1, l, k => match l with
  | [] => none
  | _ :: xs => jg n xs k
def uN {R : Type} : List AV → List AV → (List AV → Option R) → Option R
 | [], l, k => k l
 | y :: news, l, k => match l with
  | [] => none
  | _ :: xs => uN news xs fun zs => k (y :: zs)
def fq {R : Type} : Nat → List AV → List AV → (List AV → Option R) → Option R
 | 0, news, l, k => uN news l k
 | n + 1, news, l, k => match l with
  | [] => none
  | x :: xs => fq n news xs fun ys => k (x :: ys)
def wB {α R : Type} : List α → List α → (List α → Option R) → Option R
 | [], ys, k => k ys
 | x :: xs, ys, k => wB xs ys fun zs => k (x :: zs)
def nth {α : Type} : Nat → List α → Option α
 | _, [] => none
 | 0, x :: _ => some x
 | n + 1, _ :: xs => nth n xs
def iG {α : Type} : List α → Nat
 | [] => 0
 | _ :: l => Nat.succ (iG l)
def GK : List Nat → List Nat → Bool
 | [], [] => true
 | a :: x, b :: y => bif Nat.beq a b then GK x y else false
 | _, _ => false
def JP : List Nat → List Nat → Bool
 | _, [] => false
 | [], _ :: _ => true
 | a :: x, b :: y => bif Nat.blt a b then true else bif Nat.beq a b then JP x y else false
def HU {R : Type} : Nat → List AV → (List AV → Option R) → Option R
 | 0, _, k => k []
 | n + 1, z, k => HU n z fun l => wB z l k
def HW {R : Type} : List AV → (List Nat → Option R) → Option R
 | [], k => k []
 | v :: vs, k => match v with
  | .int .u8 (.ofNat b) => bif Nat.ble b 255 then HW vs fun bs => k (b :: bs) else none
  | _ => none
/-! numbers -/
def w8 (k : IntKind) (n : Int) : Bool :=
 match k, n with
 | .i64, .ofNat m => Nat.ble m 9223372036854775807
 | .i64, .negSucc m => Nat.ble m 9223372036854775807
 | .i32, .ofNat m => Nat.ble m 2147483647
 | .i32, .negSucc m => Nat.ble m 2147483647
 | .u8, .ofNat m => Nat.ble m 255
 | .u16, .ofNat m => Nat.ble m 65535
 | .u32, .ofNat m => Nat.ble m 4294967295
 | .u64, .ofNat m => Nat.ble m 18446744073709551615
 | _, _ => false
def JR : Int → Int → Bool
 | .ofNat a, .ofNat b => Nat.beq a b
 | .negSucc a, .negSucc b => Nat.beq a b
 | _, _ => false
def GM : Int → Int → Bool
 | .ofNat a, .ofNat b => Nat.blt a b
 | .negSucc a, .negSucc b => Nat.blt b a
 | .negSucc _, .ofNat _ => true
 | .ofNat _, .negSucc _ => false
def fD (a b : IntKind) : Bool := decide (a = b)
def Dc {R : Type} (k : IntKind) (n : Int) (h : H) (K : AV → H → Option R) : Option R :=
 bif w8 k n then lY n fun n => K (.int k n) h else none
def fb {R : Type} (b : Bool) (h : H) (K : AV → H → Option R) : Option R := w7 b fun b => K (.bool b) h
abbrev iH := AV → AV → Option Bool
def r5 : iH := fun x y => match x, y with
 | .int k a, .int j b => bif fD k j then some (JR a b) else none
 | _, _ => none
def eqStr : iH := fun x y => match x, y with
 | .str a, .str b => some (GK a b)
 | _, _ => none
def HX : iH := fun x y => match x, y with
 | .bool a, .bool b => some (a == b)
 | _, _ => none
def fS : List iH → List AV → List AV → Option Bool
 | [], [], [] => some true
 | f :: fs, x :: xs, y :: ys => match f x y with
  | some true => fS fs xs ys
  | some false => some false
  | none => none
 | _, _, _ => none
def tc (fs : List iH) : iH := fun x y => match x, y with
 | .agg xs, .agg ys => fS fs xs ys
 | _, _ => none
/-! equality of blocks -/
def Fx : Option Nat → Option Nat → Bool
 | none, none => true
 | some a, some b => Nat.beq a b
 | _, _ => false
mutual
def de : AV → AV → Bool
 | .bool a, y => match y with | .bool b => a == b | _ => false
 | .int k a, y => match y with | .int j b => fD k j && JR a b | _ => false
 | .str a, y => match y with | .str b => GK a b | _ => false
 | .gA, y => match y with | .gA => true | _ => false
 | .ptr a b, y => match y with | .ptr a' b' => Nat.beq a a' && Nat.beq b b' | _ => false
 | .aO, y => match y with | .aO => true | _ => false
 | .sl a b c d e, y => match y with | .sl a' b' c' d' e' => Nat.beq a a' && Nat.beq b b' && Nat.beq c c' && Nat.beq d d' && Fx e e' | _ => false
 | .eU, y => match y with | .eU => true | _ => false
 | .mp a, y => match y with | .mp a' => Nat.beq a a' | _ => false
 | .jN, y => match y with | .jN => true | _ => false
 | .fn f cs, y => match y with | .fn f' cs' => Nat.beq f f' && jh cs cs' | _ => false
 | .KC f a b, y => match y with | .KC f' a' b' => Nat.beq f f' && jh a a' && jh b b' | _ => false
 | .wy, y => match y with | .wy => true | _ => false
 | .B0 a, y => match y with | .B0 a' => Nat.beq a a' | _ => false
 | .iface t v, y => match y with | .iface t' v' => Nat.beq t t' && de v v' | _ => false
 | .agg cs, y => match y with | .agg cs' => jh cs cs' | _ => false
 | .bO cs, y => match y with | .bO cs' => jh cs cs' | _ => false
 | .raw oa n cp, y => match y with | .raw oa' n' cp' => decide (oa = oa') && Nat.beq n n' && Nat.beq cp cp' | _ => false
 | .var a, y => match y with | .var a' => Nat.beq a a' | _ => false
 | .top, y => match y with | .top => true | _ => false
def jh : List AV → List AV → Bool
 | [], ys => match ys with | [] => true | _ => false
 | x :: xs, ys => match ys with | y :: ys => de x y && jh xs ys | [] => false
end
def Fy : List (AV × AV × Nat) → List (AV × AV × Nat) → Bool
 | [], [] => true
 | x :: xs, y :: ys => de x.1 y.1 && de x.2.1 y.2.1 && Nat.beq x.2.2 y.2.2 && Fy xs ys
 | _, _ => false
def HY : AB → AB → Bool
 | .cells a, .cells b => jh a b
 | .map a c, .map b d => Fy a b && Nat.beq c d
 | .iter a b c d, .iter a' b' c' d' => Fx a a' && Nat.beq b b' && GK c c' && Nat.beq d d'
 | .A2 a b c d e, .A2 a' b' c' d' e' => Nat.beq a a' && Nat.beq b b' && Nat.beq c c' && Nat.beq d d' && Nat.beq e e'
 | .dead, .dead => true
 | _, _ => false
def rf : Option AB → Option AB → Bool
 | none, none => true
 | some a, some b => HY a b
 | _, _ => false
/-! compiled code -/
inductive XV where
 | tmp (t : Nat)
 | const (v : AV)
 | Ar (g : Nat)
 deriving Inhabited
/-! evaluation -/
def slot (sl : Tr AV) (t : Nat) : AV := match Tr.get sl t with | some v => v | none => .bO []
def bR (sl : Tr AV) : XV → AV
 | .tmp t => slot sl t
 | .const v => v
 | .Ar g => .ptr g 0
def FA {R : Type} (sl : Tr AV) : List XV → (List AV → Option R) → Option R
 | [], k => k []
 | x :: xs, k => FA sl xs fun vs => k (bR sl x :: vs)
def A3 : AV → Bool
 | .top => false
 | _ => true
def kU {R : Type} (sl : Tr AV) : List (Nat × Nat × XV) → List AV → (List AV → Option R) → Option R
 | [], l, k => k l
 | p :: ps, l, k =>
  let cs := (bR sl p.2.2).cells
  bif Nat.beq (iG cs) p.2.1 && A3 (bR sl p.2.2) then fq p.1 cs l fun l => kU sl ps l k else none
def gD (eq : iH) (key : AV) : List (AV × AV × Nat) → Nat → Option (Option (Nat × AV))
 | [], _ => some none
 | e :: es, i => match eq key e.1 with
  | some true => some (some (i, e.2.1))
  | some false => gD eq key es (Nat.succ i)
  | none => none
def FB {R : Type} (v : AV) : Nat → List (AV × AV × Nat) → (List (AV × AV × Nat) → Option R) → Option R
 | _, [], _ => none
 | 0, e :: es, k => k ((e.1, v, e.2.2) :: es)
 | i + 1, e :: es, k => FB v i es fun es => k (e :: es)
def asNat : AV → Option Nat
 | .int _ (.ofNat n) => some n
 | _ => none
def cU (sl : Tr AV) (d : Nat) : Option XV → Option Nat
 | none => some d
 | some x => asNat (bR sl x)
inductive NN where
 | fn (f : Nat)
 | Kx (f : Nat)
 | B0 (id : Nat)
abbrev ez := NN → List AV → C → H → Option (AV × H)
abbrev Out := Option (Tr AV × H)
abbrev dH := AV → H → Out
abbrev XO := C → ez → Tr AV → H → dH → Out
def Q5 (x : XV) : XO := fun _ _ sl h k => k (bR sl x) h
def w9 (b x y : XV) : XO := fun _ _ sl h k => match bR sl b with
 | .bool true => k (bR sl x) h
 | .bool false => k (bR sl y) h
 | _ => none
def A4 (x : XV) : XO := fun _ _ sl h k => bif A3 (bR sl x) then pW h (.cells (bR sl x).cells) fun id h => k (.ptr id 0) h else none
def rh (z : List AV) (ps : List (Nat × Nat × XV)) : XO := fun _ _ sl h k => kU sl ps z fun l => k (.agg l) h
def pX (n : Nat) (z : List AV) (ps : List (Nat × Nat × XV)) : XO := fun _ _ sl h k => HU n z fun l => kU sl ps l fun l => pW h (.cells l) fun id h => k (.sl id 0 n (iG z) (some n)) h
def dD (c : C) (h : H) (id : Nat) (k : List AV → Out) : Out := match cT c h id with
 | some (.cells vs) => k vs
 | _ => none
def uO (x : XV) : XO := fun c _ sl h k => match bR sl x with
 | .ptr id off => dD c h id fun vs => match nth off vs with
  | some v => k v h
  | none => none
 | _ => none
def uP (n : Nat) (x : XV) : XO := fun c _ sl h k => match bR sl x with
 | .ptr id off => dD c h id fun vs => jg off vs fun vs => gh n vs fun vs => k (.agg vs) h
 | _ => none
def one : AV → Bool
 | .agg _ | .bO _ => false
 | .var _ | .top => false
 | _ => true
def cw : List AV → Bool
 | [] => true
 | v :: vs => bif one v then cw vs else false
def uQ (n : Nat) (a x : XV) : XO := fun c _ sl h k => match bR sl a with
 | .ptr id off => dD c h id fun vs =>
  bif Nat.beq (iG (bR sl x).cells) n && cw (bR sl x).cells then fq off (bR sl x).cells vs fun vs => wA c h id (.cells vs) fun h => k (.bO []) h else none
 | _ => none
def xa (x : XV) : XO := fun _ _ sl h k => match bR sl x with
 | .ptr id off => k (.ptr id off) h
 | .fn f cs => k (.fn f cs) h
 | _ => none
def ints (f : IntKind → Int → Int → H → dH → Out) (x y : XV) : XO := fun _ _ sl h k => match bR sl x, bR sl y with
 | .int p a, .int q b => bif fD p q then f p a b h k else none
 | _, _ => none
def yP (p : IntKind) (n : Int) (h : H) (K : dH) : Out := bif w8 p n then lY n fun n => K (.int p n) h else K (.int p (p.wrap n)) h
def HZ (p : IntKind) (a b : Int) (h : H) (k : dH) : Out := yP p (Int.add a b) h k
def H0 (p : IntKind) (a b : Int) (h : H) (k : dH) : Out := yP p (Int.sub a b) h k
def KH (p : IntKind) (a b : Int) (h : H) (k : dH) : Out := yP p (Int.mul a b) h k
def KI (p : IntKind) (a b : Int) (h : H) (k : dH) : Out := bif JR b 0 then none else Dc p (Int.tdiv a b) h k
def KJ (p : IntKind) (a b : Int) (h : H) (k : dH) : Out := bif JR b 0 then none else Dc p (Int.tmod a b) h k
def H2 (_ : IntKind) (a b : Int) (h : H) (k : dH) : Out := fb (GM a b) h k
def H3 (_ : IntKind) (a b : Int) (h : H) (k : dH) : Out := fb (!GM b a) h k
def H4 (_ : IntKind) (a b : Int) (h : H) (k : dH) : Out := fb (GM b a) h k
def H5 (_ : IntKind) (a b : Int) (h : H) (k : dH) : Out := fb (!GM a b) h k
def H6 (eq : iH) (neg : Bool) (x y : XV) : XO := fun _ _ sl h k => match eq (bR sl x) (bR sl y) with
 | some b => fb (bne b neg) h k
 | none => none
def RP (x y : XV) : XO := fun _ _ sl h k => match bR sl x, bR sl y with
 | .str a, .str b => bif Nat.blt (Nat.add (iG a) (iG b)) 10000000 then wB a b fun l => k (.str l) h else none
 | _, _ => none
def r6 (f : List Nat → List Nat → Bool) (x y : XV) : XO := fun _ _ sl h k => match bR sl x, bR sl y with
 | .str a, .str b => fb (f a b) h k
 | _, _ => none
def KK (a b : List Nat) : Bool := JP a b
def RQ (a b : List Nat) : Bool := JP a b || GK a b
def KL (a b : List Nat) : Bool := !(JP a b || GK a b)
def KM (a b : List Nat) : Bool := !JP a b
def Ec (neg : Bool) (x : XV) : XO := fun _ _ sl h k => match bR sl x with
 | .gA => k (.bool (!neg)) h
 | .ptr _ _ => k (.bool neg) h
 | _ => none
def pY (neg : Bool) (x : XV) : XO := fun _ _ sl h k => match bR sl x with
 | .aO => k (.bool (!neg)) h
 | .sl _ _ _ _ _ => k (.bool neg) h
 | .raw none _ _ => k (.bool (!neg)) h
 | .raw (some _) _ _ => k (.bool neg) h
 | _ => none
def Qe (neg : Bool) (x : XV) : XO := fun _ _ sl h k => match bR sl x with
 | .eU => k (.bool (!neg)) h
 | .mp _ => k (.bool neg) h
 | _ => none
def Qf (neg : Bool) (x : XV) : XO := fun _ _ sl h k => match bR sl x with
 | .jN => k (.bool (!neg)) h
 | .fn _ _ => k (.bool neg) h
 | _ => none
def H7 (x : XV) : XO := fun _ _ sl h k => match bR sl x with
 | .bool b => fb (!b) h k
 | _ => none
def NO (p : IntKind) (n : Int) (h : H) (K : dH) : Out := match p, n with
 | .u64, .negSucc m => bif Nat.ble m 18446744073709551615 then cu (Nat.sub 18446744073709551615 m) fun m => K (.int .u64 (.ofNat m)) h else none
 | p, n => Dc p n h K
def yQ (p : IntKind) (x : XV) : XO := fun _ _ sl h k => match bR sl x with
 | .int _ n => NO p n h k
 | _ => none
def A5 (x : XV) : XO := fun _ _ sl h k => match bR sl x with
 | .str s => k (.str s) h
 | _ => none
def FC (x : XV) : XO := fun c _ sl h k => match bR sl x with
 | .aO => k (.str []) h
 | .sl id off n _ _ => dD c h id fun vs => jg off vs fun vs => gh n vs fun vs => HW vs fun bs => k (.str bs) h
 | _ => none
def mi (esz : Nat) (x : XV) (lo hi : Option XV) : XO := fun _ _ sl h k => match bR sl x with
 | .aO => match cU sl 0 lo, cU sl 0 hi with
  | some 0, some 0 => k .aO h
  | _, _ => none
 | .sl id off n es cap => match cU sl 0 lo, cU sl n hi with
  | some l, some u =>
   bif Nat.ble l u && Nat.ble u n && Nat.beq es esz then
    cu (Nat.add off (Nat.mul l esz)) fun o => cu (Nat.sub u l) fun m =>
     match cap with
     | none => k (.sl id o m es none) h
     | some cp => cu (Nat.sub cp l) fun cp => k (.sl id o m es (some cp)) h
   else none
  | _, _ => none
 | _ => none
def pZ (x : XV) (lo hi : Option XV) : XO := fun _ _ sl h k => match bR sl x with
 | .str s => match cU sl 0 lo, cU sl (iG s) hi with
  | some l, some u => bif Nat.ble l u && Nat.ble u (iG s) then jg l s fun s => gh (Nat.sub u l) s fun bs => k (.str bs) h else none
  | _, _ => none
 | _ => none
def uR (o : Nat) (x : XV) : XO := fun _ _ sl h k => match bR sl x with
 | .ptr id off => cu (Nat.add off o) fun o => k (.ptr id o) h
 | _ => none
def A6 (o : Nat) (x : XV) : XO := fun _ _ sl h k => match bR sl x with
 | .agg vs => match nth o vs with
  | some v => k v h
  | none => none
 | _ => none
def Mt (n o : Nat) (x : XV) : XO := fun _ _ sl h k => match bR sl x with
 | .agg vs => jg o vs fun vs => gh n vs fun vs => k (.agg vs) h
 | _ => none
def uS (esz : Nat) (x i : XV) : XO := fun _ _ sl h k => match bR sl x, asNat (bR sl i) with
 | .sl id off n _ _, some i => bif Nat.blt i n then cu (Nat.add off (Nat.mul i esz)) fun o => k (.ptr id o) h else none
 | _, _ => none
def A7 (x i : XV) : XO := fun _ _ sl h k => match bR sl x, asNat (bR sl i) with
 | .str s, some i => match nth i s with
  | some b => k (.int .u8 (.ofNat b)) h
  | none => none
 | _, _ => none
def mO (ok : Bool) (v : AV) (b : Bool) (h : H) (k : dH) : Out := bif ok then k (.bO [v, .bool b]) h else k v h
def Dd (eq : iH) (key : AV) (k : Unit → Out) : Out := match eq key key with
 | some true => k ()
 | _ => none
def p5 (eq : iH) (z : AV) (x key : XV) (ok : Bool) : XO := fun c _ sl h k => Dd eq (bR sl key) fun _ => match bR sl x with
 | .eU => mO ok z false h k
 | .mp id => match cT c h id with
  | some (.map es _) => match gD eq (bR sl key) es 0 with
   | some (some (_, v)) => mO ok v true h k
   | some none => mO ok z false h k
   | none => none
  | _ => none
 | _ => none
def ri (eq : iH) (m key v : XV) : XO := fun c _ sl h k => Dd eq (bR sl key) fun _ => match bR sl m with
 | .mp id => match cT c h id with
  | some (.map es clock) => match gD eq (bR sl key) es 0 with
   | some (some (i, _)) => FB (bR sl v) i es fun es => wA c h id (.map es clock) fun h => k (.bO []) h
   | some none => wB es [(bR sl key, bR sl v, clock)] fun es => cu (Nat.succ clock) fun clock => wA c h id (.map es clock) fun h => k (.bO []) h
   | none => none
  | _ => none
 | _ => none
def uT : XO := fun _ _ _ h k => pW h (.map [] 0) fun id h => k (.mp id) h
def mj (z : List AV) (l cp : XV) : XO := fun _ _ sl h k => match asNat (bR sl l), asNat (bR sl cp) with
 | some l, some cp => bif Nat.ble l cp && Nat.blt cp 1000000 then HU cp z fun vs => pW h (.cells vs) fun id h => k (.sl id 0 l (iG z) (some cp)) h else none
 | _, _ => none
def A8 (x : XV) (i : Nat) : XO := fun _ _ sl h k => match bR sl x with
 | .bO vs => match nth i vs with
  | some v => k v h
  | none => none
 | _ => none
def A9 (f : Nat) (cs : List XV) : XO := fun _ _ sl h k => FA sl cs fun cs => k (.fn f cs) h
def Bb (x : XV) : XO := fun c _ sl h k => match bR sl x with
 | .str s => cu (iG s) fun n => k (.int .i64 (.ofNat n)) h
 | _ => none
def uU (x : XV) : XO := fun c _ sl h k => match bR sl x with
 | .aO => k (.int .i64 (.ofNat 0)) h
 | .sl _ _ n _ _ => k (.int .i64 (.ofNat n)) h
 | .raw _ n _ => k (.int .i64 (.ofNat n)) h
 | _ => none
def Ed (x : XV) : XO := fun c _ sl h k => match bR sl x with
 | .eU => k (.int .i64 (.ofNat 0)) h
 | .mp id => match cT c h id with
  | some (.map es _) => cu (iG es) fun n => k (.int .i64 (.ofNat n)) h
  | _ => none
 | _ => none
def wC (c : C) (h : H) (esz : Nat) (x : AV) (k : Nat → List AV → Out) : Out := match x with
 | .aO => k 0 []
 | .sl id off n es _ => bif Nat.beq es esz then dD c h id fun vs => jg off vs fun vs => gh (Nat.mul n esz) vs fun vs => k n vs else none
 | .raw _ n _ => bif Nat.beq n 0 then k 0 [] else none
 | _ => none
def gk (cap : Option Nat) (m : Nat) : Bool := match cap with
 | some cp => Nat.blt cp m
 | none => false
def p6 (c : C) (h : H) (esz by_ : Nat) (s : AV) (n : Nat) (news : List AV) (k : dH) : Out := match s with
 | .aO => bif Nat.beq n 0 then k .aO h else bif Nat.blt 140737488355328 (Nat.mul n by_) then none else pW h (.cells news) fun id h => k (.sl id 0 n esz none) h
 | .sl id off m es cap =>
  bif Nat.beq es esz then
   bif Nat.beq n 0 then k (.sl id off m es cap) h else
   dD c h id fun vs => jg off vs fun vs => gh (Nat.mul m esz) vs fun vs => wB vs news fun vs => cu (Nat.add m n) fun m' => bif Nat.blt 140737488355328 (Nat.mul m' by_) then none else
    bif gk cap m' then pW h (.cells vs) fun id' h => k (.sl id' 0 m' esz none) h
    else wA c h id .dead fun h => pW h (.cells vs) fun id' h => k (.sl id' 0 m' esz none) h
  else none
 | _ => none
def eI (esz by_ : Nat) (s x : XV) : XO := fun c _ sl h k => wC c h esz (bR sl x) fun n news => bif cw news then p6 c h esz by_ (bR sl s) n news k else none
def Bc (f : XV) (args : List XV) : XO := fun c call sl h k => match bR sl f with
 | .KC f first caps => FA sl args fun vs => wB vs caps fun vs => wB first vs fun vs => match call (.fn f) vs c h with
  | some (v, h) => k v h
  | none => none
 | .fn f caps => FA sl args fun vs => wB vs caps fun vs => match call (.fn f) vs c h with
  | some (v, h) => k v h
  | none => none
 | .B0 id => FA sl args fun vs => match call (.B0 id) vs c h with
  | some (v, h) => k v h
  | none => none
 | _ => none
def H8 (t : Nat) (x : XV) : XO := fun _ _ sl h k => k (.iface t (bR sl x)) h
def yR (t : Nat) (z : AV) (x : XV) : XO := fun _ _ sl h k => match bR sl x with
 | .iface t' v => bif Nat.beq t' t then k (.bO [v, .bool true]) h else k (.bO [z, .bool false]) h
 | .wy => k (.bO [z, .bool false]) h
 | _ => none
def RR (p : IntKind) (a b : Int) (h : H) (k : dH) : Out := bif GM a b then k (.int p b) h else k (.int p a) h
def RS (p : IntKind) (a b : Int) (h : H) (k : dH) : Out := bif GM b a then k (.int p b) h else k (.int p a) h
def p7 (f : Nat → Nat → Nat) (p : IntKind) (a b : Int) (h : H) (k : dH) : Out := match a, b with
 | .ofNat m, .ofNat n => bif w8 p (.ofNat m) && w8 p (.ofNat n) then Dc p (.ofNat (f m n)) h k else none
 | _, _ => none
def NP : Nat := 18446744073709551615
def KN (p : IntKind) (a b : Int) (h : H) (k : dH) : Out := match p, a, b with
 | .u64, .ofNat m, .ofNat n => bif w8 .u64 (.ofNat m) && w8 .u64 (.ofNat n) then Dc .u64 (.ofNat (Nat.land m (Nat.sub NP n))) h k else none
 | _, _, _ => none
def Be (n : Nat) (x i : XV) : XO := fun _ _ sl h k => match bR sl x, asNat (bR sl i) with
 | .agg vs, some i => bif Nat.blt i n then match nth i vs with
     | some v => k v h
     | none => none
  else none
 | _, _ => none
def p8 (n esz : Nat) (x i : XV) : XO := fun _ _ sl h k => match bR sl x, asNat (bR sl i) with
 | .ptr id off, some i => bif Nat.blt i n then cu (Nat.add off (Nat.mul i esz)) fun o => k (.ptr id o) h else none
 | _, _ => none
def p9 (x : XV) : XO := fun _ _ sl h k => match bR sl x with
 | .int _ _ => pW h (.map [] 0) fun id h => k (.mp id) h
 | _ => none
def Qg (cap : Option Nat) (n m : Nat) : Bool := match cap with
 | some cp => Nat.ble m cp
 | none => Nat.ble m n
def KO (esz : Nat) (x : XV) (lo hi mx : Option XV) : XO := fun _ _ sl h k => match bR sl x with
 | .sl id off n es cap => match cU sl 0 lo, cU sl n hi, cU sl 0 mx with
  | some l, some u, some m =>
   bif Nat.ble l u && Nat.ble u n && Nat.ble u m && Qg cap n m && Nat.beq es esz then
    cu (Nat.add off (Nat.mul l esz)) fun o => cu (Nat.sub u l) fun w => cu (Nat.sub m l) fun cp => k (.sl id o w es (some cp)) h
   else none
  | _, _, _ => none
 | _ => none
def De (x : XV) : XO := fun c _ sl h k => match bR sl x with
 | .eU => pW h (.iter none 0 [] 0) fun id h => k (.ptr id 0) h
 | .mp m => match cT c h m with
  | some (.map _ clock) => pW h (.iter (some m) clock [] clock) fun id h => k (.ptr id 0) h
  | _ => none
 | _ => none
def H9 (x : XV) : XO := fun c _ sl h k => match bR sl x with
 | .ptr id 0 => match cT c h id with
  | some (.iter none _ _ _) => k (.bO [.bool false]) h
  | some (.iter (some m) since seen last) => match cT c h m with
   | some (.map es clock) => match es with
    | [] => k (.bO [.bool false]) h
    | [e] => match seen with
     | [] => bif Nat.blt e.2.2 since then wA c h id (.iter (some m) since [e.2.2] clock) fun h => k (.bO [.bool true, e.1, e.2.1]) h else none
     | [b] => bif Nat.beq b e.2.2 && Nat.blt e.2.2 last then k (.bO [.bool false]) h else none
     | _ => none
    | _ => none
   | _ => none
  | _ => none
 | _ => none
def KP : XO := fun _ _ _ _ _ => none
structure XR where
 dst : Option Nat
 op : XO
 guard : Option (Nat × Bool)
 bt : Nat
 mem : Bool
 oJ : Bool
 fc : Option XV
inductive XC where
 | skip
 | JL (ops : List XR)
 | br (ops : List XR)
 | seq (a b : XC)
 | cond (c : XV) (a b : XC)
 | block (id : Nat) (b : XC)
 | loop (b : XC)
 | exit (id : Nat)
 | ret
 | bad
structure XF where
 nt : Nat
 res : List (Nat × Option (Option Nat))
 body : XC
inductive XT where
 | fn (x : XF)
 | ext (g : List AV → Option AV)
def qJ (c : Nat) : List Nat → Nat → Int
 | [], _ => .negSucc 0
 | b :: bs, i => bif Nat.beq b c then .ofNat i else qJ c bs (Nat.succ i)
def dy (sl : Tr AV) : Option (Nat × Bool) → Bool
 | none => true
 | some (t, w) => match slot sl t with
  | .bool b => b == w
  | _ => false
def Qh : AV → Bool
 | .var _ | .top => false
 | _ => true
def okW (sl : Tr AV) : Option (Nat × Bool) → Bool
 | none => true
 | some (t, _) => Qh (slot sl t)
def rj {R : Type} (nt : Nat) (sl : Tr AV) (d : Option Nat) (v : AV) (k : Tr AV → Option R) : Option R :=
 match d with
 | none => k sl
 | some d => bif Nat.blt d nt then Tr.wz depth sl d v k else none
def kq (c : C) (call : ez) (nt : Nat) : List XR → Tr AV → H → Option (Tr AV × H)
 | [], sl, h => some (sl, h)
 | o :: ops, sl, h =>
  bif dy sl o.guard then o.op c call sl h fun v h => rj nt sl o.dst v fun sl => kq c call nt ops sl h
  else bif okW sl o.guard then rj nt sl o.dst (.bO []) fun sl => kq c call nt ops sl h else none
def cE (bt : Nat) (base : List (Nat × Nat)) : List (Nat × Nat × Nat) → List (Nat × Nat)
 | [] => base
 | r :: rs => bif Nat.testBit bt r.1 && Nat.blt 0 r.2.2 then (r.2.1, r.2.2) :: cE bt base rs else cE bt base rs
def jf : Nat := 0
def bD (n : Nat) : List (Nat × Nat) → List (Nat × Nat)
 | [] => []
 | r :: rs => bif Nat.ble n r.1 then bD n rs else bif Nat.ble r.2 n && Nat.blt 0 r.2 then r :: bD n rs else (r.1, n) :: bD n rs
def yS : AV → Option Nat
 | .ptr id _ => some id
 | .sl id _ _ _ _ => some id
 | .mp id => some id
 | _ => none
def ml (bt A : Nat) : List (Nat × Tr AB × Tr AB) → Bool
 | [] => true
 | b :: bs => (Nat.testBit bt b.1 || rf (Tr.get b.2.1 A) (Tr.get b.2.2 A)) && ml bt A bs
def ji (bt : Nat) (t t' : Tr AB) : List (Nat × Nat) → Bool
 | [] => true
 | f :: fs => (Nat.testBit bt f.1 || rf (Tr.get t f.2) (Tr.get t' f.2)) && ji bt t t' fs
def gL (i n n' : Nat) (rs : List (Nat × Nat × Nat)) : List (Nat × Nat × Nat) := bif Nat.beq n n' then rs else (i, n, n') :: rs
def cN (c : C) (call : ez) (nt : Nat) (base : List (Nat × Nat)) : List XR → Nat → List (Nat × Nat × Nat) → List (Nat × Tr AB × Tr AB) → List (Nat × Nat) → Tr AV → H → Option (Tr AV × H)
 | [], _, _, _, _, sl, h => some (sl, h)
 | o :: ops, i, rs, bs, fs, sl, h =>
  bif dy sl o.guard then
   match o.fc with
   | some x => match yS (bR sl x) with
    | some A => bif seen ((h.n, jf) :: cE o.bt base rs) A && ml o.bt A bs then
        o.op ⟨h.n, [(h.n, jf), (A, Nat.succ A)]⟩ call sl h fun v h' => rj nt sl o.dst v fun sl => cN c call nt base ops (Nat.succ i) (gL i h.n h'.n rs) bs ((i, A) :: fs) sl h'
     else none
    | none => o.op ⟨h.n, [(h.n, jf)]⟩ call sl h fun v h' => rj nt sl o.dst v fun sl => cN c call nt base ops (Nat.succ i) (gL i h.n h'.n rs) bs fs sl h'
   | none =>
    bif o.mem then
     bif o.oJ then
      o.op ⟨c.floor, (h.n, jf) :: cE o.bt base rs⟩ call sl h fun v h' => bif ji o.bt h.t h'.t fs then rj nt sl o.dst v fun sl => cN c call nt base ops (Nat.succ i) (gL i h.n h'.n rs) ((i, h.t, h'.t) :: bs) fs sl h' else none
     else
      o.op ⟨h.n, (h.n, jf) :: cE o.bt base rs⟩ call sl h fun v h' => rj nt sl o.dst v fun sl => cN c call nt base ops (Nat.succ i) (gL i h.n h'.n rs) bs fs sl h'
    else
     o.op ⟨h.n, [(h.n, jf)]⟩ call sl h fun v h' => rj nt sl o.dst v fun sl => cN c call nt base ops (Nat.succ i) (gL i h.n h'.n rs) bs fs sl h'
  else bif okW sl o.guard then rj nt sl o.dst (.bO []) fun sl => cN c call nt base ops (Nat.succ i) rs bs fs sl h else none
inductive Task where
 | code (nt : Nat) (rd : Bool) (x : XC) (sl : Tr AV) (ds : List Nat)
 | call (f : NN) (args : List AV)
inductive lr where
 | bad
 | code (e : Ex) (sl : Tr AV) (ds : List Nat) (h : H)
 | call (v : AV) (h : H)
def mm (c : C) (h : H) (sl : Tr AV) : List (Nat × Option (Option Nat)) → (List AV → lr) → lr
 | [], k => k []
 | r :: rs, k =>
  match r.2 with
  | none => mm c h sl rs fun vs => k (slot sl r.1 :: vs)
  | some n => match slot sl r.1 with
   | .ptr id off => match cT c h id with
    | some (.cells vs) => match n with
     | none => match nth off vs with
      | some v => mm c h sl rs fun vs => k (v :: vs)
      | none => .bad
     | some n => match jg off vs fun vs => gh n vs fun vs => some vs with
      | some cs => mm c h sl rs fun vs => k (.agg cs :: vs)
      | none => .bad
    | _ => .bad
   | _ => .bad
def slotsOf : List AV → Nat → Tr AV → (Tr AV → lr) → lr
 | [], _, sl, k => k sl
 | v :: vs, i, sl, k => Tr.wz depth sl i v fun sl => slotsOf vs (Nat.succ i) sl k
abbrev Runner := C → Task → H → lr
def gm (ih : Runner) : ez := fun f args c h => match ih c (.call f args) h with
 | .call v h => some (v, h)
 | _ => none
def rk (ds : List Nat) : Out → lr
 | some (sl, h) => .code .normal sl ds h
 | none => .bad
def dT (ih : Runner) (c : C) (nt : Nat) (rd : Bool) (b : XC) : lr → lr
 | .code .normal sl ds h => ih c (.code nt rd b sl ds) h
 | r => r
def eA (id : Nat) : lr → lr
 | .code (.exit id') sl ds h => bif Nat.beq id' id then .code .normal sl ds h else .code (.exit id') sl ds h
 | r => r
def mP (ih : Runner) (c : C) (nt : Nat) (rd : Bool) (a b : XC) (sl : Tr AV) (ds : List Nat) (h : H) : AV → lr
 | .bool true => ih c (.code nt rd a sl ds) h
 | .bool false => ih c (.code nt rd b sl ds) h
 | _ => .bad
def Ie (r : Option lr) : lr := match r with | some r => r | none => .bad
/-! a range over a map whose rounds do not meddle with each other -/
structure Own where
 id : Nat
 i : Nat
 v : Nat
 b : Nat
 fin : AV
def jj (ih : Runner) (c : C) (nt : Nat) (rd : Bool) (x : XC) (sl : Tr AV) (ds : List Nat) (h : H) : lr :=
 match x with
 | .skip => .code .normal sl ds h
 | .JL ops => rk ds (kq c (gm ih) nt ops sl h)
 | .br ops => rk ds (cN c (gm ih) nt (bD h.n c.cM) ops 0 [] [] [] sl h)
 | .seq a b => dT ih c nt rd b (ih c (.code nt rd a sl ds) h)
 | .cond v a b => mP ih c nt rd a b sl ds h (bR sl v)
 | .block id b => eA id (ih c (.code nt rd b sl ds) h)
 | .loop b => dT ih c nt rd (.loop b) (ih c (.code nt rd b sl ds) h)
 | .exit id => .code (.exit id) sl ds h
 | .ret => .code .ret sl ds h
 | .bad => .bad
def oK (h : H) : List AV → lr
 | [v] => .call v h
 | vs => .call (.bO vs) h
def r7 (c : C) : List Nat → H → (H → lr) → lr
 | [], h, k => k h
 | d :: ds, h, k => match cT c h d with
  | some .KF => Ie (wA c h d .dead fun h => some (r7 c ds h k))
  | _ => .bad
def yT (c : C) (rs : List (Nat × Option (Option Nat))) : lr → lr
 | .code (.exit _) _ _ _ => .bad
 | .code _ sl ds h => r7 c ds h fun h => mm c h sl rs fun vs => oK h vs
 | _ => .bad
def jF (ih : Runner) (c : C) (args : List AV) (h : H) : Option XT → lr
 | none => .bad
 | some (.ext g) => match g args with
  | some v => .call v h
  | none => .bad
 | some (.fn fn) => bif Nat.ble (iG args) fn.nt then slotsOf args 0 .nil fun sl => yT c fn.res (ih c (.code fn.nt false fn.body sl []) h) else .bad
structure Df where
 f : Nat
 args : List AV
 c : C
 h : H
 v : AV
 h' : H
def Qi : List (Nat × Nat) → List (Nat × Nat) → Bool
 | [], [] => true
 | a :: azs, b :: bs => Nat.beq a.1 b.1 && Nat.beq a.2 b.2 && Qi azs bs
 | _, _ => false
def td {β : Type} (f : β → β → Bool) (x y : O4 β) : Bool := match x, y with
 | .nil, .nil => true
 | .node a b c d, .node a' b' c' d' => f a a' && f b b' && f c c' && f d d'
 | _, _ => false
def RT : T1 AB → T1 AB → Bool := td rf
def RU : T2 AB → T2 AB → Bool := td RT
def Qj : T3 AB → T3 AB → Bool := td RU
def RV : T4 AB → T4 AB → Bool := td Qj
def Qk : T5 AB → T5 AB → Bool := td RV
def RW : T6 AB → T6 AB → Bool := td Qk
def Ql : T7 AB → T7 AB → Bool := td RW
def RX : T8 AB → T8 AB → Bool := td Ql
def RY : T9 AB → T9 AB → Bool := td RX
def Qm : KD AB → KD AB → Bool := td RY
def Qn : KE AB → KE AB → Bool := td Qm
def Qo : HS AB → HS AB → Bool := td Qn
def Qp : List (Nat × AB) → List (Nat × AB) → Bool
 | [], [] => true
 | a :: azs, b :: bs => Nat.beq a.1 b.1 && HY a.2 b.2 && Qp azs bs
 | _, _ => false
def RZ (x y : Tr AB) : Bool := Qj x.a y.a && Qk x.b y.b && Ql x.c y.c && Qo x.d y.d && Qp x.e y.e
def Qq (m : Df) (f : Nat) (args : List AV) (c : C) (h : H) : Bool :=
 Nat.beq m.f f && Nat.beq m.c.floor c.floor && Qi m.c.cM c.cM && Nat.beq m.h.n h.n && jh m.args args && RZ m.h.t h.t
def yU (f : Nat) (args : List AV) (c : C) (h : H) : List Df → Option Df
 | [] => none
 | m :: ms => bif Qq m f args c h then some m else yU f args c h ms
abbrev Mf := Nat → List AV → C → H → Option (AV × H)
def xc (ms : List Df) : Mf := fun f args c h => match yU f args c h ms with
 | some m => some (m.v, m.h')
 | none => none
def PU : Mf := fun _ _ _ _ => none
def step (comp : Code → XC) (tbl : Nat → Option XT) (M : Mf) (ih : Runner) (c : C) (t : Task) (h : H) : lr :=
 match t with
 | .code nt rd x sl ds => jj ih c nt rd x sl ds h
 | .call (.fn f) args => match M f args c h with
  | some r => .call r.1 r.2
  | none => jF ih c args h (tbl f)
 | .call (.Kx f) args => match tbl f with
  | some (.fn x) => jF ih c args h (some (.fn x))
  | _ => .bad
 | .call (.B0 _) _ => .bad
def ev (comp : Code → XC) (tbl : Nat → Option XT) (M : Mf) : Nat → C → Task → H → lr
 | 0, _, _, _ => .bad
 | n + 1, c, t, h => step comp tbl M (ev comp tbl M n) c t h
def Qr (t : Tr AB) : List (Nat × AB) → Bool
 | [] => true
 | p :: ps => rf (Tr.get t p.1) (some p.2) && Qr t ps
def Ee (t t' : Tr AB) : Nat → Bool
 | 0 => true
 | n + 1 => rf (Tr.get t n) (Tr.get t' n) && Ee t t' n
def bears (m : Df) (l : List (Nat × AB)) : lr → Bool
 | .call v h => de v m.v && Nat.beq h.n m.h'.n && Qr h.t l && Ee m.h'.t m.h.t m.c.floor
 | _ => false
end Go.Proofs.YtgaihilgffficaaGreatDoor.Ev
