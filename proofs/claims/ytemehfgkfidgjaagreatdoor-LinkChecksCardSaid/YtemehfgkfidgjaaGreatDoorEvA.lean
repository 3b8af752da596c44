/- CoverStates, part 1 -/
import Derived.Orders
set_option linter.all false
namespace Go.Proofs.YtemehfgkfidgjaaGreatDoor.Ev
theorem om {p:Prop}(h:p:=by omega):p:=h
theorem am {p:Prop}(h:p:=by assumption):p:=h
theorem dc {p:Prop}(h:p:=by decide):p:=h
theorem gY {p:Nat->Prop}: ∀i,i<0->p i:=fun _ hi=>absurd hi (by omega)
open Go
/-! values -/
inductive AV where
 |bool (b:Bool)
 |int (k:IntKind) (n:Int)
 |str (s:List Nat)
 |eG
 |ptr (id off:Nat)
 |aE
 |sl (id off len esz:Nat) (cap:Option Nat)
 |dt
 |mp (id:Nat)
 |jb
 |fn (f:Nat) (caps:List AV)
 |Nc (f:Nat) (first caps:List AV)
 |sT
 |iface (t:Nat) (v:AV)
 |Dn (id:Nat)
 |agg (vs:List AV)
 |bn (vs:List AV)
 |raw (oa:Option Addr) (n cp:Nat)
 |var (id:Nat)
 |top
 deriving Inhabited
/-! tries -/
inductive D4 where
 |x0|x1|x2|x3
 deriving DecidableEq
inductive O4 (β:Type) where
 |nil
 |node (a b c d:β)
abbrev T1 (α:Type):=O4 (Option α)
abbrev T2 (α:Type):=O4 (T1 α)
abbrev T3 (α:Type):=O4 (T2 α)
abbrev T4 (α:Type):=O4 (T3 α)
abbrev T5 (α:Type):=O4 (T4 α)
abbrev T6 (α:Type):=O4 (T5 α)
abbrev T7 (α:Type):=O4 (T6 α)
abbrev T8 (α:Type):=O4 (T7 α)
abbrev T9 (α:Type):=O4 (T8 α)
abbrev Nf (α:Type):=O4 (T9 α)
abbrev Ng (α:Type):=O4 (Nf α)
abbrev Kk (α:Type):=O4 (Ng α)
structure Tr (α:Type) where
 a:T3 α
 b:T5 α
 c:T7 α
 d:Kk α
 e:List (Nat×α)
inductive Ex where
 |normal
 |exit (id:Nat)
 |ret
inductive AB where
 |cells (vs:List AV)
 |map (es:List (AV×AV×Nat)) (clock:Nat)
 |iter (m:Option Nat) (since:Nat) (seen:List Nat) (last:Nat)
 |x8 (m since b stepped v:Nat)
 |UD (T:Nat) (s:List Nat) (j:Option Nat)
 |UE (e:Nat) (s:List Nat)
 |Qg (m:Nat)
 |Nh
 |loop (st:Nat) (pend:Option Ex) (nt:Nat) (sl:Tr AV) (ps:List Nat) (assign body:Code) (d:Nat)
 |dead
 deriving Inhabited
def AV.cells:AV->List AV
 | .agg vs=>vs
 |v=>[v]
/-! strictness -/
def cA {β:Type}(n:Nat)(k:Nat->β):β:=match n with
 |0=>k 0
 |m+1=>k (Nat.succ m)
def lL {β:Type}(n:Int)(k:Int->β):β:=
 match n with
 | .ofNat m=>cA m fun m=>k (.ofNat m)
 | .negSucc m=>cA m fun m=>k (.negSucc m)
def x9 {β:Type}(b:Bool)(k:Bool->β):β:=match b with
 |false=>k false
 |true=>k true
/-! tries -/
def Tr.nil {α:Type}:Tr α:=⟨.nil,.nil,.nil,.nil,[]⟩
def SD {α:Type}:List (Nat×α)->Nat->Option α
 |[],_=>none
 |p::ps,i=>bif Nat.beq p.1 i then some p.2 else SD ps i
def d4 (n:Nat):D4:=Nat.casesOn (motive:=fun _=>D4) (Nat.mod n 4) .x0 fun n=>Nat.casesOn (motive:=fun _=>D4) n .x1 fun n=>Nat.casesOn (motive:=fun _=>D4) n .x2 fun _=> .x3
def lP {β:Type}(a b c d:β)(x:D4):β:=D4.casesOn (motive:=fun _=>β) x a b c d
def nq {β:Type}(z:β)(t:O4 β)(x:D4):β:=O4.casesOn (motive:=fun _=>β) t z fun a b c d=>lP a b c d x
def VD {α:Type}(t:T1 α)(i:Nat):Option α:=nq none t (d4 i)
def UF {α:Type}(t:T2 α)(i:Nat):Option α:=VD (nq .nil t (d4 (Nat.div i 4))) i
def R9 {α:Type}(t:T3 α)(i:Nat):Option α:=UF (nq .nil t (d4 (Nat.div i 16))) i
def UG {α:Type}(t:T4 α)(i:Nat):Option α:=R9 (nq .nil t (d4 (Nat.div i 64))) i
def Sa {α:Type}(t:T5 α)(i:Nat):Option α:=UG (nq .nil t (d4 (Nat.div i 256))) i
def UH {α:Type}(t:T6 α)(i:Nat):Option α:=Sa (nq .nil t (d4 (Nat.div i 1024))) i
def Sb {α:Type}(t:T7 α)(i:Nat):Option α:=UH (nq .nil t (d4 (Nat.div i 4096))) i
def UI {α:Type}(t:T8 α)(i:Nat):Option α:=Sb (nq .nil t (d4 (Nat.div i 16384))) i
def UJ {α:Type}(t:T9 α)(i:Nat):Option α:=UI (nq .nil t (d4 (Nat.div i 65536))) i
def Qh {α:Type}(t:Nf α)(i:Nat):Option α:=UJ (nq .nil t (d4 (Nat.div i 262144))) i
def Qi {α:Type}(t:Ng α)(i:Nat):Option α:=Qh (nq .nil t (d4 (Nat.div i 1048576))) i
def Kl {α:Type}(t:Kk α)(i:Nat):Option α:=Qi (nq .nil t (d4 (Nat.div i 4194304))) i
def jY {β γ:Type}(a b c d:β)(x:D4)(v:β)(K:O4 β->γ):γ:=D4.casesOn (motive:=fun _=>γ) x (K (.node v b c d)) (K (.node a v c d)) (K (.node a b v d)) (K (.node a b c v))
def st1 {α γ:Type}(t:T1 α)(i:Nat)(v:α)(K:T1 α->γ):γ:=O4.casesOn (motive:=fun _=>γ) t (jY none none none none (d4 i) (some v) K) fun a b c d=>jY a b c d (d4 i) (some v) K
def Ua {α γ:Type}(a b c d:T1 α)(x:D4)(i:Nat)(v:α)(K:T2 α->γ):γ:=st1 (lP a b c d x) i v fun y=>jY a b c d x y K
def st2 {α γ:Type}(t:T2 α)(i:Nat)(v:α)(K:T2 α->γ):γ:=O4.casesOn (motive:=fun _=>γ) t (Ua .nil .nil .nil .nil (d4 (Nat.div i 4)) i v K) fun a b c d=>Ua a b c d (d4 (Nat.div i 4)) i v K
def UK {α γ:Type}(a b c d:T2 α)(x:D4)(i:Nat)(v:α)(K:T3 α->γ):γ:=st2 (lP a b c d x) i v fun y=>jY a b c d x y K
def Qj {α γ:Type}(t:T3 α)(i:Nat)(v:α)(K:T3 α->γ):γ:=O4.casesOn (motive:=fun _=>γ) t (UK .nil .nil .nil .nil (d4 (Nat.div i 16)) i v K) fun a b c d=>UK a b c d (d4 (Nat.div i 16)) i v K
def Ss {α γ:Type}(a b c d:T3 α)(x:D4)(i:Nat)(v:α)(K:T4 α->γ):γ:=Qj (lP a b c d x) i v fun y=>jY a b c d x y K
def UL {α γ:Type}(t:T4 α)(i:Nat)(v:α)(K:T4 α->γ):γ:=O4.casesOn (motive:=fun _=>γ) t (Ss .nil .nil .nil .nil (d4 (Nat.div i 64)) i v K) fun a b c d=>Ss a b c d (d4 (Nat.div i 64)) i v K
def Ub {α γ:Type}(a b c d:T4 α)(x:D4)(i:Nat)(v:α)(K:T5 α->γ):γ:=UL (lP a b c d x) i v fun y=>jY a b c d x y K
def SE {α γ:Type}(t:T5 α)(i:Nat)(v:α)(K:T5 α->γ):γ:=O4.casesOn (motive:=fun _=>γ) t (Ub .nil .nil .nil .nil (d4 (Nat.div i 256)) i v K) fun a b c d=>Ub a b c d (d4 (Nat.div i 256)) i v K
def Sv {α γ:Type}(a b c d:T5 α)(x:D4)(i:Nat)(v:α)(K:T6 α->γ):γ:=SE (lP a b c d x) i v fun y=>jY a b c d x y K
def UM {α γ:Type}(t:T6 α)(i:Nat)(v:α)(K:T6 α->γ):γ:=O4.casesOn (motive:=fun _=>γ) t (Sv .nil .nil .nil .nil (d4 (Nat.div i 1024)) i v K) fun a b c d=>Sv a b c d (d4 (Nat.div i 1024)) i v K
def UN {α γ:Type}(a b c d:T6 α)(x:D4)(i:Nat)(v:α)(K:T7 α->γ):γ:=UM (lP a b c d x) i v fun y=>jY a b c d x y K
def SF {α γ:Type}(t:T7 α)(i:Nat)(v:α)(K:T7 α->γ):γ:=O4.casesOn (motive:=fun _=>γ) t (UN .nil .nil .nil .nil (d4 (Nat.div i 4096)) i v K) fun a b c d=>UN a b c d (d4 (Nat.div i 4096)) i v K
def UO {α γ:Type}(a b c d:T7 α)(x:D4)(i:Nat)(v:α)(K:T8 α->γ):γ:=SF (lP a b c d x) i v fun y=>jY a b c d x y K
def UP {α γ:Type}(t:T8 α)(i:Nat)(v:α)(K:T8 α->γ):γ:=O4.casesOn (motive:=fun _=>γ) t (UO .nil .nil .nil .nil (d4 (Nat.div i 16384)) i v K) fun a b c d=>UO a b c d (d4 (Nat.div i 16384)) i v K
def UQ {α γ:Type}(a b c d:T8 α)(x:D4)(i:Nat)(v:α)(K:T9 α->γ):γ:=UP (lP a b c d x) i v fun y=>jY a b c d x y K
def UR {α γ:Type}(t:T9 α)(i:Nat)(v:α)(K:T9 α->γ):γ:=O4.casesOn (motive:=fun _=>γ) t (UQ .nil .nil .nil .nil (d4 (Nat.div i 65536)) i v K) fun a b c d=>UQ a b c d (d4 (Nat.div i 65536)) i v K
def Qk {α γ:Type}(a b c d:T9 α)(x:D4)(i:Nat)(v:α)(K:Nf α->γ):γ:=UR (lP a b c d x) i v fun y=>jY a b c d x y K
def Ql {α γ:Type}(t:Nf α)(i:Nat)(v:α)(K:Nf α->γ):γ:=O4.casesOn (motive:=fun _=>γ) t (Qk .nil .nil .nil .nil (d4 (Nat.div i 262144)) i v K) fun a b c d=>Qk a b c d (d4 (Nat.div i 262144)) i v K
def Qm {α γ:Type}(a b c d:Nf α)(x:D4)(i:Nat)(v:α)(K:Ng α->γ):γ:=Ql (lP a b c d x) i v fun y=>jY a b c d x y K
def Qn {α γ:Type}(t:Ng α)(i:Nat)(v:α)(K:Ng α->γ):γ:=O4.casesOn (motive:=fun _=>γ) t (Qm .nil .nil .nil .nil (d4 (Nat.div i 1048576)) i v K) fun a b c d=>Qm a b c d (d4 (Nat.div i 1048576)) i v K
def Qo {α γ:Type}(a b c d:Ng α)(x:D4)(i:Nat)(v:α)(K:Kk α->γ):γ:=Qn (lP a b c d x) i v fun y=>jY a b c d x y K
def Ni {α γ:Type}(t:Kk α)(i:Nat)(v:α)(K:Kk α->γ):γ:=O4.casesOn (motive:=fun _=>γ) t (Qo .nil .nil .nil .nil (d4 (Nat.div i 4194304)) i v K) fun a b c d=>Qo a b c d (d4 (Nat.div i 4194304)) i v K
def Tr.SG {α:Type}(t:Tr α)(i:Nat):Option α:=Bool.casesOn (motive:=fun _=>Option α) (Nat.blt i 16384) (Bool.casesOn (motive:=fun _=>Option α) (Nat.blt i 16777216) (SD t.e i) (Kl t.d i)) (Sb t.c i)
def Tr.SH {α:Type}(t:Tr α)(i:Nat):Option α:=Bool.casesOn (motive:=fun _=>Option α) (Nat.blt i 1024) (Tr.SG t i) (Sa t.b i)
def Tr.get {α:Type}(t:Tr α)(i:Nat):Option α:=Bool.casesOn (motive:=fun _=>Option α) (Nat.blt i 64) (Tr.SH t i) (R9 t.a i)
def Tr.SJ {α γ:Type}(a:T3 α)(b:T5 α)(c:T7 α)(d:Kk α)(e:List (Nat×α))(i:Nat)(v:α)(K:Tr α->γ):γ:=Bool.casesOn (motive:=fun _=>γ) (Nat.blt i 16384) (Bool.casesOn (motive:=fun _=>γ) (Nat.blt i 16777216) (K ⟨a,b,c,d,(i,v)::e⟩) (Ni d i v fun d=>K ⟨a,b,c,d,e⟩)) (SF c i v fun c=>K ⟨a,b,c,d,e⟩)
def Tr.SK {α γ:Type}(a:T3 α)(b:T5 α)(c:T7 α)(d:Kk α)(e:List (Nat×α))(i:Nat)(v:α)(K:Tr α->γ):γ:=Bool.casesOn (motive:=fun _=>γ) (Nat.blt i 1024) (Tr.SJ a b c d e i v K) (SE b i v fun b=>K ⟨a,b,c,d,e⟩)
def Tr.Qp {α γ:Type}(a:T3 α)(b:T5 α)(c:T7 α)(d:Kk α)(e:List (Nat×α))(i:Nat)(v:α)(K:Tr α->γ):γ:=Bool.casesOn (motive:=fun _=>γ) (Nat.blt i 64) (Tr.SK a b c d e i v K) (Qj a i v fun a=>K ⟨a,b,c,d,e⟩)
def Tr.xw {α γ:Type}(_:Nat)(t:Tr α)(i:Nat)(v:α)(K:Tr α->γ):γ:=Tr.casesOn (motive:=fun _=>γ) t fun a b c d e=>Tr.Qp a b c d e i v K
structure H where
 t:Tr AB
 n:Nat
structure C where
 floor:Nat
 cd:List (Nat×Nat)
def seen:List (Nat×Nat)->Nat->Bool
 |[],_=>false
 |r::rs,id=>bif Nat.ble r.1 id then Nat.blt id r.2||Nat.beq r.2 0 else seen rs id
def cr (c:C)(h:H)(id:Nat):Option AB:=bif seen c.cd id then Tr.get h.t id else none
def depth:Nat:=40
def pJ {R:Type}(c:C)(h:H)(id:Nat)(b:AB)(k:H->Option R):Option R:=
 bif Nat.ble c.floor id&&seen c.cd id then Tr.xw depth h.t id b fun t=>k ⟨t,h.n⟩else none
def pK {R:Type}(h:H)(b:AB)(k:Nat->H->Option R):Option R:=
 Tr.xw depth h.t h.n b fun t=>cA (Nat.succ h.n) fun n=>k h.n ⟨t,n⟩
/-! lists -/
def fI {α R:Type}:Nat->List α->(List α->Option R)->Option R
 |0,_,k=>k []
 |n+1,l,k=>match l with
  |[]=>none
  |x::xs=>fI n xs fun ys=>k (x::ys)
def iO {α R:Type}:Nat->List α->(List α->Option R)->Option R
 |0,l,k=>k l
 |n+1,l,k=>match l with
  |[]=>none
  |_::xs=>iO n xs k
def vn {R:Type}:List AV->List AV->(List AV->Option R)->Option R
 |[],l,k=>k l
 |y::news,l,k=>match l with
  |[]=>none
  |_::xs=>vn news xs fun zs=>k (y::zs)
def eP {R:Type}:Nat->List AV->List AV->(List AV->Option R)->Option R
 |0,news,l,k=>vn news l k
 |n+1,news,l,k=>match l with
  |[]=>none
  |x::xs=>eP n news xs fun ys=>k (x::ys)
def xx {α R:Type}:List α->List α->(List α->Option R)->Option R
 |[],ys,k=>k ys
 |x::xs,ys,k=>xx xs ys fun zs=>k (x::zs)
def nth {α:Type}:Nat->List α->Option α
 |_,[]=>none
 |0,x::_=>some x
 |n+1,_::xs=>nth n xs
def gI {α:Type}:List α->Nat
 |[]=>0
 |_::l=>Nat.succ (gI l)
def GU:List Nat->List Nat->Bool
 |[],[]=>true
 |a::x,b::y=>bif Nat.beq a b then GU x y else false
 |_,_=>false
def Ji:List Nat->List Nat->Bool
 |_,[]=>false
 |[],_::_=>true
 |a::x,b::y=>bif Nat.blt a b then true else bif Nat.beq a b then Ji x y else false
def Km {R:Type}:Nat->List AV->(List AV->Option R)->Option R
 |0,_,k=>k []
 |n+1,z,k=>Km n z fun l=>xx z l k
def Kn {R:Type}:List AV->(List Nat->Option R)->Option R
 |[],k=>k []
 |v::vs,k=>match v with
  | .int .u8 (.ofNat b)=>bif Nat.ble b 255 then Kn vs fun bs=>k (b::bs)else none
  |_=>none
/-! numbers -/
def zY (k:IntKind)(n:Int):Bool:=
 match k,n with
 | .i64,.ofNat m=>Nat.ble m 9223372036854775807
 | .i64,.negSucc m=>Nat.ble m 9223372036854775807
 | .i32,.ofNat m=>Nat.ble m 2147483647
 | .i32,.negSucc m=>Nat.ble m 2147483647
 | .u8,.ofNat m=>Nat.ble m 255
 | .u16,.ofNat m=>Nat.ble m 65535
 | .u32,.ofNat m=>Nat.ble m 4294967295
 | .u64,.ofNat m=>Nat.ble m 18446744073709551615
 |_,_=>false
def Jg:Int->Int->Bool
 | .ofNat a,.ofNat b=>Nat.beq a b
 | .negSucc a,.negSucc b=>Nat.beq a b
 |_,_=>false
def HP:Int->Int->Bool
 | .ofNat a,.ofNat b=>Nat.blt a b
 | .negSucc a,.negSucc b=>Nat.blt b a
 | .negSucc _,.ofNat _=>true
 | .ofNat _,.negSucc _=>false
def eD (a b:IntKind):Bool:=decide (a=b)
def ED {R:Type}(k:IntKind)(n:Int)(h:H)(K:AV->H->Option R):Option R:=
 bif zY k n then lL n fun n=>K (.int k n) h else none
def eH {R:Type}(b:Bool)(h:H)(K:AV->H->Option R):Option R:=x9 b fun b=>K (.bool b) h
abbrev hJ:=AV->AV->Option Bool
def sy:hJ:=fun x y=>match x,y with
 | .int k a,.int j b=>bif eD k j then some (Jg a b)else none
 |_,_=>none
def eqStr:hJ:=fun x y=>match x,y with
 | .str a,.str b=>some (GU a b)
 |_,_=>none
def Ko:hJ:=fun x y=>match x,y with
 | .bool a,.bool b=>some (a==b)
 |_,_=>none
def fu:List hJ->List AV->List AV->Option Bool
 |[],[],[]=>some true
 |f::fs,x::xs,y::ys=>match f x y with
  |some true=>fu fs xs ys
  |some false=>some false
  |none=>none
 |_,_,_=>none
def pM (fs:List hJ):hJ:=fun x y=>match x,y with
 | .agg xs,.agg ys=>fu fs xs ys
 |_,_=>none
/-! equality of blocks -/
def HQ:Option Nat->Option Nat->Bool
 |none,none=>true
 |some a,some b=>Nat.beq a b
 |_,_=>false
mutual
def cZ:AV->AV->Bool
 | .bool a,y=>match y with| .bool b=>a==b|_=>false
 | .int k a,y=>match y with| .int j b=>eD k j&&Jg a b|_=>false
 | .str a,y=>match y with| .str b=>GU a b|_=>false
 | .eG,y=>match y with| .eG=>true|_=>false
 | .ptr a b,y=>match y with| .ptr a' b'=>Nat.beq a a'&&Nat.beq b b'|_=>false
 | .aE,y=>match y with| .aE=>true|_=>false
 | .sl a b c d e,y=>match y with| .sl a' b' c' d' e'=>Nat.beq a a'&&Nat.beq b b'&&Nat.beq c c'&&Nat.beq d d'&&HQ e e'|_=>false
 | .dt,y=>match y with| .dt=>true|_=>false
 | .mp a,y=>match y with| .mp a'=>Nat.beq a a'|_=>false
 | .jb,y=>match y with| .jb=>true|_=>false
 | .fn f cs,y=>match y with| .fn f' cs'=>Nat.beq f f'&&iP cs cs'|_=>false
 | .Nc f a b,y=>match y with| .Nc f' a' b'=>Nat.beq f f'&&iP a a'&&iP b b'|_=>false
 | .sT,y=>match y with| .sT=>true|_=>false
 | .Dn a,y=>match y with| .Dn a'=>Nat.beq a a'|_=>false
 | .iface t v,y=>match y with| .iface t' v'=>Nat.beq t t'&&cZ v v'|_=>false
 | .agg cs,y=>match y with| .agg cs'=>iP cs cs'|_=>false
 | .bn cs,y=>match y with| .bn cs'=>iP cs cs'|_=>false
 | .raw oa n cp,y=>match y with| .raw oa' n' cp'=>decide (oa=oa')&&Nat.beq n n'&&Nat.beq cp cp'|_=>false
 | .var a,y=>match y with| .var a'=>Nat.beq a a'|_=>false
 | .top,y=>match y with| .top=>true|_=>false
def iP:List AV->List AV->Bool
 |[],ys=>match ys with|[]=>true|_=>false
 |x::xs,ys=>match ys with|y::ys=>cZ x y&&iP xs ys|[]=>false
end
def Ci:List (AV×AV×Nat)->List (AV×AV×Nat)->Bool
 |[],[]=>true
 |x::xs,y::ys=>cZ x.1 y.1&&cZ x.2.1 y.2.1&&Nat.beq x.2.2 y.2.2&&Ci xs ys
 |_,_=>false
def Kp:AB->AB->Bool
 | .cells a,.cells b=>iP a b
 | .map a c,.map b d=>Ci a b&&Nat.beq c d
 | .iter a b c d,.iter a' b' c' d'=>HQ a a'&&Nat.beq b b'&&GU c c'&&Nat.beq d d'
 | .x8 a b c d e,.x8 a' b' c' d' e'=>Nat.beq a a'&&Nat.beq b b'&&Nat.beq c c'&&Nat.beq d d'&&Nat.beq e e'
 | .dead,.dead=>true
 |_,_=>false
def sV:Option AB->Option AB->Bool
 |none,none=>true
 |some a,some b=>Kp a b
 |_,_=>false
/-! compiled code -/
inductive XV where
 |tmp (t:Nat)
 |const (v:AV)
 |Cg (g:Nat)
 deriving Inhabited
/-! evaluation -/
def slot (sl:Tr AV)(t:Nat):AV:=match Tr.get sl t with|some v=>v|none=> .bn []
def bG (sl:Tr AV):XV->AV
 | .tmp t=>slot sl t
 | .const v=>v
 | .Cg g=> .ptr g 0
def HS {R:Type}(sl:Tr AV):List XV->(List AV->Option R)->Option R
 |[],k=>k []
 |x::xs,k=>HS sl xs fun vs=>k (bG sl x::vs)
def Cj:AV->Bool
 | .top=>false
 |_=>true
def ku {R:Type}(sl:Tr AV):List (Nat×Nat×XV)->List AV->(List AV->Option R)->Option R
 |[],l,k=>k l
 |p::ps,l,k=>
  let cs:=(bG sl p.2.2).cells
  bif Nat.beq (gI cs) p.2.1&&Cj (bG sl p.2.2)then eP p.1 cs l fun l=>ku sl ps l k else none
def fJ (eq:hJ)(key:AV):List (AV×AV×Nat)->Nat->Option (Option (Nat×AV))
 |[],_=>some none
 |e::es,i=>match eq key e.1 with
  |some true=>some (some (i,e.2.1))
  |some false=>fJ eq key es (Nat.succ i)
  |none=>none
def HT {R:Type}(v:AV):Nat->List (AV×AV×Nat)->(List (AV×AV×Nat)->Option R)->Option R
 |_,[],_=>none
 |0,e::es,k=>k ((e.1,v,e.2.2)::es)
 |i+1,e::es,k=>HT v i es fun es=>k (e::es)
def asNat:AV->Option Nat
 | .int _ (.ofNat n)=>some n
 |_=>none
def cQ (sl:Tr AV)(d:Nat):Option XV->Option Nat
 |none=>some d
 |some x=>asNat (bG sl x)
inductive Qq where
 |fn (f:Nat)
 |Jc (f:Nat)
 |Dn (id:Nat)
abbrev dS:=Qq->List AV->C->H->Option (AV×H)
abbrev Out:=Option (Tr AV×H)
abbrev dE:=AV->H->Out
abbrev XO:=C->dS->Tr AV->H->dE->Out
def Ud (x:XV):XO:=fun _ _ sl h k=>k (bG sl x) h
def ya (b x y:XV):XO:=fun _ _ sl h k=>match bG sl b with
 | .bool true=>k (bG sl x) h
 | .bool false=>k (bG sl y) h
 |_=>none
def Ck (x:XV):XO:=fun _ _ sl h k=>bif Cj (bG sl x)then pK h (.cells (bG sl x).cells) fun id h=>k (.ptr id 0) h else none
def ru (z:List AV)(ps:List (Nat×Nat×XV)):XO:=fun _ _ sl h k=>ku sl ps z fun l=>k (.agg l) h
def pO (n:Nat)(z:List AV)(ps:List (Nat×Nat×XV)):XO:=fun _ _ sl h k=>Km n z fun l=>ku sl ps l fun l=>pK h (.cells l) fun id h=>k (.sl id 0 n (gI z) (some n)) h
def dB (c:C)(h:H)(id:Nat)(k:List AV->Out):Out:=match cr c h id with
 |some (.cells vs)=>k vs
 |_=>none
def vo (x:XV):XO:=fun c _ sl h k=>match bG sl x with
 | .ptr id off=>dB c h id fun vs=>match nth off vs with
  |some v=>k v h
  |none=>none
 |_=>none
def vp (n:Nat)(x:XV):XO:=fun c _ sl h k=>match bG sl x with
 | .ptr id off=>dB c h id fun vs=>iO off vs fun vs=>fI n vs fun vs=>k (.agg vs) h
 |_=>none
def one:AV->Bool
 | .agg _| .bn _=>false
 | .var _| .top=>false
 |_=>true
def cy:List AV->Bool
 |[]=>true
 |v::vs=>bif one v then cy vs else false
def vq (n:Nat)(a x:XV):XO:=fun c _ sl h k=>match bG sl a with
 | .ptr id off=>dB c h id fun vs=>
  bif Nat.beq (gI (bG sl x).cells) n&&cy (bG sl x).cells then eP off (bG sl x).cells vs fun vs=>pJ c h id (.cells vs) fun h=>k (.bn []) h else none
 |_=>none
def yb (x:XV):XO:=fun _ _ sl h k=>match bG sl x with
 | .ptr id off=>k (.ptr id off) h
 | .fn f cs=>k (.fn f cs) h
 |_=>none
def ints (f:IntKind->Int->Int->H->dE->Out)(x y:XV):XO:=fun _ _ sl h k=>match bG sl x,bG sl y with
 | .int p a,.int q b=>bif eD p q then f p a b h k else none
 |_,_=>none
def EE (p:IntKind)(n:Int)(h:H)(K:dE):Out:=bif zY p n then lL n fun n=>K (.int p n) h else K (.int p (p.wrap n)) h
def Nj (p:IntKind)(a b:Int)(h:H)(k:dE):Out:=EE p (Int.add a b) h k
def Nk (p:IntKind)(a b:Int)(h:H)(k:dE):Out:=EE p (Int.sub a b) h k
def Qr (p:IntKind)(a b:Int)(h:H)(k:dE):Out:=EE p (Int.mul a b) h k
def Nl (p:IntKind)(a b:Int)(h:H)(k:dE):Out:=bif Jg b 0 then none else ED p (Int.tdiv a b) h k
def Nn (p:IntKind)(a b:Int)(h:H)(k:dE):Out:=bif Jg b 0 then none else ED p (Int.tmod a b) h k
def Kq (_:IntKind)(a b:Int)(h:H)(k:dE):Out:=eH (HP a b) h k
def Kr (_:IntKind)(a b:Int)(h:H)(k:dE):Out:=eH (!HP b a) h k
def Ks (_:IntKind)(a b:Int)(h:H)(k:dE):Out:=eH (HP b a) h k
def Kt (_:IntKind)(a b:Int)(h:H)(k:dE):Out:=eH (!HP a b) h k
def Ku (eq:hJ)(neg:Bool)(x y:XV):XO:=fun _ _ sl h k=>match eq (bG sl x) (bG sl y)with
 |some b=>eH (bne b neg) h k
 |none=>none
def Np (x y:XV):XO:=fun _ _ sl h k=>match bG sl x,bG sl y with
 | .str a,.str b=>bif Nat.blt (Nat.add (gI a) (gI b)) 10000000 then xx a b fun l=>k (.str l) h else none
 |_,_=>none
def sA (f:List Nat->List Nat->Bool)(x y:XV):XO:=fun _ _ sl h k=>match bG sl x,bG sl y with
 | .str a,.str b=>eH (f a b) h k
 |_,_=>none
def AR (a b:List Nat):Bool:=Ji a b
def US (a b:List Nat):Bool:=Ji a b||GU a b
def Nq (a b:List Nat):Bool:=!(Ji a b||GU a b)
def Nr (a b:List Nat):Bool:=!Ji a b
def FV (neg:Bool)(x:XV):XO:=fun _ _ sl h k=>match bG sl x with
 | .eG=>k (.bool (!neg)) h
 | .ptr _ _=>k (.bool neg) h
 |_=>none
def pP (neg:Bool)(x:XV):XO:=fun _ _ sl h k=>match bG sl x with
 | .aE=>k (.bool (!neg)) h
 | .sl _ _ _ _ _=>k (.bool neg) h
 | .raw none _ _=>k (.bool (!neg)) h
 | .raw (some _) _ _=>k (.bool neg) h
 |_=>none
def SL (neg:Bool)(x:XV):XO:=fun _ _ sl h k=>match bG sl x with
 | .dt=>k (.bool (!neg)) h
 | .mp _=>k (.bool neg) h
 |_=>none
def SM (neg:Bool)(x:XV):XO:=fun _ _ sl h k=>match bG sl x with
 | .jb=>k (.bool (!neg)) h
 | .fn _ _=>k (.bool neg) h
 |_=>none
def Kv (x:XV):XO:=fun _ _ sl h k=>match bG sl x with
 | .bool b=>eH (!b) h k
 |_=>none
def Ns (p:IntKind)(n:Int)(h:H)(K:dE):Out:=match p,n with
 | .u64,.negSucc m=>bif Nat.ble m 18446744073709551615 then cA (Nat.sub 18446744073709551615 m) fun m=>K (.int .u64 (.ofNat m)) h else none
 |p,n=>ED p n h K
def Qs (x:XV):XO:=fun _ _ sl h k=>match bG sl x with
 | .int p n=>Ns p (Int.neg n) h k
 |_=>none
def zZ (p:IntKind)(x:XV):XO:=fun _ _ sl h k=>match bG sl x with
 | .int _ n=>Ns p n h k
 |_=>none
def Cl (x:XV):XO:=fun _ _ sl h k=>match bG sl x with
 | .str s=>k (.str s) h
 |_=>none
def HU (x:XV):XO:=fun c _ sl h k=>match bG sl x with
 | .aE=>k (.str []) h
 | .sl id off n _ _=>dB c h id fun vs=>iO off vs fun vs=>fI n vs fun vs=>Kn vs fun bs=>k (.str bs) h
 |_=>none
def lQ (esz:Nat)(x:XV)(lo hi:Option XV):XO:=fun _ _ sl h k=>match bG sl x with
 | .aE=>match cQ sl 0 lo,cQ sl 0 hi with
  |some 0,some 0=>k .aE h
  |_,_=>none
 | .sl id off n es cap=>match cQ sl 0 lo,cQ sl n hi with
  |some l,some u=>
   bif Nat.ble l u&&Nat.ble u n&&Nat.beq es esz then
    cA (Nat.add off (Nat.mul l esz)) fun o=>cA (Nat.sub u l) fun m=>
     match cap with
     |none=>k (.sl id o m es none) h
     |some cp=>cA (Nat.sub cp l) fun cp=>k (.sl id o m es (some cp)) h
   else none
  |_,_=>none
 |_=>none
def pR (x:XV)(lo hi:Option XV):XO:=fun _ _ sl h k=>match bG sl x with
 | .str s=>match cQ sl 0 lo,cQ sl (gI s) hi with
  |some l,some u=>bif Nat.ble l u&&Nat.ble u (gI s)then iO l s fun s=>fI (Nat.sub u l) s fun bs=>k (.str bs) h else none
  |_,_=>none
 |_=>none
def vu (o:Nat)(x:XV):XO:=fun _ _ sl h k=>match bG sl x with
 | .ptr id off=>cA (Nat.add off o) fun o=>k (.ptr id o) h
 |_=>none
def Cm (o:Nat)(x:XV):XO:=fun _ _ sl h k=>match bG sl x with
 | .agg vs=>match nth o vs with
  |some v=>k v h
  |none=>none
 |_=>none
def SN (n o:Nat)(x:XV):XO:=fun _ _ sl h k=>match bG sl x with
 | .agg vs=>iO o vs fun vs=>fI n vs fun vs=>k (.agg vs) h
 |_=>none
def vv (esz:Nat)(x i:XV):XO:=fun _ _ sl h k=>match bG sl x,asNat (bG sl i)with
 | .sl id off n _ _,some i=>bif Nat.blt i n then cA (Nat.add off (Nat.mul i esz)) fun o=>k (.ptr id o) h else none
 |_,_=>none
def Cn (x i:XV):XO:=fun _ _ sl h k=>match bG sl x,asNat (bG sl i)with
 | .str s,some i=>match nth i s with
  |some b=>k (.int .u8 (.ofNat b)) h
  |none=>none
 |_,_=>none
def mq (ok:Bool)(v:AV)(b:Bool)(h:H)(k:dE):Out:=bif ok then k (.bn [v,.bool b]) h else k v h
def z6 (eq:hJ)(key:AV)(k:Unit->Out):Out:=match eq key key with
 |some true=>k ()
 |_=>none
def pT (eq:hJ)(z:AV)(x key:XV)(ok:Bool):XO:=fun c _ sl h k=>z6 eq (bG sl key) fun _=>match bG sl x with
 | .dt=>mq ok z false h k
 | .mp id=>match cr c h id with
  |some (.map es _)=>match fJ eq (bG sl key) es 0 with
   |some (some (_,v))=>mq ok v true h k
   |some none=>mq ok z false h k
   |none=>none
  |_=>none
 |_=>none
def pU (eq:hJ)(m key:XV):XO:=fun c _ sl h k=>z6 eq (bG sl key) fun _=>match bG sl m with
 | .mp id=>match cr c h id with
  |some (.map es clock)=>match fJ eq (bG sl key) es 0 with
   |some (some (i,_))=>pJ c h id (.map (es.eraseIdx i) clock) fun h=>k (.bn []) h
   |some none=>pJ c h id (.map es clock) fun h=>k (.bn []) h
   |none=>none
  |_=>none
 |_=>none
def rv (eq:hJ)(m key v:XV):XO:=fun c _ sl h k=>z6 eq (bG sl key) fun _=>match bG sl m with
 | .mp id=>match cr c h id with
  |some (.map es clock)=>match fJ eq (bG sl key) es 0 with
   |some (some (i,_))=>HT (bG sl v) i es fun es=>pJ c h id (.map es clock) fun h=>k (.bn []) h
   |some none=>xx es [(bG sl key,bG sl v,clock)] fun es=>cA (Nat.succ clock) fun clock=>pJ c h id (.map es clock) fun h=>k (.bn []) h
   |none=>none
  |_=>none
 |_=>none
def vw:XO:=fun _ _ _ h k=>pK h (.map [] 0) fun id h=>k (.mp id) h
def lR (z:List AV)(l cp:XV):XO:=fun _ _ sl h k=>match asNat (bG sl l),asNat (bG sl cp)with
 |some l,some cp=>bif Nat.ble l cp&&Nat.blt cp 1000000 then Km cp z fun vs=>pK h (.cells vs) fun id h=>k (.sl id 0 l (gI z) (some cp)) h else none
 |_,_=>none
def Co (x:XV)(i:Nat):XO:=fun _ _ sl h k=>match bG sl x with
 | .bn vs=>match nth i vs with
  |some v=>k v h
  |none=>none
 |_=>none
def Cp (f:Nat)(cs:List XV):XO:=fun _ _ sl h k=>HS sl cs fun cs=>k (.fn f cs) h
def Cq (x:XV):XO:=fun c _ sl h k=>match bG sl x with
 | .str s=>cA (gI s) fun n=>k (.int .i64 (.ofNat n)) h
 |_=>none
def vx (x:XV):XO:=fun c _ sl h k=>match bG sl x with
 | .aE=>k (.int .i64 (.ofNat 0)) h
 | .sl _ _ n _ _=>k (.int .i64 (.ofNat n)) h
 | .raw _ n _=>k (.int .i64 (.ofNat n)) h
 |_=>none
def FW (x:XV):XO:=fun c _ sl h k=>match bG sl x with
 | .dt=>k (.int .i64 (.ofNat 0)) h
 | .mp id=>match cr c h id with
  |some (.map es _)=>cA (gI es) fun n=>k (.int .i64 (.ofNat n)) h
  |_=>none
 |_=>none
def xA (c:C)(h:H)(esz:Nat)(x:AV)(k:Nat->List AV->Out):Out:=match x with
 | .aE=>k 0 []
 | .sl id off n es _=>bif Nat.beq es esz then dB c h id fun vs=>iO off vs fun vs=>fI (Nat.mul n esz) vs fun vs=>k n vs else none
 | .raw _ n _=>bif Nat.beq n 0 then k 0 []else none
 |_=>none
def fK (cap:Option Nat)(m:Nat):Bool:=match cap with
 |some cp=>Nat.blt cp m
 |none=>false
def pV (c:C)(h:H)(esz by_:Nat)(s:AV)(n:Nat)(news:List AV)(k:dE):Out:=match s with
 | .aE=>bif Nat.beq n 0 then k .aE h else bif Nat.blt 140737488355328 (Nat.mul n by_)then none else pK h (.cells news) fun id h=>k (.sl id 0 n esz none) h
 | .sl id off m es cap=>
  bif Nat.beq es esz then
   bif Nat.beq n 0 then k (.sl id off m es cap) h else
   dB c h id fun vs=>iO off vs fun vs=>fI (Nat.mul m esz) vs fun vs=>xx vs news fun vs=>cA (Nat.add m n) fun m'=>bif Nat.blt 140737488355328 (Nat.mul m' by_)then none else
    bif fK cap m' then pK h (.cells vs) fun id' h=>k (.sl id' 0 m' esz none) h
    else pJ c h id .dead fun h=>pK h (.cells vs) fun id' h=>k (.sl id' 0 m' esz none) h
  else none
 |_=>none
def eo (esz by_:Nat)(s x:XV):XO:=fun c _ sl h k=>xA c h esz (bG sl x) fun n news=>bif cy news then pV c h esz by_ (bG sl s) n news k else none
def Cr (f:XV)(args:List XV):XO:=fun c call sl h k=>match bG sl f with
 | .Nc f first caps=>HS sl args fun vs=>xx vs caps fun vs=>xx first vs fun vs=>match call (.fn f) vs c h with
  |some (v,h)=>k v h
  |none=>none
 | .fn f caps=>HS sl args fun vs=>xx vs caps fun vs=>match call (.fn f) vs c h with
  |some (v,h)=>k v h
  |none=>none
 | .Dn id=>HS sl args fun vs=>match call (.Dn id) vs c h with
  |some (v,h)=>k v h
  |none=>none
 |_=>none
def Kw (t:Nat)(x:XV):XO:=fun _ _ sl h k=>k (.iface t (bG sl x)) h
def z7 (t:Nat)(z:AV)(x:XV):XO:=fun _ _ sl h k=>match bG sl x with
 | .iface t' v=>bif Nat.beq t' t then k (.bn [v,.bool true]) h else k (.bn [z,.bool false]) h
 | .sT=>k (.bn [z,.bool false]) h
 |_=>none
def UT (p:IntKind)(a b:Int)(h:H)(k:dE):Out:=bif HP a b then k (.int p b) h else k (.int p a) h
def Nt (p:IntKind)(a b:Int)(h:H)(k:dE):Out:=bif HP b a then k (.int p b) h else k (.int p a) h
def pW (f:Nat->Nat->Nat)(p:IntKind)(a b:Int)(h:H)(k:dE):Out:=match a,b with
 | .ofNat m,.ofNat n=>bif zY p (.ofNat m)&&zY p (.ofNat n)then ED p (.ofNat (f m n)) h k else none
 |_,_=>none
def Qt:Nat:=18446744073709551615
def Nu (p:IntKind)(a b:Int)(h:H)(k:dE):Out:=match p,a,b with
 | .u64,.ofNat m,.ofNat n=>bif zY .u64 (.ofNat m)&&zY .u64 (.ofNat n)then ED .u64 (.ofNat (Nat.land m (Nat.sub Qt n))) h k else none
 |_,_,_=>none
def Cs (n:Nat)(x i:XV):XO:=fun _ _ sl h k=>match bG sl x,asNat (bG sl i)with
 | .agg vs,some i=>bif Nat.blt i n then match nth i vs with
     |some v=>k v h
     |none=>none
  else none
 |_,_=>none
def mr (n esz:Nat)(x i:XV):XO:=fun _ _ sl h k=>match bG sl x,asNat (bG sl i)with
 | .ptr id off,some i=>bif Nat.blt i n then cA (Nat.add off (Nat.mul i esz)) fun o=>k (.ptr id o) h else none
 |_,_=>none
def pX (x:XV):XO:=fun _ _ sl h k=>match bG sl x with
 | .int _ _=>pK h (.map [] 0) fun id h=>k (.mp id) h
 |_=>none
def SP (cap:Option Nat)(n m:Nat):Bool:=match cap with
 |some cp=>Nat.ble m cp
 |none=>Nat.ble m n
def Nv (esz:Nat)(x:XV)(lo hi mx:Option XV):XO:=fun _ _ sl h k=>match bG sl x with
 | .sl id off n es cap=>match cQ sl 0 lo,cQ sl n hi,cQ sl 0 mx with
  |some l,some u,some m=>
   bif Nat.ble l u&&Nat.ble u n&&Nat.ble u m&&SP cap n m&&Nat.beq es esz then
    cA (Nat.add off (Nat.mul l esz)) fun o=>cA (Nat.sub u l) fun w=>cA (Nat.sub m l) fun cp=>k (.sl id o w es (some cp)) h
   else none
  |_,_,_=>none
 |_=>none
def ry (x:XV):XO:=fun c _ sl h k=>match bG sl x with
 | .dt=>pK h (.iter none 0 [] 0) fun id h=>k (.ptr id 0) h
 | .mp m=>match cr c h m with
  |some (.map _ clock)=>pK h (.iter (some m) clock [] clock) fun id h=>k (.ptr id 0) h
  |_=>none
 |_=>none
def Kx (x:XV):XO:=fun c _ sl h k=>match bG sl x with
 | .ptr id 0=>match cr c h id with
  |some (.iter none _ _ _)=>k (.bn [.bool false]) h
  |some (.iter (some m) since seen last)=>match cr c h m with
   |some (.map es clock)=>match es with
    |[]=>k (.bn [.bool false]) h
    |[e]=>match seen with
     |[]=>bif Nat.blt e.2.2 since then pJ c h id (.iter (some m) since [e.2.2] clock) fun h=>k (.bn [.bool true,e.1,e.2.1]) h else none
     |[b]=>bif Nat.beq b e.2.2&&Nat.blt e.2.2 last then k (.bn [.bool false]) h else none
     |_=>none
    |_=>none
   |_=>none
  |_=>none
 |_=>none
def yc (b:Nat):List (AV×AV×Nat)->Option (AV×AV)
 |[]=>none
 |e::es=>bif Nat.beq e.2.2 b then some (e.1,e.2.1)else yc b es
def Ct:List Nat->Option Nat
 |[]=>none
 |x::l=>match l with
  |[]=>some x
  |_::_=>Ct l
def rz (c:C)(h:H)(m stepped b:Nat)(k:dE):Out:=match cr c h m with
 |some (.map es clock)=>bif Nat.beq clock stepped then match yc b es with
     |some p=>k (.bn [p.1,p.2]) h
     |none=>none
  else none
 |_=>none
def rA (x:XV):XO:=fun c _ sl h k=>match bG sl x with
 | .ptr id 0=>match cr c h id with
  |some (.iter (some m) _ seen stepped)=>match Ct seen with
   |some b=>rz c h m stepped b k
   |none=>none
  |some (.x8 m _ b stepped _)=>rz c h m stepped b k
  |_=>none
 |_=>none
def Nw:XO:=fun _ _ _ _ _=>none
structure XR where
 dst:Option Nat
 op:XO
 guard:Option (Nat×Bool)
 bl:Nat
 mem:Bool
 oh:Bool
 eI:Option XV
inductive XC where
 |skip
 |cN (ops:List XR)
 |bI (ops:List XR)
 |seq (a b:XC)
 |cond (c:XV) (a b:XC)
 |block (id:Nat) (b:XC)
 |loop (b:XC)
 |exit (id:Nat)
 |ret
 |bad
structure XF where
 nt:Nat
 res:List (Nat×Option (Option Nat))
 body:XC
inductive XT where
 |fn (x:XF)
 |ext (g:List AV->Option AV)
def qV (c:Nat):List Nat->Nat->Int
 |[],_=> .negSucc 0
 |b::bs,i=>bif Nat.beq b c then .ofNat i else qV c bs (Nat.succ i)
def dq (sl:Tr AV):Option (Nat×Bool)->Bool
 |none=>true
 |some (t,w)=>match slot sl t with
  | .bool b=>b==w
  |_=>false
def SU:AV->Bool
 | .var _| .top=>false
 |_=>true
def okW (sl:Tr AV):Option (Nat×Bool)->Bool
 |none=>true
 |some (t,_)=>SU (slot sl t)
def rB {R:Type}(nt:Nat)(sl:Tr AV)(d:Option Nat)(v:AV)(k:Tr AV->Option R):Option R:=
 match d with
 |none=>k sl
 |some d=>bif Nat.blt d nt then Tr.xw depth sl d v k else none
def ic (c:C)(call:dS)(nt:Nat):List XR->Tr AV->H->Option (Tr AV×H)
 |[],sl,h=>some (sl,h)
 |o::ops,sl,h=>
  bif dq sl o.guard then o.op c call sl h fun v h=>rB nt sl o.dst v fun sl=>ic c call nt ops sl h
  else bif okW sl o.guard then rB nt sl o.dst (.bn []) fun sl=>ic c call nt ops sl h else none
def cI (bl:Nat)(base:List (Nat×Nat)):List (Nat×Nat×Nat)->List (Nat×Nat)
 |[]=>base
 |r::rs=>bif Nat.testBit bl r.1&&Nat.blt 0 r.2.2 then(r.2.1,r.2.2)::cI bl base rs else cI bl base rs
def gQ:Nat:=0
def bw (n:Nat):List (Nat×Nat)->List (Nat×Nat)
 |[]=>[]
 |r::rs=>bif Nat.ble n r.1 then bw n rs else bif Nat.ble r.2 n&&Nat.blt 0 r.2 then r::bw n rs else(r.1,n)::bw n rs
def z8:AV->Option Nat
 | .ptr id _=>some id
 | .sl id _ _ _ _=>some id
 | .mp id=>some id
 |_=>none
def jZ (bl A:Nat):List (Nat×Tr AB×Tr AB)->Bool
 |[]=>true
 |b::bs=>(Nat.testBit bl b.1||sV (Tr.get b.2.1 A) (Tr.get b.2.2 A))&&jZ bl A bs
def iQ (bl:Nat)(t t':Tr AB):List (Nat×Nat)->Bool
 |[]=>true
 |f::fs=>(Nat.testBit bl f.1||sV (Tr.get t f.2) (Tr.get t' f.2))&&iQ bl t t' fs
def eF (i n n':Nat)(rs:List (Nat×Nat×Nat)):List (Nat×Nat×Nat):=bif Nat.beq n n' then rs else(i,n,n')::rs
def cL (c:C)(call:dS)(nt:Nat)(base:List (Nat×Nat)):List XR->Nat->List (Nat×Nat×Nat)->List (Nat×Tr AB×Tr AB)->List (Nat×Nat)->Tr AV->H->Option (Tr AV×H)
 |[],_,_,_,_,sl,h=>some (sl,h)
 |o::ops,i,rs,bs,fs,sl,h=>
  bif dq sl o.guard then
   match o.eI with
   |some x=>match z8 (bG sl x)with
    |some A=>bif seen ((h.n,gQ)::cI o.bl base rs) A&&jZ o.bl A bs then
        o.op ⟨h.n,[(h.n,gQ),(A,Nat.succ A)]⟩ call sl h fun v h'=>rB nt sl o.dst v fun sl=>cL c call nt base ops (Nat.succ i) (eF i h.n h'.n rs) bs ((i,A)::fs) sl h'
     else none
    |none=>o.op ⟨h.n,[(h.n,gQ)]⟩ call sl h fun v h'=>rB nt sl o.dst v fun sl=>cL c call nt base ops (Nat.succ i) (eF i h.n h'.n rs) bs fs sl h'
   |none=>
    bif o.mem then
     bif o.oh then
      o.op ⟨c.floor,(h.n,gQ)::cI o.bl base rs⟩ call sl h fun v h'=>bif iQ o.bl h.t h'.t fs then rB nt sl o.dst v fun sl=>cL c call nt base ops (Nat.succ i) (eF i h.n h'.n rs) ((i,h.t,h'.t)::bs) fs sl h' else none
     else
      o.op ⟨h.n,(h.n,gQ)::cI o.bl base rs⟩ call sl h fun v h'=>rB nt sl o.dst v fun sl=>cL c call nt base ops (Nat.succ i) (eF i h.n h'.n rs) bs fs sl h'
    else
     o.op ⟨h.n,[(h.n,gQ)]⟩ call sl h fun v h'=>rB nt sl o.dst v fun sl=>cL c call nt base ops (Nat.succ i) (eF i h.n h'.n rs) bs fs sl h'
  else bif okW sl o.guard then rB nt sl o.dst (.bn []) fun sl=>cL c call nt base ops (Nat.succ i) rs bs fs sl h else none
inductive Task where
 |code (nt:Nat) (rd:Bool) (x:XC) (sl:Tr AV) (ds:List Nat)
 |call (f:Qq) (args:List AV)
inductive lh where
 |bad
 |code (e:Ex) (sl:Tr AV) (ds:List Nat) (h:H)
 |call (v:AV) (h:H)
def j5 (c:C)(h:H)(sl:Tr AV):List (Nat×Option (Option Nat))->(List AV->lh)->lh
 |[],k=>k []
 |r::rs,k=>
  match r.2 with
  |none=>j5 c h sl rs fun vs=>k (slot sl r.1::vs)
  |some n=>match slot sl r.1 with
   | .ptr id off=>match cr c h id with
    |some (.cells vs)=>match n with
     |none=>match nth off vs with
      |some v=>j5 c h sl rs fun vs=>k (v::vs)
      |none=> .bad
     |some n=>match iO off vs fun vs=>fI n vs fun vs=>some vs with
      |some cs=>j5 c h sl rs fun vs=>k (.agg cs::vs)
      |none=> .bad
    |_=> .bad
   |_=> .bad
def slotsOf:List AV->Nat->Tr AV->(Tr AV->lh)->lh
 |[],_,sl,k=>k sl
 |v::vs,i,sl,k=>Tr.xw depth sl i v fun sl=>slotsOf vs (Nat.succ i) sl k
abbrev Runner:=C->Task->H->lh
def eC (ih:Runner):dS:=fun f args c h=>match ih c (.call f args) h with
 | .call v h=>some (v,h)
 |_=>none
def rC (ds:List Nat):Out->lh
 |some (sl,h)=> .code .normal sl ds h
 |none=> .bad
def dT (ih:Runner)(c:C)(nt:Nat)(rd:Bool)(b:XC):lh->lh
 | .code .normal sl ds h=>ih c (.code nt rd b sl ds) h
 |r=>r
def ee (id:Nat):lh->lh
 | .code (.exit id') sl ds h=>bif Nat.beq id' id then .code .normal sl ds h else .code (.exit id') sl ds h
 |r=>r
def mw (ih:Runner)(c:C)(nt:Nat)(rd:Bool)(a b:XC)(sl:Tr AV)(ds:List Nat)(h:H):AV->lh
 | .bool true=>ih c (.code nt rd a sl ds) h
 | .bool false=>ih c (.code nt rd b sl ds) h
 |_=> .bad
def Ky (r:Option lh):lh:=match r with|some r=>r|none=> .bad
/-! a range over a map whose rounds do not meddle with each other -/
structure VE where
 id:Nat
 i:Nat
 v:Nat
 b:Nat
 fin:AV
def iR (ih:Runner)(c:C)(nt:Nat)(rd:Bool)(x:XC)(sl:Tr AV)(ds:List Nat)(h:H):lh:=
 match x with
 | .skip=> .code .normal sl ds h
 | .cN ops=>rC ds (ic c (eC ih) nt ops sl h)
 | .bI ops=>rC ds (cL c (eC ih) nt (bw h.n c.cd) ops 0 [] [] [] sl h)
 | .seq a b=>dT ih c nt rd b (ih c (.code nt rd a sl ds) h)
 | .cond v a b=>mw ih c nt rd a b sl ds h (bG sl v)
 | .block id b=>ee id (ih c (.code nt rd b sl ds) h)
 | .loop b=>dT ih c nt rd (.loop b) (ih c (.code nt rd b sl ds) h)
 | .exit id=> .code (.exit id) sl ds h
 | .ret=> .code .ret sl ds h
 | .bad=> .bad
def gv (h:H):List AV->lh
 |[v]=> .call v h
 |vs=> .call (.bn vs) h
def sB (c:C):List Nat->H->(H->lh)->lh
 |[],h,k=>k h
 |d::ds,h,k=>match cr c h d with
  |some .Nh=>Ky (pJ c h d .dead fun h=>some (sB c ds h k))
  |_=> .bad
def Aa (c:C)(rs:List (Nat×Option (Option Nat))):lh->lh
 | .code (.exit _) _ _ _=> .bad
 | .code _ sl ds h=>sB c ds h fun h=>j5 c h sl rs fun vs=>gv h vs
 |_=> .bad
def jk (ih:Runner)(c:C)(args:List AV)(h:H):Option XT->lh
 |none=> .bad
 |some (.ext g)=>match g args with
  |some v=> .call v h
  |none=> .bad
 |some (.fn fn)=>bif Nat.ble (gI args) fn.nt then slotsOf args 0 .nil fun sl=>Aa c fn.res (ih c (.code fn.nt false fn.body sl []) h)else .bad
structure HV where
 f:Nat
 args:List AV
 c:C
 h:H
 v:AV
 h':H
def SV:List (Nat×Nat)->List (Nat×Nat)->Bool
 |[],[]=>true
 |a::azs,b::bs=>Nat.beq a.1 b.1&&Nat.beq a.2 b.2&&SV azs bs
 |_,_=>false
def tv {β:Type}(f:β->β->Bool)(x y:O4 β):Bool:=match x,y with
 | .nil,.nil=>true
 | .node a b c d,.node a' b' c' d'=>f a a'&&f b b'&&f c c'&&f d d'
 |_,_=>false
def UU:T1 AB->T1 AB->Bool:=tv sV
def UW:T2 AB->T2 AB->Bool:=tv UU
def SX:T3 AB->T3 AB->Bool:=tv UW
def UX:T4 AB->T4 AB->Bool:=tv SX
def SY:T5 AB->T5 AB->Bool:=tv UX
def UY:T6 AB->T6 AB->Bool:=tv SY
def SZ:T7 AB->T7 AB->Bool:=tv UY
def UZ:T8 AB->T8 AB->Bool:=tv SZ
def U0:T9 AB->T9 AB->Bool:=tv UZ
def S5:Nf AB->Nf AB->Bool:=tv U0
def S6:Ng AB->Ng AB->Bool:=tv S5
def S7:Kk AB->Kk AB->Bool:=tv S6
def S8:List (Nat×AB)->List (Nat×AB)->Bool
 |[],[]=>true
 |a::azs,b::bs=>Nat.beq a.1 b.1&&Kp a.2 b.2&&S8 azs bs
 |_,_=>false
def U1 (x y:Tr AB):Bool:=SX x.a y.a&&SY x.b y.b&&SZ x.c y.c&&S7 x.d y.d&&S8 x.e y.e
def S9 (m:HV)(f:Nat)(args:List AV)(c:C)(h:H):Bool:=
 Nat.beq m.f f&&Nat.beq m.c.floor c.floor&&SV m.c.cd c.cd&&Nat.beq m.h.n h.n&&iP m.args args&&U1 m.h.t h.t
def Ab (f:Nat)(args:List AV)(c:C)(h:H):List HV->Option HV
 |[]=>none
 |m::ms=>bif S9 m f args c h then some m else Ab f args c h ms
abbrev Mf:=Nat->List AV->C->H->Option (AV×H)
def yd (ms:List HV):Mf:=fun f args c h=>match Ab f args c h ms with
 |some m=>some (m.v,m.h')
 |none=>none
def Vw:Mf:=fun _ _ _ _=>none
def step (comp:Code->XC)(tbl:Nat->Option XT)(M:Mf)(ih:Runner)(c:C)(t:Task)(h:H):lh:=
 match t with
 | .code nt rd x sl ds=>iR ih c nt rd x sl ds h
 | .call (.fn f) args=>match M f args c h with
  |some r=> .call r.1 r.2
  |none=>jk ih c args h (tbl f)
 | .call (.Jc f) args=>match tbl f with
  |some (.fn x)=>jk ih c args h (some (.fn x))
  |_=> .bad
 | .call (.Dn _) _=> .bad
def ev (comp:Code->XC)(tbl:Nat->Option XT)(M:Mf):Nat->C->Task->H->lh
 |0,_,_,_=> .bad
 |n+1,c,t,h=>step comp tbl M (ev comp tbl M n) c t h
end Go.Proofs.YtemehfgkfidgjaaGreatDoor.Ev
