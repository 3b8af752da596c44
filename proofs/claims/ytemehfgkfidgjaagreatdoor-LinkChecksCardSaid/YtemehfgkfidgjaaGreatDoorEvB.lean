/- CoverStates, part 2 -/
import Derived.Test.YtemehfgkfidgjaaGreatDoorEvA
import Derived.Below
set_option linter.all false
namespace Go.Proofs.YtemehfgkfidgjaaGreatDoor.Ev
open Go
def sC:Value->Option AV
 | .bool b=>some (.bool b)
 | .int k n=>some (.int k n)
 | .string s=>some (.str (s.data.toList.map UInt8.toNat))
 | .pointer none=>some .eG
 | .slice none 0 0=>some .aE
 | .map none=>some .dt
 | .nilFunc=>some .jb
 | .nilIface=>some .sT
 | .func (.func f) first caps=>if first.isEmpty&&caps.isEmpty then some (.fn f [])else none
 |_=>none
def Qu:Value->Option AV
 | .agg cs=>(cs.toList.mapM sC).map .agg
 | .tuple cs=>(cs.toList.mapM sC).map .bn
 |v=>sC v
def cV:Operand->Option XV
 | .tmp t=>some (.tmp t)
 | .const v=>(Qu v).map .const
 | .global g=>some (.Cg g)
 | .func f=>some (.const (.fn f []))
section
variable (P:Program)
def EF (t:TypeId):Option (Option Nat):=
 match P.underlying t,P.info? t with
 |some (.struct _),some i|some (.array _ _),some i=>some (some i.size)
 |some _,some _=>some none
 |_,_=>none
def ig (t:TypeId):Option AV:=do Qu (<-(<-P.info? t).zero)
def tw (t:TypeId):Option Nat:=(P.info? t).map (·.size)
def rD (x:Option Operand):Option (Option XV):=match x with|none=>some none|some x=>(cV x).map some
def kx (place:Nat->Option (Nat×Nat)):List (Nat×Operand)->Option (List (Nat×Nat×XV))
 |[]=>some []
 |q::qs=>do
  let p<-place q.1
  let x<-cV q.2
  pure ((p.1,p.2,x)::(<-kx place qs))
def sD (e:TypeId):Option Nat:=match P.info? e with
 |some i=>match i.zero with
  |some z=>if z.cells.size=i.size/\i.bytes<=1000000 then some i.size else none
  |none=>none
 |none=>none
def Nx (e:TypeId):Option Nat:=match P.info? e with
 |some i=>if 0<i.bytes then some i.bytes else none
 |none=>none
def Cu (t:TypeId):Option hJ:=match P.underlying t with
 |some (.int _)=>some sy
 |some .string=>some eqStr
 |some .bool=>some Ko
 |_=>none
def fL (i:Nat):List Field->Option (List hJ)
 |[]=>some []
 |f::fs=>if f.offset=i/\f.name≠ "_" then do pure ((<-Cu P f.type)::(<-fL (i+1) fs))else none
def MJ (t:TypeId):Option hJ:=match P.underlying t with
 |some (.struct fs)=>if P.stoodInHeld t=false/\P.eqGuardType P.depth t=false then(fL P 0 fs.toList).map pM else none
 |_=>Cu P t
def Qv (t:TypeId):Option hJ:=match P.underlying t with
 |some (.array 2 e)=>match tw P e with
  |some 1=>(Cu P e).map fun g=>pM [g,g]
  |_=>none
 |_=>none
def Ta (t:TypeId):Option hJ:=match MJ P t with
 |some e=>some e
 |none=>Qv P t
def Kz (c:Call):Option XO:=
 match c.callee with
 | .builtin .len=>match c.args.toList,c.argTypes.toList with
  |[x],[t]=>match P.underlying t with
   |some .string=>(cV x).map Cq
   |some (.slice _)=>(cV x).map vx
   |some (.map _ _)=>(cV x).map FW
   |_=>none
  |_,_=>none
 | .builtin .append=>match c.args.toList,c.argTypes.toList with
  |[s,x],[t,t2]=>match P.underlying t,P.underlying t2 with
   |some (.slice e),some (.slice _)=>do pure (eo (<-sD P e) (<-Nx P e) (<-cV s) (<-cV x))
   |_,_=>none
  |_,_=>none
 | .builtin .min=>match c.args.toList with
  |[x,y]=>do pure (ints Nt (<-cV x) (<-cV y))
  |_=>none
 | .builtin .delete=>match c.args.toList,c.argTypes.toList with
  |[m,k],[t,_]=>match P.underlying t with
   |some (.map q _)=>do pure (pU (<-Ta P q) (<-cV m) (<-cV k))
   |_=>none
  |_,_=>none
 | .value f=>do pure (Cr (<-cV f) (<-c.args.toList.mapM cV))
 |_=>none
def Ny (neg:Bool)(t:TypeId)(x y:Operand):Option XO:=
 match P.underlying t,y with
 |some (.pointer _),.const (.pointer none)=>(cV x).map (FV neg)
 |some (.slice _),.const (.slice none 0 0)=>(cV x).map (pP neg)
 |_,_=>do pure (Ku (<-MJ P t) neg (<-cV x) (<-cV y))
def Qw (op:BinOp)(t:TypeId)(x y:Operand):Option XO:=
 match op,P.underlying t with
 | .eql,_=>Ny P false t x y
 | .neq,_=>Ny P true t x y
 | .add,some (.int _)=>do pure (ints Nj (<-cV x) (<-cV y))
 | .sub,some (.int _)=>do pure (ints Nk (<-cV x) (<-cV y))
 | .mul,some (.int _)=>do pure (ints Qr (<-cV x) (<-cV y))
 | .quo,some (.int _)=>do pure (ints Nl (<-cV x) (<-cV y))
 | .rem,some (.int _)=>do pure (ints Nn (<-cV x) (<-cV y))
 | .lss,some (.int _)=>do pure (ints Kq (<-cV x) (<-cV y))
 | .leq,some (.int _)=>do pure (ints Kr (<-cV x) (<-cV y))
 | .gtr,some (.int _)=>do pure (ints Ks (<-cV x) (<-cV y))
 | .geq,some (.int _)=>do pure (ints Kt (<-cV x) (<-cV y))
 | .add,some .string=>do pure (Np (<-cV x) (<-cV y))
 | .lss,some .string=>do pure (sA AR (<-cV x) (<-cV y))
 | .gtr,some .string=>do pure (sA Nq (<-cV x) (<-cV y))
 | .geq,some .string=>do pure (sA Nr (<-cV x) (<-cV y))
 | .and,some (.int _)=>do pure (ints (pW Nat.land) (<-cV x) (<-cV y))
 | .xor,some (.int _)=>do pure (ints (pW Nat.xor) (<-cV x) (<-cV y))
 |_,_=>none
def cO (o:Oper):Option XO:=
 match o.op with
 | .move x| .assign x=>(cV x).map Ud
 | .pick c a b=>do pure (ya (<-cV c) (<-cV a) (<-cV b))
 | .alloc e=>do pure (Ck (.const (<-ig P e)))
 | .box _ x=>(cV x).map Ck
 | .build t ps=>match P.underlying t with
  |some (.struct fs)=>do
   let z<-ig P t
   let places<-fs.toList.mapM fun f=>(P.info? f.type).map fun i=>(f.offset,i.size)
   let ps<-kx (fun i=>places.toArray[i]?) ps.toList
   pure (ru z.cells ps)
  |some (.array _ e)=>do
   let z<-ig P t
   let s<-tw P e
   let ps<-kx (fun i=>some (i*s,s)) ps.toList
   pure (ru z.cells ps)
  |_=>none
 | .buildSlice t n ps=>match P.underlying t with
  |some (.slice e)=>do
   let s<-sD P e
   let z<-ig P e
   let ps<-kx (fun i=>some (i*s,s)) ps.toList
   if 0<s/\n*s<=1000000 then pure (pO n z.cells ps)else none
  |_=>none
 | .load t a=>match EF P t with
  |some none=>(cV a).map vo
  |some (some n)=>(cV a).map (vp n)
  |none=>none
 | .store t a x=>do pure (vq (<-tw P t) (<-cV a) (<-cV x))
 | .nilCheck x=>(cV x).map yb
 | .binOp op t x y _=>Qw P op t x y
 | .unOp .not _ x=>(cV x).map Kv
 | .unOp .neg _ x=>(cV x).map Qs
 | .convert s d x=>match P.underlying s,P.underlying d with
  |some (.int _),some (.int k)=>(cV x).map (zZ k)
  |some .string,some .string=>(cV x).map Cl
  |_,_=>none
 | .makeFunc (.func f) first caps=>if first.isEmpty then do pure (Cp f (<-caps.toList.mapM cV))else none
 | .makeInterface t x=>match P.underlying t with
  |some (.interface _)=>none
  |some _=>(cV x).map (Kw t)
  |none=>none
 | .typeAssert x _ t true=>match P.underlying t with
  |some (.interface _)=>none
  |some _=>do pure (z7 t (<-ig P t) (<-cV x))
  |none=>none
 | .makeMap _ none=>some vw
 | .makeMap t (some x)=>match P.underlying t with
  |some (.map _ _)=>(cV x).map pX
  |_=>none
 | .range t x=>match P.underlying t with
  |some (.map _ _)=>(cV x).map ry
  |_=>none
 | .next x false=>(cV x).map Kx
 | .entry x=>(cV x).map rA
 | .makeSlice t l c=>match P.underlying t with
  |some (.slice e)=>do
   let s<-sD P e
   let z<-ig P e
   if 0<s then pure (lR z.cells (<-cV l) (<-cV c))else none
  |_=>none
 | .slice t x lo hi none=>match P.underlying t with
  |some .string=>do pure (pR (<-cV x) (<-rD lo) (<-rD hi))
  |some (.slice e)=>do pure (lQ (<-tw P e) (<-cV x) (<-rD lo) (<-rD hi))
  |_=>none
 | .fieldAddr s x f=>match P.underlying s with
  |some (.struct fs)=>match fs[f]? with
   |some f=>match tw P f.type with
    |some (_+1)=>(cV x).map (vu f.offset)
    |_=>none
   |none=>none
  |_=>none
 | .field s x f=>match P.underlying s with
  |some (.struct fs)=>do
   let f<-fs[f]?
   match EF P f.type with
   |some none=>(cV x).map (Cm f.offset)
   |_=>none
  |_=>none
 | .indexAddr t x i=>match P.underlying t with
  |some (.slice e)=>do pure (vv (<-tw P e) (<-cV x) (<-cV i))
  |some (.array n e)=>do pure (mr n (<-tw P e) (<-cV x) (<-cV i))
  |_=>none
 | .index t x i=>match P.underlying t with
  |some .string=>do pure (Cn (<-cV x) (<-cV i))
  |some (.array n e)=>match EF P e,tw P e with
   |some none,some 1=>do pure (Cs n (<-cV x) (<-cV i))
   |_,_=>none
  |_=>none
 | .lookup t x i ok=>match P.underlying t with
  |some (.map q e)=>do pure (pT (<-Ta P q) (<-ig P e) (<-cV x) (<-cV i) ok)
  |_=>none
 | .mapUpdate t m k v| .insert t m k v=>match P.underlying t with
  |some (.map q _)=>do pure (rv (<-Ta P q) (<-cV m) (<-cV k) (<-cV v))
  |_=>none
 | .extract x i=>do pure (Co (<-cV x) i)
 | .call c=>Kz P c
 |_=>none
def kz (o:Oper):Bool:=
 match o.op with
 | .store .. | .mapUpdate .. | .insert .. | .mapEntry .. | .entryStore .. =>true
 | .call c=>match c.callee with
  | .builtin .len| .builtin .max| .builtin .min=>false
  |_=>true
 | .range .. | .next .. | .entry .. =>true
 |_=>false
def Cw (o:Oper):Option Operand:=
 match o.op with
 | .load _ a=>some a
 | .lookup _ x _ _=>some x
 | .convert s _ x=>match P.underlying s with
  |some (.slice _)=>some x
  |_=>none
 | .call c=>match c.callee with
  | .builtin .len=>match c.argTypes.toList,c.args.toList with
   |[t],[x]=>match P.underlying t with
    |some (.map _ _)=>some x
    |_=>none
   |_,_=>none
  |_=>none
 |_=>none
def vy (ops:Array Oper)(g:Option (Nat×Bool)):Option (Option (Nat×Bool)):=
 match g with
 |none=>some none
 |some (j,w)=>match(ops[j]?).bind (·.dst)with
  |some d=>some (some (d,w))
  |none=>none
def Dp:Operand->Bool
 | .global g=>Nat.blt g P.globals.size
 |_=>true
def cR (ops:Array Oper)(bl:Nat)(o:Oper):XR:=
 match cO P o,vy ops o.guard,o.op.operands.toList.all (Dp P)with
 |some x,some g,true=>{dst:=o.dst,op:=x,guard:=g,bl:=bl,mem:=kz o,oh:=false,eI:=none}
 |_,_,_=>{dst:=o.dst,op:=Nw,guard:=none,bl:=bl,mem:=true,oh:=false,eI:=none}
def VF (ops:Array Oper):List XR:=ops.toList.map (cR P ops 0)
def FX (ops:Array Oper)(b:Array Nat)(j:Nat):Bool:=
 (List.range ops.size).all fun i=>!kz (ops.getD i default)||i==j||(if i<j then(b.getD j 0).testBit i else(b.getD i 0).testBit j)
def cD (ops:Array Oper)(b:Array Nat)(j:Nat):XR:=
 let x:=cR P ops (b.getD j 0) (ops.getD j default)
 {x with mem:=kz (ops.getD j default),oh:=kz (ops.getD j default)&&FX ops b j,eI:=(Cw P (ops.getD j default)).bind cV}
def KA (ops:Array Oper):List XR:=(List.range ops.size).map (cD P ops (Region.before ops))
def Pb (ops:Array Oper)(b:Array Nat):Bool:=
 (List.range ops.size).all fun j=>
  (b.getD j 0<2^j)&&((ops.getD j default).after.all fun e=>!Region.binds .any e||e.on<j)&&
  match(ops.getD j default).dst with
  |none=>true
  |some d=>(List.range ops.size).all fun i=>i==j||(if i<j then(b.getD j 0).testBit i else(b.getD i 0).testBit j)||!(((ops.getD i default).looksAt ops).contains d||(ops.getD i default).dst==some d)
def cC:Code->XC
 | .skip=> .skip
 | .region _ ops false=> .cN (VF P ops)
 | .region _ ops true=>bif Pb ops (Region.before ops)then .bI (KA P ops)else .bad
 | .seq a b=> .seq (cC a) (cC b)
 | .cond c a b=>match cV c,Dp P c with
  |some c,true=> .cond c (cC a) (cC b)
  |_,_=> .bad
 | .block id b=> .block id (cC b)
 | .loop b=> .loop (cC b)
 | .exit id=> .exit id
 | .ret=> .ret
 | .label _=> .skip
 |_=> .bad
def Ac:ResultVar->Option (Nat×Option (Option Nat))
 | .tmp t=>some (t,none)
 | .cell a t=>do pure (a,some (<-EF P t))
def cF (f:Func):Option XF:=do
 let b<-f.body
 let rs<-f.results.toList.mapM (Ac P)
 if f.ntmps<=1000000 then pure {nt:=f.ntmps,res:=rs,body:=cC P b}else none
def ye (f:Nat):Option XF:=(P.funcs[f]?).bind (cF P)
abbrev cj:=List (Nat×(List AV->Option AV))
def yf:cj->Nat->Option (List AV->Option AV)
 |[],_=>none
 |e::es,f=>bif Nat.beq e.1 f then some e.2 else yf es f
def bJ (X:cj)(f:Nat):Option XT:=match yf X f with
 |some g=>some (.ext g)
 |none=>(ye P f).map .fn
end
section
variable {dr:Prop}
structure Loc where
 blk:Nat
 base:Nat
 size:Nat
 val:Value
def dv:Value:= .nilFunc
abbrev bS:=Nat->Option Loc
def Sub (β β':bS):Prop:= ∀id L,β id=some L->β' id=some L
theorem Sub.refl (β:bS):Sub β β:=fun _ _ h=>h
theorem Sub.trans {β β' β'':bS}(h:Sub β β')(h':Sub β' β''):Sub β β'':=fun id L e=>h' id L (h id L e)
def GB (ng:Nat)(β:bS):Prop:= ∀g,g<ng-> ∃s,β g=some ⟨g,0,s,dv⟩
theorem GB.mono {ng:Nat}{β β':bS}(h:GB ng β)(hs:Sub β β'):GB ng β':=fun g hg=>by
 obtain⟨s,e⟩:=h g hg
 exact⟨s,hs _ _ e⟩
mutual
def VR (β:bS):AV->Value->Prop
 | .bool b,v=>v= .bool b
 | .int k n,v=>v= .int k n
 | .str s,v=> ∃b:ByteArray,v= .string b/\b.data.toList.map UInt8.toNat=s
 | .eG,v=>v= .pointer none
 | .ptr id off,v=> ∃L,β id=some L/\v= .pointer (some ⟨L.blk,L.base+off,none⟩)
 | .aE,v=>v= .slice none 0 0
 | .sl id off len esz cap,v=> ∃L o cp,β id=some L/\v= .slice (some ⟨L.blk,o,none⟩) len cp/\len<=cp/\o+cp*esz<=L.size/\(o=L.base+off\/(len=0/\cp=0))/\(∀c,cap=some c->cp=c)
 | .dt,v=>v= .map none
 | .mp id,v=> ∃L,β id=some L/\v= .map (some L.blk)
 | .jb,v=>v= .nilFunc
 | .fn f caps,v=> ∃cs,v= .func (.func f) #[] cs/\bh β caps cs.toList
 | .Nc f first caps,v=> ∃fs cs,v= .func (.func f) fs cs/\bh β first fs.toList/\bh β caps cs.toList
 | .sT,v=>v= .nilIface
 | .iface t x,v=> ∃c,v= .iface t c/\VR β x c
 | .Dn id,v=> ∃L,β id=some L/\v= .func (.yield L.blk) #[] #[]
 | .agg vs,v=> ∃cs,v= .agg cs/\bh β vs cs.toList
 | .bn vs,v=> ∃cs,v= .tuple cs/\bh β vs cs.toList
 | .raw oa n cp,v=>v= .slice oa n cp
 | .var id,v=> ∃L,β id=some L/\v=L.val/\v.cells= #[v]
 | .top,_=>True
def bh (β:bS):List AV->List Value->Prop
 |[],cs=>cs=[]
 |v::vs,cs=> ∃c cs',cs=c::cs'/\VR β v c/\bh β vs cs'
end
mutual
theorem VR.mono {β β':bS}(h:Sub β β'): ∀(v:AV) (c:Value),VR β v c->VR β' v c
 | .bool b,v,e=>by simpa[VR]using e
 | .int k n,v,e=>by simpa[VR]using e
 | .str s,v,e=>by simpa[VR]using e
 | .eG,v,e=>by simpa[VR]using e
 | .ptr id off,v,e=>by
  simp only[VR]at e⊢
  obtain⟨L,h1,h2⟩:=e
  exact⟨L,h _ _ h1,h2⟩
 | .aE,v,e=>by simpa[VR]using e
 | .sl id off len esz cap,v,e=>by
  simp only[VR]at e⊢
  obtain⟨L,o,cp,h1,h2⟩:=e
  exact⟨L,o,cp,h _ _ h1,h2⟩
 | .dt,v,e=>by simpa[VR]using e
 | .mp id,v,e=>by
  simp only[VR]at e⊢
  obtain⟨L,h1,h2⟩:=e
  exact⟨L,h _ _ h1,h2⟩
 | .jb,v,e=>by simpa[VR]using e
 | .fn f caps,v,e=>by
  simp only[VR]at e⊢
  obtain⟨cs,h1,h2⟩:=e
  exact⟨cs,h1,bh.mono h _ _ h2⟩
 | .Nc f first caps,v,e=>by
  simp only[VR]at e⊢
  obtain⟨fs,cs,h1,h2,h3⟩:=e
  exact⟨fs,cs,h1,bh.mono h _ _ h2,bh.mono h _ _ h3⟩
 | .sT,v,e=>by simpa[VR]using e
 | .iface t x,v,e=>by
  simp only[VR]at e⊢
  obtain⟨c,h1,h2⟩:=e
  exact⟨c,h1,VR.mono h _ _ h2⟩
 | .Dn id,v,e=>by
  simp only[VR]at e⊢
  obtain⟨L,h1,h2⟩:=e
  exact⟨L,h _ _ h1,h2⟩
 | .agg vs,v,e=>by
  simp only[VR]at e⊢
  obtain⟨cs,h1,h2⟩:=e
  exact⟨cs,h1,bh.mono h _ _ h2⟩
 | .bn vs,v,e=>by
  simp only[VR]at e⊢
  obtain⟨cs,h1,h2⟩:=e
  exact⟨cs,h1,bh.mono h _ _ h2⟩
 | .raw oa n cp,v,e=>by simpa[VR]using e
 | .var id,v,e=>by
  simp only[VR]at e⊢
  obtain⟨L,h1,h2⟩:=e
  exact⟨L,h _ _ h1,h2⟩
 | .top,v,e=>by simp[VR]
theorem bh.mono {β β':bS}(h:Sub β β'): ∀(vs:List AV) (cs:List Value),bh β vs cs->bh β' vs cs
 |[],cs,e=>by simpa[bh]using e
 |v::vs,cs,e=>by
  simp only[bh]at e⊢
  obtain⟨c,cs',h1,h2,h3⟩:=e
  exact⟨c,cs',h1,VR.mono h _ _ h2,bh.mono h _ _ h3⟩
end
/-! lists of related values -/
theorem bh.length {β:bS}: ∀{vs:List AV} {cs:List Value},bh β vs cs->vs.length=cs.length
 |[],cs,h=>by simp only[bh]at h;simp[h]
 |v::vs,cs,h=>by
  simp only[bh]at h
  obtain⟨c,cs',rfl,_,h⟩:=h
  simp[bh.length h]
theorem bh.get {β:bS}: ∀{vs:List AV} {cs:List Value},bh β vs cs-> ∀{i:Nat} {v:AV},vs[i]? =some v-> ∃c,cs[i]? =some c/\VR β v c
 |[],cs,h,i,v,e=>by simp at e
 |v::vs,cs,h,i,u,e=>by
  simp only[bh]at h
  obtain⟨c,cs',rfl,h1,h2⟩:=h
  cases i with
  |zero=>simp at e;subst e;exact⟨c,by simp,h1⟩
  |succ i=>simpa using bh.get h2 (by simpa using e)
theorem bh.of {β:bS}: ∀{vs:List AV} {cs:List Value},vs.length=cs.length->(∀(i:Nat) (v:AV) (c:Value),vs[i]? =some v->cs[i]? =some c->VR β v c)->bh β vs cs
 |[],[],_,_=>by simp[bh]
 |[],_::_,h,_=>by simp at h
 |_::_,[],h,_=>by simp at h
 |v::vs,c::cs,h,hh=>by
  simp only[bh]
  exact⟨c,cs,rfl,hh 0 v c (by simp) (by simp),bh.of (by simpa using h) fun i v c h1 h2=>hh (i+1) v c (by simpa using h1) (by simpa using h2)⟩
theorem bh.append {β:bS}{vs us:List AV}{cs ds:List Value}(h:bh β vs cs)(h':bh β us ds):bh β (vs++us) (cs++ds):=by
 induction vs generalizing cs with
 |nil=>simp only[bh]at h;subst h;simpa using h'
 |cons v vs ih=>
  simp only[bh]at h
  obtain⟨c,cs',rfl,h1,h2⟩:=h
  simp only[List.cons_append,bh]
  exact⟨c,cs'++ds,rfl,h1,ih h2⟩
theorem bh.take {β:bS}{vs:List AV}{cs:List Value}(h:bh β vs cs)(n:Nat):bh β (vs.take n) (cs.take n):=
 bh.of (by simp[h.length]) fun i v c h1 h2=>by
  have e1:i<n:=by
   rcases Nat.lt_or_ge i n with e|e
   ·exact e
   ·rw[List.getElem?_eq_none (by simp;omega)]at h1;cases h1
  rw[List.getElem?_take_of_lt e1]at h1 h2
  obtain⟨c',h3,h4⟩:=h.get h1
  rw[h3]at h2;cases h2;exact h4
theorem bh.drop {β:bS}{vs:List AV}{cs:List Value}(h:bh β vs cs)(n:Nat):bh β (vs.drop n) (cs.drop n):=
 bh.of (by simp[h.length]) fun i v c h1 h2=>by
  rw[List.getElem?_drop]at h1 h2
  obtain⟨c',h3,h4⟩:=h.get h1
  rw[h3]at h2;cases h2;exact h4
/-! heaps -/
abbrev View:=Nat->Option AB
def view (c:C)(h:H):View:=fun id=>match cr c h id with
 |some .dead=>none
 |b=>b
def ER (β:bS):List (AV×AV×Nat)->List MapEntry->Prop
 |[],es=>es=[]
 |x::xs,es=> ∃e es',es=e::es'/\VR β x.1 e.key/\VR β x.2.1 e.val/\e.born=x.2.2/\ER β xs es'
theorem ER.mono {β β':bS}(h:Sub β β'): ∀{xs:List (AV×AV×Nat)} {es:List MapEntry},ER β xs es->ER β' xs es
 |[],es,e=>e
 |x::xs,es,⟨e,es',h1,h2,h3,h4,h5⟩=>⟨e,es',h1,VR.mono h _ _ h2,VR.mono h _ _ h3,h4,h5.mono h⟩
def U2:Nat->LoopState
 |0=> .ready
 |1=> .done
 |2=> .busy
 |_=> .exhausted
def Qx:Ex->Code
 | .normal=> .skip
 | .exit id=> .exit id
 | .ret=> .ret
structure Fz (cur:Array Value)(fz:Nat×Nat)(L:Loc)(k:Nat):Prop where
 le:L.size<=cur.size
 fit:L.base+k<=L.size
 nf: ∀i,L.base<=i->i<L.size->(decide (fz.1<=i)&&decide (i<fz.2))=false
def encS (a:Array Nat):Value:= .agg (a.map fun n=> .slice none n 0)
def FY (β:bS)(n:Nat):Option Nat->Value->Prop
 |none,v=>v= .slice none 0 0/\n=0
 |some j,v=> ∃G,β j=some G/\v= .slice (some ⟨G.blk,0,none⟩) n G.size/\n<=G.size/\G.size<=maxLen
theorem FY.mono {β β':bS}(h:Sub β β'){n:Nat}{j:Option Nat}{v:Value}(q:FY β n j v):FY β' n j v:=by
 cases j with
 |none=>exact q
 |some j=>
  obtain⟨G,h1,h2⟩:=q
  exact⟨G,h _ _ h1,h2⟩
def BR (β:bS)(L:Loc)(w:World):AB->Prop
 | .cells vs=> ∃(cur:Array Value) (e:TypeId×(Nat×Nat)),w.heap[L.blk]? =some (.cells cur e.1 e.2)/\Fz cur e.2 L vs.length/\ ∀(i:Nat) (v:AV),vs[i]? =some v-> ∃c,cur[L.base+i]? =some c/\VR β v c
 | .map es clock=> ∃ces,w.heap[L.blk]? =some (.map ces clock)/\ER β es ces.toList
 | .iter m since seen last=> ∃om,w.heap[L.blk]? =some (.mapIter om since seen.toArray last)/\L.base=0/\(m=none->om=none)/\ ∀i,m=some i-> ∃M,β i=some M/\om=some M.blk
 | .x8 m since b stepped v=> ∃(M S:Loc) (seen:Array Nat),β m=some M/\β v=some S/\S.val=encS seen/\seen.back? =some b/\w.heap[L.blk]? =some (.mapIter (some M.blk) since seen stepped)/\L.base=0
 | .UD T s j=> ∃p v,(p= .pointer none\/p= .pointer (some ⟨L.blk,0,none⟩))/\w.heap[L.blk]? =some (.cells #[p,v] T (0,0))/\FY β s.length j v/\L.base=0
 | .UE e s=> ∃cur:Array Value,w.heap[L.blk]? =some (.cells cur e (0,0))/\cur.size=L.size/\L.base=0/\cur.toList.take s.length=s.map fun n=>Value.int .u8 (Int.ofNat n)
 | .Qg m=> ∃M t,β m=some M/\w.heap[L.blk]? =some (.cells #[.map (some M.blk)] t (0,0))/\L.base=0
 | .Nh=>w.heap[L.blk]? =some (.deferred (some []))
 | .loop st pend nt sl ps assign body d=> ∃r,w.heap[L.blk]? =some (.loop r)/\r.state=U2 st/\r.pending=pend.map Qx/\r.tmps.size=nt/\(∀t,VR β (slot sl t) (r.tmps.getD t undef))/\r.params.toList=ps/\r.assign=assign/\r.body=body/\ ∃D,β d=some D/\r.defers=D.blk
 | .dead=>True
theorem BR.mono {β β':bS}(h:Sub β β'){L:Loc}{w w':World}{b:AB}(hb:BR β L w b)(hw:w'.heap[L.blk]? =w.heap[L.blk]?):BR β' L w' b:=by
 cases b with
 |cells vs=>
  obtain⟨cur,e,h1,h2,h3⟩:=hb
  exact⟨cur,e,hw.trans h1,h2,fun i v hi=>by obtain⟨c,h4,h5⟩:=h3 i v hi;exact⟨c,h4,VR.mono h _ _ h5⟩⟩
 |map es clock=>
  obtain⟨ces,h1,h2⟩:=hb
  exact⟨ces,hw.trans h1,h2.mono h⟩
 |iter m since seen last=>
  obtain⟨om,h1,h2,h3,h4⟩:=hb
  exact⟨om,hw.trans h1,h2,h3,fun i hi=>by obtain⟨M,a,b⟩:=h4 i hi;exact⟨M,h _ _ a,b⟩⟩
 |x8 m since b stepped v=>
  obtain⟨M,S,seen,h1,h2,h3,h4,h5,h6⟩:=hb
  exact⟨M,S,seen,h _ _ h1,h _ _ h2,h3,h4,hw.trans h5,h6⟩
 |UD T s j=>
  obtain⟨p,v,h1,h2,h3,h4⟩:=hb
  exact⟨p,v,h1,hw.trans h2,h3.mono h,h4⟩
 |UE e s=>
  obtain⟨cur,h1,h2⟩:=hb
  exact⟨cur,hw.trans h1,h2⟩
 |Qg m=>
  obtain⟨M,t,h1,h2,h3⟩:=hb
  exact⟨M,t,h _ _ h1,hw.trans h2,h3⟩
 |Nh=>exact hw.trans hb
 |loop st pend nt sl ps assign body d=>
  obtain⟨r,h1,h2,h3,h4,h5,h6,h7,h8,D,h9,h10⟩:=hb
  exact⟨r,hw.trans h1,h2,h3,h4,fun t=>VR.mono h _ _ (h5 t),h6,h7,h8,D,h _ _ h9,h10⟩
 |dead=>trivial
structure HR (f:Nat)(β:bS)(g:View)(w:World):Prop where
 at_: ∀id b,g id=some b-> ∃L,β id=some L/\L.blk<w.heap.size/\BR β L w b
 inj: ∀i j b d L M,g i=some b->g j=some d->β i=some L->β j=some M->L.blk=M.blk->i=j\/(i<f/\j<f)
theorem HR.up {f f':Nat}{β:bS}{g:View}{w:World}(h:HR f β g w)(hf:f<=f'):HR f' β g w:=
 ⟨h.at_,fun i j b d L M e1 e2 e3 e4 e5=>by rcases h.inj i j b d L M e1 e2 e3 e4 e5 with q|q;exact Or.inl q;exact Or.inr ⟨om,om⟩⟩
theorem HR.sub {f:Nat}{β:bS}{g g':View}{w:World}(h:HR f β g w)(hs: ∀id b,g' id=some b->g id=some b):HR f β g' w:=
 ⟨fun id b e=>h.at_ id b (hs id b e),fun i j b d L M e1 e2=>h.inj i j b d L M (hs _ _ e1) (hs _ _ e2)⟩
structure ca (dr:Prop)(f n n':Nat)(β:bS)(g:View)(w:World)(β':bS)(g':View)(w':World):Prop where
 le:n<=n'
 sub:Sub β β'
 fresh: ∀id L,β' id=some L->β id=none->n<=id/\id<n'
 hr:HR f β' g' w'
 os:w'.os=w.os
 tape:w'.tape=w.tape/\(dr->w.drawn<=w'.drawn)
 output:w'.output=w.output
 size:w.heap.size<=w'.heap.size
 frame: ∀B,B<w.heap.size->(∀id b L,f<=id->g id=some b->β id=some L->L.blk≠B)->w'.heap[B]? =w.heap[B]?
 news: ∀id L,β' id=some L->β id=none->w.heap.size<=L.blk\/ ∃i b M,f<=i/\g i=some b/\β i=some M/\M.blk=L.blk
 old: ∀id b,g' id=some b->(∃d,g id=some d)\/β id=none
theorem ca.refl {f n:Nat}{β:bS}{g:View}{w:World}(h:HR f β g w):ca dr f n n β g w β g w:=
 ⟨Nat.le_refl _,Sub.refl _,fun id L h1 h2=>by(rw[h2]at h1;cases h1),h,rfl,⟨rfl,fun _=>Nat.le_refl _⟩,rfl,Nat.le_refl _,fun _ _ _=>rfl,fun id L h1 h2=>by(rw[h2]at h1;cases h1),fun id b h=>Or.inl ⟨b,h⟩⟩
theorem ca.trans {f n n1 n2:Nat}{β β1 β2:bS}{g g1 g2:View}{w w1 w2:World}(h:ca dr f n n1 β g w β1 g1 w1)(h':ca dr f n1 n2 β1 g1 w1 β2 g2 w2):
    ca dr f n n2 β g w β2 g2 w2:=by
 have back: ∀id b L,f<=id->g1 id=some b->β1 id=some L->w.heap.size<=L.blk\/ ∃i d M,f<=i/\g i=some d/\β i=some M/\M.blk=L.blk:=by
  intro id b L hid h1 h2
  cases hb:β id with
  |some M=>
   have:M=L:=by have:=h.sub id M hb;rw[this]at h2;cases h2;rfl
   subst this
   rcases h.old id b h1 with⟨d,hd⟩|hn
   ·exact Or.inr ⟨id,d,M,hid,hd,hb,rfl⟩
   ·rw[hn]at hb;cases hb
  |none=>exact h.news id L h2 hb
 refine⟨Nat.le_trans h.le h'.le,h.sub.trans h'.sub,?_,h'.hr,h'.os.trans h.os,⟨h'.tape.1.trans h.tape.1,fun q=>Nat.le_trans (h.tape.2 q) (h'.tape.2 q)⟩,h'.output.trans h.output,Nat.le_trans h.size h'.size,?_,?_,?_⟩
 ·intro id L h1 h2
  cases hb:β1 id with
  |some M=>have:=h.fresh id M hb h2;have:=h'.le;omega
  |none=>have:=h'.fresh id L h1 hb;have:=h.le;omega
 ·intro B hB hf
  refine(h'.frame B (Nat.lt_of_lt_of_le hB h.size) fun id b L hid h1 h2 e=>?_).trans (h.frame B hB hf)
  rcases back id b L hid h1 h2 with hk|⟨i,d,M,hi,hd,hM,e2⟩
  ·omega
  ·exact hf i d M hi hd hM (e2.trans e)
 ·intro id L h1 h2
  cases hb:β1 id with
  |some M=>
   have:M=L:=by have:=h'.sub id M hb;rw[this]at h1;cases h1;rfl
   subst this
   exact h.news id M hb h2
  |none=>
   rcases h'.news id L h1 hb with hk|⟨i,b,M,hi,hg,hM,e⟩
   ·exact Or.inl (Nat.le_trans h.size hk)
   ·rcases back i b M hi hg hM with hk|⟨j,d,M',hj,hd,hM',e2⟩
    ·exact Or.inl om
    ·exact Or.inr ⟨j,d,M',hj,hd,hM',e2.trans e⟩
 ·intro id b h1
  rcases h'.old id b h1 with⟨d,hd⟩|hn
  ·exact h.old id d hd
  ·cases hb:β id with
   |none=>exact Or.inr rfl
   |some M=>have:=h.sub id M hb;rw[this]at hn;cases hn
end
theorem aZ {β:Type}(n:Nat)(k:Nat->β):cA n k=k n:=by cases n<;>rfl
theorem fg {β:Type}(n:Int)(k:Int->β):lL n k=k n:=by cases n<;>simp[lL,aZ]
theorem bR {β:Type}(b:Bool)(k:Bool->β):x9 b k=k b:=by cases b<;>rfl
theorem gy {α R:Type}{r:R}: ∀{n:Nat} {l:List α} {k:List α->Option R},fI n l k=some r->n<=l.length/\k (l.take n)=some r
 |0,l,k,h=>⟨Nat.zero_le _,by simpa[fI]using h⟩
 |n+1,[],k,h=>by cases h
 |n+1,x::xs,k,h=>by
  have:=gy (n:=n) (l:=xs) (k:=fun ys=>k (x::ys)) h
  exact⟨by simpa using this.1,by simpa using this.2⟩
theorem gx {α R:Type}{r:R}: ∀{n:Nat} {l:List α} {k:List α->Option R},iO n l k=some r->n<=l.length/\k (l.drop n)=some r
 |0,l,k,h=>⟨Nat.zero_le _,by simpa[iO]using h⟩
 |n+1,[],k,h=>by cases h
 |n+1,x::xs,k,h=>by
  have:=gx (n:=n) (l:=xs) (k:=k) h
  exact⟨by simpa using this.1,by simpa using this.2⟩
theorem vJ {R:Type}{r:R}: ∀{news l:List AV} {k:List AV->Option R},vn news l k=some r->news.length<=l.length/\k (news++l.drop news.length)=some r
 |[],l,k,h=>⟨Nat.zero_le _,by simpa[vn]using h⟩
 |y::news,[],k,h=>by cases h
 |y::news,x::xs,k,h=>by
  have:=vJ (news:=news) (l:=xs) (k:=fun zs=>k (y::zs)) h
  exact⟨by simpa using this.1,by simpa using this.2⟩
theorem fR {R:Type}{r:R}: ∀{off:Nat} {news l:List AV} {k:List AV->Option R},eP off news l k=some r->
    off+news.length<=l.length/\k (l.take off++(news++l.drop (off+news.length)))=some r
 |0,news,l,k,h=>by
  have:=vJ (news:=news) (l:=l) (k:=k) h
  exact⟨by simpa using this.1,by simpa using this.2⟩
 |n+1,news,[],k,h=>by cases h
 |n+1,news,x::xs,k,h=>by
  have:=fR (off:=n) (news:=news) (l:=xs) (k:=fun ys=>k (x::ys)) h
  refine⟨by have:=this.1;simp;omega,?_⟩
  rw[show n+1+news.length=n+news.length+1 by omega]
  simpa using this.2
theorem ep {α R:Type}: ∀(xs ys:List α) (k:List α->Option R),xx xs ys k=k (xs++ys)
 |[],ys,k=>rfl
 |x::xs,ys,k=>ep xs ys fun zs=>k (x::zs)
theorem gA {α:Type}: ∀(n:Nat) (l:List α),nth n l=l[n]?
 |0,[]=>rfl
 |0,x::l=>rfl
 |n+1,[]=>rfl
 |n+1,x::l=>by have:=gA n l;simpa[nth]using this
theorem cX {α:Type}: ∀(l:List α),gI l=l.length
 |[]=>rfl
 |x::l=>congrArg Nat.succ (cX l)
theorem kC: ∀(x y:List Nat),GU x y=decide (x=y)
 |[],[]=>rfl
 |[],b::y=>rfl
 |a::x,[]=>rfl
 |a::x,b::y=>by
  have ih:=kC x y
  show(bif Nat.beq a b then GU x y else false)=_
  rw[ih]
  by_cases h:a=b
  ·subst h;simp
  ·have:Nat.beq a b=false:=by rw[Bool.eq_false_iff];intro e;exact h (Nat.eq_of_beq_eq_true e)
   simp[this,h]
theorem qe {R:Type}: ∀(n:Nat) (z:List AV) (k:List AV->Option R),Km n z k=k (List.replicate n z).flatten
 |0,z,k=>rfl
 |n+1,z,k=>by
  show Km n z (fun l=>xx z l k)=_
  rw[qe n z,ep]
  simp[List.replicate_succ]
theorem mB (a b:Nat):Nat.beq a b=decide (a=b):=by
 by_cases h:a=b
 ·subst h;simp
 ·rw[decide_eq_false h,Bool.eq_false_iff];intro e;exact h (Nat.eq_of_beq_eq_true e)
theorem rJ (a b:Int):Jg a b=decide (a=b):=by
 cases a<;>cases b<;>simp only[Jg,mB]<;>rw[Bool.eq_iff_iff]<;>simp<;>omega
theorem fQ (a b:Int):HP a b=decide (a<b):=by
 cases a<;>cases b<;>simp only[HP]<;>rw[Bool.eq_iff_iff]<;>simp[Nat.blt_eq]<;>omega
theorem CC {k:IntKind}{n:Int}(h:zY k n=true):k.wrap n=n:=by
 have e63:(2:Int)^63=9223372036854775808:=by decide
 have e64:(2:Int)^64=18446744073709551616:=by decide
 have e31:(2:Int)^31=2147483648:=by decide
 have e32:(2:Int)^32=4294967296:=by decide
 have e8:(2:Int)^8=256:=by decide
 have e16:(2:Int)^16=65536:=by decide
 cases k<;>cases n<;>simp only[zY,Bool.false_eq_true]at h<;>(have h:=Nat.le_of_ble_eq_true h;simp only[IntKind.wrap,IntKind.bits,IntKind.signed,Nat.reduceSub,e63,e64,e31,e32,e8,e16,Bool.true_and,Bool.false_and,Bool.false_eq_true,if_false,decide_eq_true_eq,ge_iff_le,Int.ofNat_eq_natCast];(try split)<;>omega)
/-! tries -/
theorem F9 (i:Nat):d4 i=match i % 4 with|0=> .x0|1=> .x1|2=> .x2|_=> .x3:=by
 unfold d4
 have h:Nat.mod i 4=i % 4:=rfl
 have:i % 4<4:=Nat.mod_lt _ om
 rw[h]
 generalize i % 4=m at this⊢
 match m,this with
 |0,_=>rfl
 |1,_=>rfl
 |2,_=>rfl
 |3,_=>rfl
theorem rK {i j:Nat}:d4 i=d4 j↔i % 4=j % 4:=by
 have h1:i % 4<4:=Nat.mod_lt _ om
 have h2:j % 4<4:=Nat.mod_lt _ om
 rw[F9,F9]
 generalize i % 4=m at h1⊢
 generalize j % 4=n at h2⊢
 match m,h1 with
 |0,_|1,_|2,_|3,_=>(match n,h2 with|0,_|1,_|2,_|3,_=>simp)
theorem vK {β:Type}(z a b c d v:β)(x y:D4):nq z (jY a b c d x v id) y=if x=y then v else lP a b c d y:=by
 cases x<;>cases y<;>rfl
theorem Ga {β γ:Type}(a b c d:β)(x:D4)(v:β)(K:O4 β->γ):jY a b c d x v K=K (jY a b c d x v id):=by cases x<;>rfl
theorem yo {β:Type}(z:β)(x:D4):lP z z z z x=z:=by cases x<;>rfl
structure lW {α T:Type}(z:T)(q:Nat)(gt:T->Nat->Option α)(st: ∀{γ:Type},T->Nat->α->(T->γ)->γ):Prop where
 eq: ∀{γ:Type} (t:T) (i:Nat) (a:α) (K:T->γ),st t i a K=K (st t i a id)
 get: ∀(t:T) (i j:Nat) (a:α),gt (st t i a id) j=if i % q=j % q then some a else gt t j
 nil: ∀j,gt z j=none
theorem lW.one {α:Type}:lW (α:=α) (.nil:T1 α) 4 VD st1:=by
 refine⟨fun t i a K=>?_,fun t i j a=>?_,fun j=>rfl⟩
 ·cases t<;>exact Ga _ _ _ _ _ _ _
 ·cases t with
  |nil=>
   show nq none (jY none none none none (d4 i) (some a) id) (d4 j)=_
   rw[vK,yo]
   by_cases h:i % 4=j % 4
   ·rw[if_pos (rK.2 h),if_pos h]
   ·rw[if_neg (fun q=>h (rK.1 q)),if_neg h];rfl
  |node b c d e=>
   show nq none (jY b c d e (d4 i) (some a) id) (d4 j)=_
   rw[vK]
   by_cases h:i % 4=j % 4
   ·rw[if_pos (rK.2 h),if_pos h]
   ·rw[if_neg (fun q=>h (rK.1 q)),if_neg h];rfl
theorem lW.succ {α T:Type}{z:T}{q:Nat}{gt:T->Nat->Option α}{st: ∀{γ:Type},T->Nat->α->(T->γ)->γ}(h:lW z q gt (fun {γ}=> @st γ))
    {gt':O4 T->Nat->Option α} {sn: ∀{γ:Type},T->T->T->T->D4->Nat->α->(O4 T->γ)->γ} {st': ∀{γ:Type},O4 T->Nat->α->(O4 T->γ)->γ}
    (hg: ∀t i,gt' t i=gt (nq z t (d4 (Nat.div i q))) i) (hn: ∀{γ:Type} (a b c d:T) (x:D4) (i:Nat) (v:α) (K:O4 T->γ),sn a b c d x i v K=st (lP a b c d x) i v fun y=>jY a b c d x y K)
    (hs: ∀{γ:Type} (i:Nat) (v:α) (K:O4 T->γ),st' .nil i v K=sn z z z z (d4 (Nat.div i q)) i v K) (hs': ∀{γ:Type} (a b c d:T) (i:Nat) (v:α) (K:O4 T->γ),st' (.node a b c d) i v K=sn a b c d (d4 (Nat.div i q)) i v K):
    lW (α:=α) (.nil:O4 T) (q*4) gt' (fun {γ}=> @st' γ):=by
 have heq: ∀{γ:Type} (a b c d:T) (x:D4) (i:Nat) (v:α) (K:O4 T->γ),sn a b c d x i v K=K (jY a b c d x (st (lP a b c d x) i v id) id):=fun a b c d x i v K=>by rw[hn,h.eq,Ga]
 have nil': ∀j,gt' .nil j=none:=fun j=>by rw[hg];exact h.nil j
 have main: ∀(a b c d:T) (i j:Nat) (v:α),gt' (sn a b c d (d4 (Nat.div i q)) i v id) j=if i % (q*4)=j % (q*4)then some v else gt (lP a b c d (d4 (Nat.div j q))) j:=fun a b c d i j v=>by
  rw[heq,hg,id,vK]
  have e1:Nat.div i q=i/q:=rfl
  have e2:Nat.div j q=j/q:=rfl
  rw[e1,e2]
  by_cases x:d4 (i/q)=d4 (j/q)
  ·rw[if_pos x,h.get,x]
   have y:=rK.1 x
   by_cases w:i % q=j % q
   ·rw[if_pos w,if_pos (by rw[Nat.mod_mul,Nat.mod_mul,w,y])]
   ·rw[if_neg w,if_neg]
    intro e
    apply w
    have:=congrArg (· % q) e
    simpa[Nat.mod_mul_right_mod]using this
  ·rw[if_neg x,if_neg]
   intro e
   apply x
   rw[rK]
   have:=congrArg (· /q) e
   simpa[Nat.mod_mul_right_div_self]using this
 refine⟨fun t i a K=>?_,fun t i j a=>?_,nil'⟩
 ·cases t with
  |nil=>rw[hs,hs,heq,heq];rfl
  |node b c d e=>rw[hs',hs',heq,heq];rfl
 ·cases t with
  |nil=>rw[hs,main,nil',yo,h.nil]
  |node b c d e=>rw[hs',main,hg];rfl
theorem VP (α:Type):lW (α:=α) (.nil:T2 α) 16 UF st2:=(lW.one (α:=α)).succ (gt':=UF) (sn:=Ua) (st':=st2) (fun _ _=>rfl) (fun _ _ _ _ _ _ _ _=>rfl) (fun _ _ _=>rfl) (fun _ _ _ _ _ _ _=>rfl)
theorem Ue (α:Type):lW (α:=α) (.nil:T3 α) 64 R9 Qj:=(VP α).succ (gt':=R9) (sn:=UK) (st':=Qj) (fun _ _=>rfl) (fun _ _ _ _ _ _ _ _=>rfl) (fun _ _ _=>rfl) (fun _ _ _ _ _ _ _=>rfl)
theorem VQ (α:Type):lW (α:=α) (.nil:T4 α) 256 UG UL:=(Ue α).succ (gt':=UG) (sn:=Ss) (st':=UL) (fun _ _=>rfl) (fun _ _ _ _ _ _ _ _=>rfl) (fun _ _ _=>rfl) (fun _ _ _ _ _ _ _=>rfl)
theorem Uf (α:Type):lW (α:=α) (.nil:T5 α) 1024 Sa SE:=(VQ α).succ (gt':=Sa) (sn:=Ub) (st':=SE) (fun _ _=>rfl) (fun _ _ _ _ _ _ _ _=>rfl) (fun _ _ _=>rfl) (fun _ _ _ _ _ _ _=>rfl)
theorem VS (α:Type):lW (α:=α) (.nil:T6 α) 4096 UH UM:=(Uf α).succ (gt':=UH) (sn:=Sv) (st':=UM) (fun _ _=>rfl) (fun _ _ _ _ _ _ _ _=>rfl) (fun _ _ _=>rfl) (fun _ _ _ _ _ _ _=>rfl)
theorem Ug (α:Type):lW (α:=α) (.nil:T7 α) 16384 Sb SF:=(VS α).succ (gt':=Sb) (sn:=UN) (st':=SF) (fun _ _=>rfl) (fun _ _ _ _ _ _ _ _=>rfl) (fun _ _ _=>rfl) (fun _ _ _ _ _ _ _=>rfl)
theorem VT (α:Type):lW (α:=α) (.nil:T8 α) 65536 UI UP:=(Ug α).succ (gt':=UI) (sn:=UO) (st':=UP) (fun _ _=>rfl) (fun _ _ _ _ _ _ _ _=>rfl) (fun _ _ _=>rfl) (fun _ _ _ _ _ _ _=>rfl)
theorem VU (α:Type):lW (α:=α) (.nil:T9 α) 262144 UJ UR:=(VT α).succ (gt':=UJ) (sn:=UQ) (st':=UR) (fun _ _=>rfl) (fun _ _ _ _ _ _ _ _=>rfl) (fun _ _ _=>rfl) (fun _ _ _ _ _ _ _=>rfl)
theorem U4 (α:Type):lW (α:=α) (.nil:Nf α) 1048576 Qh Ql:=(VU α).succ (gt':=Qh) (sn:=Qk) (st':=Ql) (fun _ _=>rfl) (fun _ _ _ _ _ _ _ _=>rfl) (fun _ _ _=>rfl) (fun _ _ _ _ _ _ _=>rfl)
theorem U5 (α:Type):lW (α:=α) (.nil:Ng α) 4194304 Qi Qn:=(U4 α).succ (gt':=Qi) (sn:=Qm) (st':=Qn) (fun _ _=>rfl) (fun _ _ _ _ _ _ _ _=>rfl) (fun _ _ _=>rfl) (fun _ _ _ _ _ _ _=>rfl)
theorem QC (α:Type):lW (α:=α) (.nil:Kk α) 16777216 Kl Ni:=(U5 α).succ (gt':=Kl) (sn:=Qo) (st':=Ni) (fun _ _=>rfl) (fun _ _ _ _ _ _ _ _=>rfl) (fun _ _ _=>rfl) (fun _ _ _ _ _ _ _=>rfl)
theorem gJ {R:Type}(i n:Nat)(x y:R):Bool.casesOn (motive:=fun _=>R) (Nat.blt i n) y x=if i<n then x else y:=by
 by_cases h:i<n
 ·have:Nat.blt i n=true:=by simpa[Nat.blt_eq]using h
  rw[if_pos h,this]
 ·have:Nat.blt i n=false:=by
    cases e:Nat.blt i n with
    |false=>rfl
    |true=>exact absurd (by simpa[Nat.blt_eq]using e) h
  rw[if_neg h,this]
theorem Tr.get_eq {α:Type}(t:Tr α)(i:Nat):Tr.get t i=if i<64 then R9 t.a i else if i<1024 then Sa t.b i else if i<16384 then Sb t.c i else if i<16777216 then Kl t.d i else SD t.e i:=by
 unfold Tr.get Tr.SH Tr.SG
 rw[gJ,gJ,gJ,gJ]
theorem Tr.vL {α γ:Type}(n:Nat)(t:Tr α)(i:Nat)(v:α)(K:Tr α->γ):Tr.xw n t i v K=if i<64 then K ⟨Qj t.a i v id,t.b,t.c,t.d,t.e⟩else if i<1024 then K ⟨t.a,SE t.b i v id,t.c,t.d,t.e⟩else if i<16384 then K ⟨t.a,t.b,SF t.c i v id,t.d,t.e⟩else if i<16777216 then K ⟨t.a,t.b,t.c,Ni t.d i v id,t.e⟩else K ⟨t.a,t.b,t.c,t.d,(i,v)::t.e⟩:=by
 obtain⟨a,b,c,d,e⟩:=t
 show Tr.Qp a b c d e i v K=_
 unfold Tr.Qp Tr.SK Tr.SJ
 rw[gJ,gJ,gJ,gJ,(Ue α).eq,(Uf α).eq,(Ug α).eq,(QC α).eq]
structure Td (α:Type):Prop where
 eq: ∀{γ:Type} (t:Tr α) (i:Nat) (a:α) (K:Tr α->γ),Tr.xw 0 t i a K=K (Tr.xw 0 t i a id)
 get: ∀(t:Tr α) (i j:Nat) (a:α),Tr.get (Tr.xw 0 t i a id) j=if i=j then some a else Tr.get t j
 nil: ∀j,Tr.get (α:=α) .nil j=none
theorem QD (α:Type):Td α:=by
 refine⟨fun t i a K=>?_,fun t i j a=>?_,fun j=>?_⟩
 ·rw[Tr.vL,Tr.vL]
  by_cases h1:i<64
  ·rw[if_pos h1,if_pos h1];rfl
  rw[if_neg h1,if_neg h1]
  by_cases h2:i<1024
  ·rw[if_pos h2,if_pos h2];rfl
  rw[if_neg h2,if_neg h2]
  by_cases h3:i<16384
  ·rw[if_pos h3,if_pos h3];rfl
  rw[if_neg h3,if_neg h3]
  by_cases h4:i<16777216
  ·rw[if_pos h4,if_pos h4];rfl
  rw[if_neg h4,if_neg h4];rfl
 ·have fin: ∀(q:Nat) (x y:Option α),i<q->j<q->x=(if i % q=j % q then some a else y)->x=if i=j then some a else y:=fun q x y h1 h2 e=>by
    rw[Nat.mod_eq_of_lt h1,Nat.mod_eq_of_lt h2]at e;exact e
  have oth: ∀(x:Option α),¬i=j->x=if i=j then some a else x:=fun x h=>(if_neg h).symm
  rw[Tr.vL,Tr.get_eq,Tr.get_eq]
  by_cases h1:i<64
  ·rw[if_pos h1]
   by_cases j1:j<64
   ·rw[if_pos j1,if_pos j1];exact fin 64 _ _ h1 j1 ((Ue α).get _ _ _ _)
   ·rw[if_neg j1,if_neg j1];exact oth _ om
  rw[if_neg h1]
  by_cases h2:i<1024
  ·rw[if_pos h2]
   by_cases j1:j<64
   ·rw[if_pos j1,if_pos j1];exact oth _ om
   rw[if_neg j1,if_neg j1]
   by_cases j2:j<1024
   ·rw[if_pos j2,if_pos j2];exact fin 1024 _ _ h2 j2 ((Uf α).get _ _ _ _)
   ·rw[if_neg j2,if_neg j2];exact oth _ om
  rw[if_neg h2]
  by_cases h3:i<16384
  ·rw[if_pos h3]
   by_cases j1:j<64
   ·rw[if_pos j1,if_pos j1];exact oth _ om
   rw[if_neg j1,if_neg j1]
   by_cases j2:j<1024
   ·rw[if_pos j2,if_pos j2];exact oth _ om
   rw[if_neg j2,if_neg j2]
   by_cases j3:j<16384
   ·rw[if_pos j3,if_pos j3];exact fin 16384 _ _ h3 j3 ((Ug α).get _ _ _ _)
   ·rw[if_neg j3,if_neg j3];exact oth _ om
  rw[if_neg h3]
  by_cases h4:i<16777216
  case neg=>
   rw[if_neg h4]
   by_cases j1:j<64
   ·rw[if_pos j1,if_pos j1];exact oth _ om
   rw[if_neg j1,if_neg j1]
   by_cases j2:j<1024
   ·rw[if_pos j2,if_pos j2];exact oth _ om
   rw[if_neg j2,if_neg j2]
   by_cases j3:j<16384
   ·rw[if_pos j3,if_pos j3];exact oth _ om
   rw[if_neg j3,if_neg j3]
   by_cases j4:j<16777216
   ·rw[if_pos j4,if_pos j4];exact oth _ om
   rw[if_neg j4,if_neg j4]
   show SD ((i,a)::t.e) j=_
   simp only[SD]
   by_cases q:i=j
   ·subst q;simp
   ·have:Nat.beq i j=false:=by
      cases hb:Nat.beq i j with
      |false=>rfl
      |true=>exact absurd (Nat.eq_of_beq_eq_true hb) q
    rw[this,if_neg q];rfl
  rw[if_pos h4]
  by_cases j1:j<64
  ·rw[if_pos j1,if_pos j1];exact oth _ om
  rw[if_neg j1,if_neg j1]
  by_cases j2:j<1024
  ·rw[if_pos j2,if_pos j2];exact oth _ om
  rw[if_neg j2,if_neg j2]
  by_cases j3:j<16384
  ·rw[if_pos j3,if_pos j3];exact oth _ om
  rw[if_neg j3,if_neg j3]
  by_cases j4:j<16777216
  ·rw[if_pos j4,if_pos j4];exact fin 16777216 _ _ h4 j4 ((QC α).get _ _ _ _)
  ·rw[if_neg j4,if_neg j4];exact oth _ om
 ·rw[Tr.get_eq]
  show(if j<64 then R9 .nil j else if j<1024 then Sa .nil j else if j<16384 then Sb .nil j else if j<16777216 then Kl .nil j else none)=none
  rw[(Ue α).nil,(Uf α).nil,(Ug α).nil,(QC α).nil]
  repeat' split
  all_goals rfl
def Tr.set {α:Type}(fuel:Nat)(t:Tr α)(i:Nat)(a:α):Tr α:=Tr.xw fuel t i a id
theorem Tr.kA {α β:Type}(fuel:Nat)(t:Tr α)(i:Nat)(a:α)(k:Tr α->β):Tr.xw fuel t i a k=k (Tr.set fuel t i a):=(QD α).eq t i a k
theorem Tr.get_nil {α:Type}(i:Nat):Tr.get (Tr.nil:Tr α) i=none:=(QD α).nil i
theorem Tr.Nz {α:Type}(n:Nat)(t:Tr α)(i j:Nat)(a:α):Tr.get (Tr.set n t i a) j=if i=j then some a else Tr.get t j:=(QD α).get t i j a
theorem kD (sl:Tr AV){R:Type}: ∀(xs:List XV) (k:List AV->Option R),HS sl xs k=k (xs.map (bG sl))
 |[],k=>rfl
 |x::xs,k=>kD sl xs fun vs=>k (bG sl x::vs)
theorem vM {a b:Option Nat}(h:HQ a b=true):a=b:=by
 cases a<;>cases b<;>simp[HQ]at h
 ·rfl
 ·rw[h]
theorem qz {a b:List Nat}(h:GU a b=true):a=b:=by rw[kC]at h;simpa using h
theorem xG {a b:Int}(h:Jg a b=true):a=b:=by rw[rJ]at h;simpa using h
theorem ij {a b:IntKind}(h:eD a b=true):a=b:=by simpa[eD]using h
mutual
theorem kE: ∀(x y:AV),cZ x y=true->x=y
 | .bool a,y,h=>by cases y<;>simp[cZ]at h;rw[h]
 | .int k a,y,h=>by
  cases y<;>simp[cZ]at h
  rw[ij h.1,xG h.2]
 | .str a,y,h=>by cases y<;>simp[cZ]at h;rw[qz h]
 | .eG,y,h=>by cases y<;>simp[cZ]at h;rfl
 | .ptr a b,y,h=>by cases y<;>simp[cZ]at h;rw[h.1,h.2]
 | .aE,y,h=>by cases y<;>simp[cZ]at h;rfl
 | .sl a b c d e,y,h=>by
  cases y<;>simp[cZ]at h
  obtain⟨⟨⟨⟨h1,h2⟩,h3⟩,h4⟩,h5⟩:=h
  rw[h1,h2,h3,h4,vM h5]
 | .dt,y,h=>by cases y<;>simp[cZ]at h;rfl
 | .mp a,y,h=>by cases y<;>simp[cZ]at h;rw[h]
 | .jb,y,h=>by cases y<;>simp[cZ]at h;rfl
 | .fn f cs,y,h=>by
  cases y<;>simp[cZ]at h
  rw[h.1,eh _ _ h.2]
 | .Nc f fs cs,y,h=>by
  cases y<;>simp[cZ]at h
  rw[h.1.1,eh _ _ h.1.2,eh _ _ h.2]
 | .sT,y,h=>by cases y<;>simp[cZ]at h;rfl
 | .Dn a,y,h=>by cases y<;>simp[cZ]at h;rw[h]
 | .iface t v,y,h=>by
  cases y<;>simp[cZ]at h
  rw[h.1,kE _ _ h.2]
 | .agg cs,y,h=>by cases y<;>simp[cZ]at h;rw[eh _ _ h]
 | .bn cs,y,h=>by cases y<;>simp[cZ]at h;rw[eh _ _ h]
 | .raw oa n cp,y,h=>by
  cases y<;>simp[cZ]at h
  obtain⟨⟨h1,h2⟩,h3⟩:=h
  rw[h1,h2,h3]
 | .var a,y,h=>by cases y<;>simp[cZ]at h;rw[h]
 | .top,y,h=>by cases y<;>simp[cZ]at h;rfl
theorem eh: ∀(xs ys:List AV),iP xs ys=true->xs=ys
 |[],ys,h=>by cases ys<;>simp[iP]at h;rfl
 |x::xs,ys,h=>by
  cases ys with
  |nil=>simp[iP]at h
  |cons y ys=>
   simp[iP]at h
   rw[kE _ _ h.1,eh _ _ h.2]
end
theorem vN: ∀(xs ys:List (AV×AV×Nat)),Ci xs ys=true->xs=ys
 |[],[],_=>rfl
 |[],_::_,h=>by simp[Ci]at h
 |_::_,[],h=>by simp[Ci]at h
 |(a,b,c)::xs,(a',b',c')::ys,h=>by
  simp[Ci]at h
  obtain⟨⟨⟨h1,h2⟩,h3⟩,h4⟩:=h
  rw[kE _ _ h1,kE _ _ h2,h3,vN _ _ h4]
theorem nP {a b:Option AB}(h:sV a b=true):a=b:=by
 cases a<;>cases b<;>simp[sV]at h
 ·rfl
 ·rename_i a b
  cases a<;>cases b<;>simp[Kp]at h
  ·rw[eh _ _ h]
  ·rw[vN _ _ h.1,h.2]
  ·obtain⟨⟨⟨h1,h2⟩,h3⟩,h4⟩:=h
   rw[vM h1,h2,qz h3,h4]
  ·obtain⟨⟨⟨⟨h1,h2⟩,h3⟩,h4⟩,h5⟩:=h
   rw[h1,h2,h3,h4,h5]
  ·rfl
theorem vE {bl A:Nat}: ∀{bs:List (Nat×Tr AB×Tr AB)},jZ bl A bs=true-> ∀b∈bs,bl.testBit b.1=false->Tr.get b.2.2 A=Tr.get b.2.1 A
 |[],_,b,hb,_=>by cases hb
 |b0::bs,h,b,hb,hp=>by
  unfold jZ at h
  rw[Bool.and_eq_true,Bool.or_eq_true]at h
  rcases List.mem_cons.1 hb with rfl|hb
  ·rcases h.1 with q|q
   ·rw[hp]at q;cases q
   ·exact(nP q).symm
  ·exact vE h.2 b hb hp
theorem vF {bl:Nat}{t t':Tr AB}: ∀{fs:List (Nat×Nat)},iQ bl t t' fs=true-> ∀f∈fs,bl.testBit f.1=false->Tr.get t' f.2=Tr.get t f.2
 |[],_,b,hb,_=>by cases hb
 |b0::bs,h,b,hb,hp=>by
  unfold iQ at h
  rw[Bool.and_eq_true,Bool.or_eq_true]at h
  rcases List.mem_cons.1 hb with rfl|hb
  ·rcases h.1 with q|q
   ·rw[hp]at q;cases q
   ·exact(nP q).symm
  ·exact vF h.2 b hb hp
end Go.Proofs.YtemehfgkfidgjaaGreatDoor.Ev
