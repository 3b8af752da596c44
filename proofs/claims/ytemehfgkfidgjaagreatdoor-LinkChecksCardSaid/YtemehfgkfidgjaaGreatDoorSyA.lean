/- CoverStates, part 11 -/
import Derived.Test.YtemehfgkfidgjaaGreatDoorEvX
set_option linter.all false
namespace Go.Proofs.YtemehfgkfidgjaaGreatDoor.Ev
section
open Go
/-! syntax -/
inductive SB where
 |int
 |str
 |bool
inductive SQ where
 |b (x:SB)
 |st (xs:List SB)
def SB.den:SB->hJ
 | .int=>sy
 | .str=>eqStr
 | .bool=>Ko
def SQ.den:SQ->hJ
 | .b x=>x.den
 | .st xs=>pM (xs.map SB.den)
inductive SI where
 |add|sub|mul|quo|rem|lss|leq|gtr|geq|max|min|and|or|xor|andNot
def SI.den:SI->IntKind->Int->Int->H->dE->Out
 | .add=>Nj
 | .sub=>Nk
 | .mul=>Qr
 | .quo=>Nl
 | .rem=>Nn
 | .lss=>Kq
 | .leq=>Kr
 | .gtr=>Ks
 | .geq=>Kt
 | .max=>UT
 | .min=>Nt
 | .and=>pW Nat.land
 | .or=>pW Nat.lor
 | .xor=>pW Nat.xor
 | .andNot=>Nu
inductive SS where
 |lss|leq|gtr|geq
def SS.den:SS->List Nat->List Nat->Bool
 | .lss=>AR
 | .leq=>US
 | .gtr=>Nq
 | .geq=>Nr
inductive SO where
 |mv (x:XV)
 |pick (b x y:XV)
 |box (x:XV)
 |build (z:List AV) (ps:List (Nat×Nat×XV))
 |bq (n:Nat) (z:List AV) (ps:List (Nat×Nat×XV))
 |ax (x:XV)
 |ao (n:Nat) (x:XV)
 |store (n:Nat) (a x:XV)
 |cu (x:XV)
 |ints (f:SI) (x y:XV)
 |eql (q:SQ) (neg:Bool) (x y:XV)
 |cat (x y:XV)
 |M8 (f:SS) (x y:XV)
 |Vi (neg:Bool) (x:XV)
 |M7 (neg:Bool) (x:XV)
 |Vj (neg:Bool) (x:XV)
 |Vk (neg:Bool) (x:XV)
 |not (x:XV)
 |toInt (p:IntKind) (x:XV)
 |same (x:XV)
 |Mh (x:XV)
 |slice (esz:Nat) (x:XV) (lo hi:Option XV)
 |vc (x:XV) (lo hi:Option XV)
 |aq (o:Nat) (x:XV)
 |Rc (o:Nat) (x:XV)
 |Vl (n o:Nat) (x:XV)
 |aQ (esz:Nat) (x i:XV)
 |lM (x i:XV)
 |lookup (q:SQ) (z:AV) (x key:XV) (ok:Bool)
 |fe (q:SQ) (m key v:XV)
 |delete (q:SQ) (m key:XV)
 |range (x:XV)
 |entry (x:XV)
 |jG
 |zP (x:XV)
 |tO (z:List AV) (l cp:XV)
 |bu (x:XV) (i:Nat)
 |qY (f:Nat) (cs:List XV)
 |jV (x:XV)
 |aM (x:XV)
 |TC (x:XV)
 |append (esz by_:Nat) (s x:XV)
 |call (f:XV) (args:List XV)
 |Vm (t:Nat) (x:XV)
 |P9 (n:Nat) (x i:XV)
 |rf (n esz:Nat) (x i:XV)
 |slice3 (esz:Nat) (x:XV) (lo hi mx:Option XV)
 |bad
def SO.den:SO->XO
 | .mv x=>Ud x
 | .pick b x y=>ya b x y
 | .box x=>Ck x
 | .build z ps=>ru z ps
 | .bq n z ps=>pO n z ps
 | .ax x=>vo x
 | .ao n x=>vp n x
 | .store n a x=>vq n a x
 | .cu x=>yb x
 | .ints f x y=>Ev.ints f.den x y
 | .eql q nn x y=>Ku q.den nn x y
 | .cat x y=>Np x y
 | .M8 f x y=>sA f.den x y
 | .Vi n x=>FV n x
 | .M7 n x=>pP n x
 | .Vj n x=>SL n x
 | .Vk n x=>SM n x
 | .not x=>Kv x
 | .toInt p x=>zZ p x
 | .same x=>Cl x
 | .Mh x=>HU x
 | .slice e x lo hi=>lQ e x lo hi
 | .vc x lo hi=>pR x lo hi
 | .aq o x=>vu o x
 | .Rc o x=>Cm o x
 | .Vl n o x=>SN n o x
 | .aQ e x i=>vv e x i
 | .lM x i=>Cn x i
 | .lookup q z x key ok=>pT q.den z x key ok
 | .fe q m key v=>rv q.den m key v
 | .delete q m key=>pU q.den m key
 | .range x=>ry x
 | .entry x=>rA x
 | .jG=>vw
 | .zP x=>pX x
 | .tO z l cp=>lR z l cp
 | .bu x i=>Co x i
 | .qY f cs=>Cp f cs
 | .jV x=>Cq x
 | .aM x=>vx x
 | .TC x=>FW x
 | .append e b s x=>eo e b s x
 | .call f args=>Cr f args
 | .Vm t x=>Kw t x
 | .P9 n x i=>Cs n x i
 | .rf n e x i=>mr n e x i
 | .slice3 e x lo hi mx=>Nv e x lo hi mx
 | .bad=>Nw
structure SR where
 dst:Option Nat
 op:SO
 guard:Option (Nat×Bool)
 bl:Nat
 mem:Bool
 oh:Bool
 eI:Option XV
def SR.den (r:SR):XR:=⟨r.dst,r.op.den,r.guard,r.bl,r.mem,r.oh,r.eI⟩
inductive SC where
 |skip
 |cN (ops:List SR)
 |bI (ops:List SR)
 |seq (a b:SC)
 |cond (c:XV) (a b:SC)
 |block (id:Nat) (b:SC)
 |loop (b:SC)
 |exit (id:Nat)
 |ret
 |bad
def SC.den:SC->XC
 | .skip=> .skip
 | .cN ops=> .cN (ops.map SR.den)
 | .bI ops=> .bI (ops.map SR.den)
 | .seq a b=> .seq a.den b.den
 | .cond c a b=> .cond c a.den b.den
 | .block id b=> .block id b.den
 | .loop b=> .loop b.den
 | .exit id=> .exit id
 | .ret=> .ret
 | .bad=> .bad
/-! what the sI hold,azs far azs it is known -/
abbrev bo:=List (Nat×AV)
def look:bo->Nat->Option AV
 |[],_=>none
 |(k,v)::l,t=>bif Nat.beq k t then some v else look l t
def Has (sl:Tr AV)(env:bo):Prop:= ∀t v,look env t=some v->slot sl t=v
theorem Has.put {sl:Tr AV}{env:bo}(h:Has sl env){d:Nat}(hd:d<d+1)(v:AV):Has (Tr.set depth sl d v) ((d,v)::env):=fun t u q=>by
 rw[lS hd]
 simp only[look]at q
 rw[mB]at q
 by_cases e:d=t
 ·rw[if_pos e];simp[e]at q;exact q
 ·rw[if_neg e];simp[e]at q;exact h t u q
theorem Has.nil (sl:Tr AV):Has sl []:=fun t v q=>by cases q
def xC (d:Option Nat)(v:AV)(env:bo):bo:=match d with
 |none=>env
 |some d=>(d,v)::env
def nM (nt:Nat):Option Nat->Bool
 |none=>true
 |some d=>Nat.blt d nt
theorem iY {R:Type}{nt:Nat}(hnt:nt<=1000000){sl:Tr AV}{env:bo}(h:Has sl env){d:Option Nat}(hd:nM nt d=true)(v:AV):
    ∃sl',Has sl' (xC d v env)/\ ∀k:Tr AV->Option R,rB nt sl d v k=k sl':=by
 cases d with
 |none=>exact⟨sl,h,fun k=>rfl⟩
 |some d=>
  have hb:Nat.blt d nt=true:=hd
  have hd':d<nt:=by simpa[Nat.blt_eq]using hb
  refine⟨Tr.set depth sl d v,h.put om v,fun k=>?_⟩
  unfold rB
  simp only[hb,cond,Tr.kA]
def dP (env:bo):XV->Option AV
 | .tmp t=>look env t
 | .const v=>some v
 | .Cg g=>some (.ptr g 0)
theorem Has.ev {sl:Tr AV}{env:bo}(h:Has sl env){x:XV}{v:AV}(e:dP env x=some v):bG sl x=v:=by
 cases x with
 |tmp t=>exact h t v e
 |const u=>cases e;rfl
 |Cg g=>cases e;rfl
def Fe (env:bo):List XV->Option (List AV)
 |[]=>some []
 |x::xs=>match dP env x,Fe env xs with
  |some v,some vs=>some (v::vs)
  |_,_=>none
theorem Has.LU {sl:Tr AV}{env:bo}(h:Has sl env): ∀{xs:List XV} {vs:List AV},Fe env xs=some vs->xs.map (bG sl)=vs
 |[],vs,e=>by cases e;rfl
 |x::xs,vs,e=>by
  simp only[Fe]at e
  split at e
  ·rename_i v us h1 h2
   cases e
   rw[List.map_cons,h.ev h1,h.LU h2]
  ·cases e
def cS (env:bo):Option (Nat×Bool)->Option Bool
 |none=>some true
 |some (t,w)=>match look env t with
  |some (.bool b)=>some (b==w)
  |some (.bn _)=>some false
  |_=>none
theorem Has.dq {sl:Tr AV}{env:bo}(h:Has sl env){g:Option (Nat×Bool)}{b:Bool}(e:cS env g=some b):Ev.dq sl g=b:=by
 cases g with
 |none=>cases e;rfl
 |some p=>
  obtain⟨t,w⟩:=p
  simp only[cS]at e
  split at e
  ·rename_i b' hb
   cases e
   simp only[Ev.dq,h t _ hb]
  ·rename_i l hb
   cases e
   simp only[Ev.dq,h t _ hb]
  ·cases e
theorem Has.okW {sl:Tr AV}{env:bo}(h:Has sl env){g:Option (Nat×Bool)}{b:Bool}(e:cS env g=some b):Ev.okW sl g=true:=by
 cases g with
 |none=>rfl
 |some p=>
  obtain⟨t,w⟩:=p
  simp only[cS]at e
  split at e
  ·rename_i b' hb
   simp only[Ev.okW,h t _ hb,SU]
  ·rename_i l hb
   simp only[Ev.okW,h t _ hb,SU]
  ·cases e
def Mi (env env':bo):Prop:= ∀t v,look env t=some v->look env' t=some v
theorem Mi.nil (env:bo):Mi [] env:=fun t v q=>by cases q
theorem Mi.cons {env env':bo}{t:Nat}{v:AV}(h:look env' t=some v)(hs:Mi env env'):Mi ((t,v)::env) env':=fun t' v' q=>by
 simp only[look]at q
 rw[mB]at q
 by_cases e:t=t'
 ·subst e;simp at q;rw[<-q];exact h
 ·simp[e]at q;exact hs t' v' q
section
variable (P:Program)(X:cj)(M:Mf)
def Gm (c:C)(f:Qq)(args:List AV)(h:H)(v:AV)(h':H):Prop:= ∃N,∀n,N<=n->ev (cC P) (bJ P X) M n c (.call f args) h= .call v h'
def Gv (c:C)(f:Nat)(args:List AV)(h:H)(K:AV->H->Prop):Prop:= ∃v h',Gm P X M c (.fn f) args h v h'/\K v h'
structure WO (c:C)(o:SO)(env:bo)(h:H)(K:AV->H->Prop):Prop where
 run: ∀sl,Has sl env-> ∃v h',(∃N,∀n,N<=n-> ∀k:dE,o.den c (eC (ev (cC P) (bJ P X) M n)) sl h k=k v h')/\K v h'
structure WG (c:C)(nt:Nat)(ops:List SR)(env:bo)(h:H)(Q:bo->H->Prop):Prop where
 run: ∀sl,Has sl env-> ∃sl' h' env',(∃N,∀n,N<=n->ic c (eC (ev (cC P) (bJ P X) M n)) nt (ops.map SR.den) sl h=some (sl',h'))/\Has sl' env'/\Q env' h'
structure WD (c:C)(nt:Nat)(base:List (Nat×Nat))(ops:List SR)(i:Nat)(rs:List (Nat×Nat×Nat))(bs:List (Nat×Tr AB×Tr AB))(fs:List (Nat×Nat))(env:bo)(h:H)(Q:bo->H->Prop):Prop where
 run: ∀sl,Has sl env-> ∃sl' h' env',(∃N,∀n,N<=n->cL c (eC (ev (cC P) (bJ P X) M n)) nt base (ops.map SR.den) i rs bs fs sl h=some (sl',h'))/\Has sl' env'/\Q env' h'
structure WC (c:C)(nt:Nat)(x:SC)(env:bo)(h:H)(Q:Ex->bo->H->Prop):Prop where
 run: ∀sl,Has sl env-> ∃e sl' h' env',(∃N,∀n,N<=n-> ∀rd ds,ev (cC P) (bJ P X) M n c (.code nt rd x.den sl ds) h= .code e sl' ds h')/\Has sl' env'/\Q e env' h'
end
section
variable {P:Program}{X:cj}{M:Mf}{c:C}{nt:Nat}{env:bo}{h:H}
theorem WC.mono {x:SC}{Q Q':Ex->bo->H->Prop}(w:WC P X M c nt x env h Q)(hq: ∀e env h,Q e env h->Q' e env h):WC P X M c nt x env h Q':= .mk fun sl hs=>by
 obtain⟨e,sl',h',env',h1,h2,h3⟩:=w.run sl hs
 exact⟨e,sl',h',env',h1,h2,hq _ _ _ h3⟩
theorem Gv.mono {f:Nat}{args:List AV}{K K':AV->H->Prop}(w:Gv P X M c f args h K)(hk: ∀v h',K v h'->K' v h'):Gv P X M c f args h K':=by
 obtain⟨v,h',h1,h2⟩:=w
 exact⟨v,h',h1,hk _ _ h2⟩
theorem WO.mono {o:SO}{K K':AV->H->Prop}(w:WO P X M c o env h K)(hk: ∀v h',K v h'->K' v h'):WO P X M c o env h K':= .mk fun sl hs=>by
 obtain⟨v,h',h1,h2⟩:=w.run sl hs
 exact⟨v,h',h1,hk _ _ h2⟩
theorem Ox {Q:Ex->bo->H->Prop}(q:Q .normal env h):WC P X M c nt .skip env h Q:= .mk fun sl hs=>
 ⟨.normal,sl,h,env,⟨1,fun n hn rd ds=>by cases n with|zero=>omega|succ n=>rfl⟩,hs,q⟩
theorem Oz {id:Nat}{Q:Ex->bo->H->Prop}(q:Q (.exit id) env h):WC P X M c nt (.exit id) env h Q:= .mk fun sl hs=>
 ⟨.exit id,sl,h,env,⟨1,fun n hn rd ds=>by cases n with|zero=>omega|succ n=>rfl⟩,hs,q⟩
theorem Ry {Q:Ex->bo->H->Prop}(q:Q .ret env h):WC P X M c nt .ret env h Q:= .mk fun sl hs=>
 ⟨.ret,sl,h,env,⟨1,fun n hn rd ds=>by cases n with|zero=>omega|succ n=>rfl⟩,hs,q⟩
structure TI (P:Program)(X:cj)(M:Mf)(c:C)(nt:Nat)(b:SC)(Q:Ex->bo->H->Prop)(e:Ex)(env:bo)(h:H):Prop where
 get:match e with
  | .normal=>WC P X M c nt b env h Q
  |e=>Q e env h
theorem RA {a b:SC}{Q:Ex->bo->H->Prop}(w:WC P X M c nt a env h (TI P X M c nt b Q)):WC P X M c nt (.seq a b) env h Q:= .mk fun sl hs=>by
 obtain⟨e,sl1,h1,env1,⟨N,hN⟩,hs1,q⟩:=w.run sl hs
 cases e with
 |normal=>
  obtain⟨e2,sl2,h2,env2,⟨N2,hN2⟩,hs2,q2⟩:=q.get.run sl1 hs1
  refine⟨e2,sl2,h2,env2,⟨N+N2+1,fun n hn rd ds=>?_⟩,hs2,q2⟩
  cases n with
  |zero=>omega
  |succ n=>
   show dT _ c nt rd b.den (ev (cC P) (bJ P X) M n c (.code nt rd a.den sl ds) h)=_
   rw[hN n (by omega) rd ds]
   exact hN2 n om rd ds
 |exit id=>
  refine⟨.exit id,sl1,h1,env1,⟨N+1,fun n hn rd ds=>?_⟩,hs1,q.get⟩
  cases n with
  |zero=>omega
  |succ n=>
   show dT _ c nt rd b.den (ev (cC P) (bJ P X) M n c (.code nt rd a.den sl ds) h)=_
   rw[hN n (by omega) rd ds];rfl
 |ret=>
  refine⟨.ret,sl1,h1,env1,⟨N+1,fun n hn rd ds=>?_⟩,hs1,q.get⟩
  cases n with
  |zero=>omega
  |succ n=>
   show dT _ c nt rd b.den (ev (cC P) (bJ P X) M n c (.code nt rd a.den sl ds) h)=_
   rw[hN n (by omega) rd ds];rfl
theorem GK {v:XV}{a b:SC}{t:Bool}{Q:Ex->bo->H->Prop}(hv:dP env v=some (.bool t))(wt:t=true->WC P X M c nt a env h Q)(wf:t=false->WC P X M c nt b env h Q):WC P X M c nt (.cond v a b) env h Q:= .mk fun sl hs=>by
 have hv':=hs.ev hv
 cases t with
 |true=>
  obtain⟨e,sl1,h1,env1,⟨N,hN⟩,hs1,q⟩:=(wt rfl).run sl hs
  refine⟨e,sl1,h1,env1,⟨N+1,fun n hn rd ds=>?_⟩,hs1,q⟩
  cases n with
  |zero=>omega
  |succ n=>
   show mw _ c nt rd a.den b.den sl ds h (bG sl v)=_
   rw[hv']
   exact hN n om rd ds
 |false=>
  obtain⟨e,sl1,h1,env1,⟨N,hN⟩,hs1,q⟩:=(wf rfl).run sl hs
  refine⟨e,sl1,h1,env1,⟨N+1,fun n hn rd ds=>?_⟩,hs1,q⟩
  cases n with
  |zero=>omega
  |succ n=>
   show mw _ c nt rd a.den b.den sl ds h (bG sl v)=_
   rw[hv']
   exact hN n om rd ds
structure TJ (id:Nat)(Q:Ex->bo->H->Prop)(e:Ex)(env:bo)(h:H):Prop where
 get:match e with
  | .exit id'=>bif Nat.beq id' id then Q .normal env h else Q (.exit id') env h
  |e=>Q e env h
theorem Mc {id:Nat}{b:SC}{Q:Ex->bo->H->Prop}(w:WC P X M c nt b env h (TJ id Q)):WC P X M c nt (.block id b) env h Q:= .mk fun sl hs=>by
 obtain⟨e,sl1,h1,env1,⟨N,hN⟩,hs1,q⟩:=w.run sl hs
 have go: ∀e',ee id (.code e sl1 [] h1)= .code e' sl1 [] h1->(∀ds,ee id (.code e sl1 ds h1)= .code e' sl1 ds h1)->Q e' env1 h1-> ∃e sl' h' env',(∃N,∀n,N<=n-> ∀rd ds,ev (cC P) (bJ P X) M n c (.code nt rd (SC.den (.block id b)) sl ds) h= .code e sl' ds h')/\Has sl' env'/\Q e env' h':=fun e' _ he q'=>by
  refine⟨e',sl1,h1,env1,⟨N+1,fun n hn rd ds=>?_⟩,hs1,q'⟩
  cases n with
  |zero=>omega
  |succ n=>
   show ee id (ev (cC P) (bJ P X) M n c (.code nt rd b.den sl ds) h)=_
   rw[hN n (by omega) rd ds]
   exact he ds
 cases e with
 |normal=>exact go .normal rfl (fun _=>rfl) q.get
 |ret=>exact go .ret rfl (fun _=>rfl) q.get
 |exit id'=>
  have q:=q.get
  simp only at q
  cases hb:Nat.beq id' id with
  |true=>
   rw[hb]at q
   exact go .normal (by simp only[ee,hb,cond]) (fun ds=>by simp only[ee,hb,cond]) q
  |false=>
   rw[hb]at q
   exact go (.exit id') (by simp only[ee,hb,cond]) (fun ds=>by simp only[ee,hb,cond]) q
/-! regions -/
theorem RD {ops:List SR}{Q:Ex->bo->H->Prop}(w:WG P X M c nt ops env h (Q .normal)):WC P X M c nt (.cN ops) env h Q:= .mk fun sl hs=>by
 obtain⟨sl1,h1,env1,⟨N,hN⟩,hs1,q⟩:=w.run sl hs
 refine⟨.normal,sl1,h1,env1,⟨N+1,fun n hn rd ds=>?_⟩,hs1,q⟩
 cases n with
 |zero=>omega
 |succ n=>
  show rC ds (ic c (eC (ev (cC P) (bJ P X) M n)) nt (ops.map SR.den) sl h)=_
  rw[hN n (by omega)];rfl
theorem Rr {Q:bo->H->Prop}(q:Q env h):WG P X M c nt [] env h Q:= .mk fun sl hs=>⟨sl,h,env,⟨0,fun n _=>rfl⟩,hs,q⟩
theorem Pv {o:SR}{ops:List SR}{Q:bo->H->Prop}(hnt:nt<=1000000)(hg:cS env o.guard=some true)(hd:nM nt o.dst=true)(w:WO P X M c o.op env h (fun v h'=>WG P X M c nt ops (xC o.dst v env) h' Q)):WG P X M c nt (o::ops) env h Q:= .mk fun sl hs=>by
 obtain⟨v,h1,⟨N,hN⟩,q⟩:=w.run sl hs
 obtain⟨sl1,hs1,hp⟩:=iY (R:=Tr AV×H) hnt hs hd v
 obtain⟨sl2,h2,env2,⟨N2,hN2⟩,hs2,q2⟩:=q.run sl1 hs1
 refine⟨sl2,h2,env2,⟨N+N2,fun n hn=>?_⟩,hs2,q2⟩
 have hw:=hs.dq hg
 have hk:=hs.okW hg
 show ic c _ nt (o.den::ops.map SR.den) sl h=_
 unfold ic
 simp only[SR.den,hw,cond]
 rw[hN n (by omega),hp]
 exact hN2 n om
theorem Mj {o:SR}{ops:List SR}{Q:bo->H->Prop}(hnt:nt<=1000000)(hg:cS env o.guard=some false)(hd:nM nt o.dst=true)(w:WG P X M c nt ops (xC o.dst (.bn []) env) h Q):WG P X M c nt (o::ops) env h Q:= .mk fun sl hs=>by
 obtain⟨sl1,hs1,hp⟩:=iY (R:=Tr AV×H) hnt hs hd (.bn [])
 obtain⟨sl2,h2,env2,⟨N2,hN2⟩,hs2,q2⟩:=w.run sl1 hs1
 refine⟨sl2,h2,env2,⟨N2,fun n hn=>?_⟩,hs2,q2⟩
 have hw:=hs.dq hg
 have hk:=hs.okW hg
 show ic c _ nt (o.den::ops.map SR.den) sl h=_
 unfold ic
 simp only[SR.den,hw,hk,cond]
 rw[hp]
 exact hN2 n om
/-! regions that draw -/
theorem OC {ops:List SR}{Q:Ex->bo->H->Prop}(w:WD P X M c nt (bw h.n c.cd) ops 0 [] [] [] env h (Q .normal)):WC P X M c nt (.bI ops) env h Q:= .mk fun sl hs=>by
 obtain⟨sl1,h1,env1,⟨N,hN⟩,hs1,q⟩:=w.run sl hs
 refine⟨.normal,sl1,h1,env1,⟨N+1,fun n hn rd ds=>?_⟩,hs1,q⟩
 cases n with
 |zero=>omega
 |succ n=>
  show rC ds (cL c (eC (ev (cC P) (bJ P X) M n)) nt (bw h.n c.cd) (ops.map SR.den) 0 [] [] [] sl h)=_
  rw[hN n (by omega)];rfl
variable {base:List (Nat×Nat)}{i:Nat}{rs:List (Nat×Nat×Nat)}{bs:List (Nat×Tr AB×Tr AB)}{fs:List (Nat×Nat)}
theorem RK {Q:bo->H->Prop}(q:Q env h):WD P X M c nt base [] i rs bs fs env h Q:= .mk fun sl hs=>⟨sl,h,env,⟨0,fun n _=>rfl⟩,hs,q⟩
theorem RS {o:SR}{ops:List SR}{Q:bo->H->Prop}(hnt:nt<=1000000)(hg:cS env o.guard=some false)(hd:nM nt o.dst=true)(w:WD P X M c nt base ops (i+1) rs bs fs (xC o.dst (.bn []) env) h Q):WD P X M c nt base (o::ops) i rs bs fs env h Q:= .mk fun sl hs=>by
 obtain⟨sl1,hs1,hp⟩:=iY (R:=Tr AV×H) hnt hs hd (.bn [])
 obtain⟨sl2,h2,env2,⟨N2,hN2⟩,hs2,q2⟩:=w.run sl1 hs1
 refine⟨sl2,h2,env2,⟨N2,fun n hn=>?_⟩,hs2,q2⟩
 have hw:=hs.dq hg
 have hk:=hs.okW hg
 show cL c _ nt base (o.den::ops.map SR.den) i rs bs fs sl h=_
 unfold cL
 simp only[SR.den,hw,hk,cond]
 rw[hp]
 exact hN2 n om
theorem ON {o:SR}{ops:List SR}{Q:bo->H->Prop}(hnt:nt<=1000000)(hg:cS env o.guard=some true)(hd:nM nt o.dst=true)(hf:o.eI=none)(hm:o.mem=false)
    (w:WO P X M ⟨h.n,[(h.n,gQ)]⟩ o.op env h (fun v h'=>WD P X M c nt base ops (i+1) (eF i h.n h'.n rs) bs fs (xC o.dst v env) h' Q)):WD P X M c nt base (o::ops) i rs bs fs env h Q:= .mk fun sl hs=>by
 obtain⟨v,h1,⟨N,hN⟩,q⟩:=w.run sl hs
 obtain⟨sl1,hs1,hp⟩:=iY (R:=Tr AV×H) hnt hs hd v
 obtain⟨sl2,h2,env2,⟨N2,hN2⟩,hs2,q2⟩:=q.run sl1 hs1
 refine⟨sl2,h2,env2,⟨N+N2,fun n hn=>?_⟩,hs2,q2⟩
 have hw:=hs.dq hg
 have hk:=hs.okW hg
 show cL c _ nt base (o.den::ops.map SR.den) i rs bs fs sl h=_
 unfold cL
 simp only[SR.den,hw,cond,hf,hm]
 rw[hN n (by omega),hp]
 exact hN2 n om
theorem OO {o:SR}{ops:List SR}{x:XV}{a:AV}{A:Nat}{Q:bo->H->Prop}(hnt:nt<=1000000)(hg:cS env o.guard=some true)(hd:nM nt o.dst=true)(hf:o.eI=some x)(ha:dP env x=some a)(hA:z8 a=some A)
    (hsee:seen ((h.n,gQ)::cI o.bl base rs) A=true) (hun:jZ o.bl A bs=true)
    (w:WO P X M ⟨h.n,[(h.n,gQ),(A,Nat.succ A)]⟩ o.op env h (fun v h'=>WD P X M c nt base ops (i+1) (eF i h.n h'.n rs) bs ((i,A)::fs) (xC o.dst v env) h' Q)):WD P X M c nt base (o::ops) i rs bs fs env h Q:= .mk fun sl hs=>by
 obtain⟨v,h1,⟨N,hN⟩,q⟩:=w.run sl hs
 obtain⟨sl1,hs1,hp⟩:=iY (R:=Tr AV×H) hnt hs hd v
 obtain⟨sl2,h2,env2,⟨N2,hN2⟩,hs2,q2⟩:=q.run sl1 hs1
 refine⟨sl2,h2,env2,⟨N+N2,fun n hn=>?_⟩,hs2,q2⟩
 have hw:=hs.dq hg
 have he:=hs.ev ha
 show cL c _ nt base (o.den::ops.map SR.den) i rs bs fs sl h=_
 unfold cL
 simp only[SR.den,hw,cond,hf,he,hA,hsee,hun,Bool.and_self]
 rw[hN n (by omega),hp]
 exact hN2 n om
theorem RT {o:SR}{ops:List SR}{Q:bo->H->Prop}(hnt:nt<=1000000)(hg:cS env o.guard=some true)(hd:nM nt o.dst=true)(hf:o.eI=none)(hm:o.mem=true)(hb:o.oh=false)
    (w:WO P X M ⟨h.n,(h.n,gQ)::cI o.bl base rs⟩ o.op env h (fun v h'=>WD P X M c nt base ops (i+1) (eF i h.n h'.n rs) bs fs (xC o.dst v env) h' Q)):WD P X M c nt base (o::ops) i rs bs fs env h Q:= .mk fun sl hs=>by
 obtain⟨v,h1,⟨N,hN⟩,q⟩:=w.run sl hs
 obtain⟨sl1,hs1,hp⟩:=iY (R:=Tr AV×H) hnt hs hd v
 obtain⟨sl2,h2,env2,⟨N2,hN2⟩,hs2,q2⟩:=q.run sl1 hs1
 refine⟨sl2,h2,env2,⟨N+N2,fun n hn=>?_⟩,hs2,q2⟩
 have hw:=hs.dq hg
 have hk:=hs.okW hg
 show cL c _ nt base (o.den::ops.map SR.den) i rs bs fs sl h=_
 unfold cL
 simp only[SR.den,hw,cond,hf,hm,hb]
 rw[hN n (by omega),hp]
 exact hN2 n om
theorem Mk {o:SR}{ops:List SR}{Q:bo->H->Prop}(hnt:nt<=1000000)(hg:cS env o.guard=some true)(hd:nM nt o.dst=true)(hf:o.eI=none)(hm:o.mem=true)(hb:o.oh=true)
    (w:WO P X M ⟨c.floor,(h.n,gQ)::cI o.bl base rs⟩ o.op env h (fun v h'=>iQ o.bl h.t h'.t fs=true/\WD P X M c nt base ops (i+1) (eF i h.n h'.n rs) ((i,h.t,h'.t)::bs) fs (xC o.dst v env) h' Q)):WD P X M c nt base (o::ops) i rs bs fs env h Q:= .mk fun sl hs=>by
 obtain⟨v,h1,⟨N,hN⟩,hun,q⟩:=w.run sl hs
 obtain⟨sl1,hs1,hp⟩:=iY (R:=Tr AV×H) hnt hs hd v
 obtain⟨sl2,h2,env2,⟨N2,hN2⟩,hs2,q2⟩:=q.run sl1 hs1
 refine⟨sl2,h2,env2,⟨N+N2,fun n hn=>?_⟩,hs2,q2⟩
 have hw:=hs.dq hg
 have hk:=hs.okW hg
 show cL c _ nt base (o.den::ops.map SR.den) i rs bs fs sl h=_
 unfold cL
 simp only[SR.den,hw,cond,hf,hm,hb]
 rw[hN n (by omega),hun,hp]
 exact hN2 n om
/-! calls -/
def OB:List AV->Nat->bo->bo
 |[],_,env=>env
 |v::vs,i,env=>OB vs (i+1) ((i,v)::env)
theorem v8: ∀(vs:List AV) (i:Nat) (sl:Tr AV) (env:bo),Has sl env->i+vs.length<=1000000->Has (iV vs i sl) (OB vs i env)
 |[],i,sl,env,hs,_=>hs
 |v::vs,i,sl,env,hs,hl=>by
  simp only[List.length_cons]at hl
  exact v8 vs (i+1) _ _ (hs.put om v) om
def Dg (c:C)(h:H)(env:bo):List (Nat×Option (Option Nat))->Option (List AV)
 |[]=>some []
 |r::rs=>match look env r.1,Dg c h env rs with
  |some v,some vs=>match r.2 with
   |none=>some (v::vs)
   |some n=>match v with
    | .ptr id off=>match cr c h id with
     |some (.cells cs)=>match n with
      |none=>match nth off cs with
       |some u=>some (u::vs)
       |none=>none
      |some n=>match iO off cs fun cs=>fI n cs fun cs=>some cs with
       |some us=>some (.agg us::vs)
       |none=>none
     |_=>none
    |_=>none
  |_,_=>none
theorem mH {sl:Tr AV}(hs:Has sl env): ∀{rs:List (Nat×Option (Option Nat))} {vs:List AV},Dg c h env rs=some vs-> ∀k,j5 c h sl rs k=k vs
 |[],vs,e,k=>by cases e;rfl
 |r::rs,vs,e,k=>by
  simp only[Dg]at e
  split at e
  ·rename_i v us h1 h2
   have hv:=hs _ _ h1
   unfold j5
   split at e
   ·rename_i hr
    cases e
    rw[hr]
    simp only
    rw[mH hs h2,hv]
   ·rename_i n hr
    rw[hr]
    simp only
    rw[hv]
    split at e
    ·rename_i id off
     simp only
     split at e
     ·rename_i cs hg
      rw[hg]
      simp only
      split at e
      ·split at e
       ·rename_i u hu
        cases e
        simp only[hu]
        rw[mH hs h2]
       ·cases e
      ·split at e
       ·rename_i us' hu
        cases e
        simp only[hu]
        rw[mH hs h2]
       ·cases e
     ·cases e
    ·cases e
  ·cases e
def LZ:List AV->AV
 |[v]=>v
 |vs=> .bn vs
theorem rT (h:H): ∀(vs:List AV),gv h vs= .call (LZ vs) h
 |[]=>rfl
 |[v]=>rfl
 |v::u::vs=>rfl
theorem TD {f:Nat}{args:List AV}{res:List (Nat×Option (Option Nat))}{s:SC}{K:AV->H->Prop}(ht:bJ P X f=some (.fn ⟨nt,res,s.den⟩))(hM:M f args c h=none)(hl:args.length<=nt)(hnt:nt<=1000000)
    (w:WC P X M c nt s (OB args 0 []) h (fun e env h'=>(e= .normal\/e= .ret)/\ ∃vs,Dg c h' env res=some vs/\K (LZ vs) h')):Gv P X M c f args h K:=by
 obtain⟨e,sl1,h1,env1,⟨N,hN⟩,hs1,he,vs,hr,hk⟩:=w.run (iV args 0 .nil) (v8 args 0 .nil [] (Has.nil _) om)
 refine⟨LZ vs,h1,⟨N+2,fun n hn=>?_⟩,hk⟩
 cases n with
 |zero=>omega
 |succ n=>
  show(match M f args c h with|some r=>lh.call r.1 r.2|none=>jk (ev (cC P) (bJ P X) M n) c args h (bJ P X f))=_
  rw[hM,ht]
  show(bif Nat.ble (gI args) nt then slotsOf args 0 .nil fun sl=>Aa c res (ev (cC P) (bJ P X) M n c (.code nt false s.den sl []) h)else .bad)=_
  rw[cX,Nat.ble_eq_true_of_le hl]
  simp only[cond,ot]
  rw[hN n (by omega)]
  rcases he with rfl|rfl
  ·simp only[Aa,sB]
   rw[mH hs1 hr,rT]
  ·simp only[Aa,sB]
   rw[mH hs1 hr,rT]
end
/-! heaps -/
def H.new (h:H)(b:AB):H:=⟨Tr.set depth h.t h.n b,h.n+1⟩
def H.put (h:H)(id:Nat)(b:AB):H:=⟨Tr.set depth h.t id b,h.n⟩
def H.get (h:H)(id:Nat):Option AB:=Tr.get h.t id
theorem wg (h:H)(b:AB):(h.new b).n=h.n+1:=rfl
theorem GM {h:H}(hn:h.n<h.n+1)(b:AB)(id:Nat):(h.new b).get id=if h.n=id then some b else h.get id:=bM _ _ _ _ hn
theorem kP {h:H}(hn:h.n<h.n+1)(b:AB):(h.new b).get h.n=some b:=by rw[GM hn,if_pos rfl]
theorem gL {h:H}(hn:h.n<h.n+1)(b:AB){id:Nat}(hid:id<h.n):(h.new b).get id=h.get id:=by rw[GM hn,if_neg (by omega)]
theorem GN {h:H}{id:Nat}(hn:id<id+1)(b:AB)(j:Nat):(h.put id b).get j=if id=j then some b else h.get j:=bM _ _ _ _ hn
theorem AA {h:H}{id:Nat}(hn:id<id+1)(b:AB):(h.put id b).get id=some b:=by rw[GN hn,if_pos rfl]
theorem jt {h:H}{id:Nat}(hn:id<id+1)(b:AB){j:Nat}(hj:id≠j):(h.put id b).get j=h.get j:=by rw[GN hn,if_neg hj]
structure ny (h h':H):Prop where
 le:h.n<=h'.n
 get: ∀id,id<h.n->h'.get id=h.get id
theorem ny.refl (h:H):ny h h:=⟨Nat.le_refl _,fun _ _=>rfl⟩
theorem ny.trans {h h1 h2:H}(a:ny h h1)(b:ny h1 h2):ny h h2:=⟨Nat.le_trans a.le b.le,fun id hid=>(b.get id (Nat.lt_of_lt_of_le hid a.le)).trans (a.get id hid)⟩
theorem ny.new {h:H}(hn:h.n<h.n+1)(b:AB):ny h (h.new b):=⟨by simp[H.new],fun id hid=>gL hn b hid⟩
theorem ny.CI {h h1:H}(a:ny h h1)(hn:h1.n<h1.n+1)(b:AB):ny h (h1.new b):=a.trans (ny.new hn b)
/-! lists -/
theorem gN {α R:Type}: ∀(n:Nat) (l:List α) (k:List α->Option R),n<=l.length->fI n l k=k (l.take n)
 |0,l,k,_=>by simp[fI]
 |n+1,[],k,h=>by simp at h
 |n+1,x::l,k,h=>by
  simp only[fI,List.take_succ_cons]
  exact gN n l _ (by simpa using h)
theorem gM {α R:Type}: ∀(n:Nat) (l:List α) (k:List α->Option R),n<=l.length->iO n l k=k (l.drop n)
 |0,l,k,_=>by simp[iO]
 |n+1,[],k,h=>by simp at h
 |n+1,x::l,k,h=>by
  simp only[iO,List.drop_succ_cons]
  exact gM n l _ (by simpa using h)
theorem Dj {R:Type}: ∀(news l:List AV) (k:List AV->Option R),news.length<=l.length->vn news l k=k (news++l.drop news.length)
 |[],l,k,_=>by simp[vn]
 |y::news,[],k,h=>by simp at h
 |y::news,x::l,k,h=>by
  simp only[vn,List.length_cons,List.drop_succ_cons,List.cons_append]
  exact Dj news l _ (by simpa using h)
def dM (off:Nat)(news l:List AV):List AV:=l.take off++news++l.drop (off+news.length)
theorem iX {R:Type}: ∀(off:Nat) (news l:List AV) (k:List AV->Option R),off+news.length<=l.length->eP off news l k=k (dM off news l)
 |0,news,l,k,h=>by
  simp only[eP,dM,List.take_zero,List.nil_append,Nat.zero_add]
  exact Dj news l k om
 |off+1,news,[],k,h=>by simp at h
 |off+1,news,x::l,k,h=>by
  have hl:off+news.length<=l.length:=by simp only[List.length_cons]at h;omega
  have e:dM (off+1) news (x::l)=x::dM off news l:=by simp[dM,Nat.add_right_comm]
  simp only[eP,e]
  exact iX off news l (fun ys=>k (x::ys)) hl
def oD (env:bo):List (Nat×Nat×XV)->List AV->Option (List AV)
 |[],l=>some l
 |p::ps,l=>match dP env p.2.2 with
  |some v=>bif Nat.beq (gI v.cells) p.2.1&&Cj v then match eP p.1 v.cells l some with
      |some l=>oD env ps l
      |none=>none
   else none
  |none=>none
theorem AG {R:Type}: ∀(off:Nat) (news l:List AV) (k:List AV->Option R),eP off news l k=(eP off news l some).bind k:=by
 intro off news l k
 by_cases h:off+news.length<=l.length
 ·rw[iX _ _ _ _ h,iX _ _ _ _ h];rfl
 ·cases h1:eP off news l k with
  |some r=>exact absurd (fR h1).1 h
  |none=>
   cases h2:eP off news l some with
   |some r=>exact absurd (fR h2).1 h
   |none=>rfl
theorem wu {R:Type}{sl:Tr AV}{env:bo}(hs:Has sl env): ∀(ps:List (Nat×Nat×XV)) (l l':List AV),oD env ps l=some l'-> ∀k:List AV->Option R,ku sl ps l k=k l'
 |[],l,l',e,k=>by cases e;rfl
 |p::ps,l,l',e,k=>by
  simp only[oD]at e
  split at e
  ·rename_i v hv
   have hv':=hs.ev hv
   cases hb:(Nat.beq (gI v.cells) p.2.1&&Cj v)with
   |false=>rw[hb]at e;cases e
   |true=>
    rw[hb]at e
    simp only[cond]at e
    split at e
    ·rename_i l1 hl1
     simp only[ku,hv',hb,cond]
     rw[AG,hl1]
     exact wu hs ps l1 l' e k
    ·cases e
  ·cases e
/-! numbers -/
theorem Pw {n:Int}(h1: -9223372036854775808<=n)(h2:n<=9223372036854775807):zY .i64 n=true:=by
 cases n with
 |ofNat m=>
  have h3:(m:Int)<=9223372036854775807:=h2
  simp only[zY]
  exact Nat.ble_eq_true_of_le om
 |negSucc m=>simp only[zY];exact Nat.ble_eq_true_of_le om
theorem yD {a b:Nat}(h:b<=a):Nat.blt a b=false:=by
 cases hb:Nat.blt a b with
 |false=>rfl
 |true=>
  have:a<b:=by simpa[Nat.blt_eq]using hb
  omega
theorem ct (k:IntKind):eD k k=true:=by simp[eD]
section
variable {P:Program}{X:cj}{M:Mf}{c:C}{env:bo}{h:H}{K:AV->H->Prop}
theorem bd {o:SO}{v:AV}{h':H}(e: ∀sl,Has sl env-> ∀call k,o.den c call sl h k=k v h')(hk:K v h'):WO P X M c o env h K:= .mk fun sl hs=>⟨v,h',⟨0,fun n _ k=>e sl hs _ k⟩,hk⟩
theorem Tx {x:XV}{v:AV}(hx:dP env x=some v)(hk:K v h):WO P X M c (.mv x) env h K:=bd (fun sl hs call k=>by simp only[SO.den,Ud,hs.ev hx]) hk
theorem IW {b x y:XV}{v:AV}(hb:dP env b=some (.bool true))(hx:dP env x=some v)(hk:K v h):WO P X M c (.pick b x y) env h K:=bd (fun sl hs call k=>by simp only[SO.den,ya,hs.ev hb,hs.ev hx]) hk
theorem IX {b x y:XV}{v:AV}(hb:dP env b=some (.bool false))(hy:dP env y=some v)(hk:K v h):WO P X M c (.pick b x y) env h K:=bd (fun sl hs call k=>by simp only[SO.den,ya,hs.ev hb,hs.ev hy]) hk
theorem eS {R:Type}{b:AB}(hn:h.n<h.n+1)(k:Nat->H->Option R):pK h b k=k h.n (h.new b):=by
 unfold pK
 simp only[Tr.kA,aZ];rfl
theorem kK {R:Type}{id:Nat}{b:AB}(hf:c.floor<=id)(hs:seen c.cd id=true)(k:H->Option R):pJ c h id b k=k (h.put id b):=by
 unfold pJ
 simp only[Nat.ble_eq_true_of_le hf,hs,Bool.and_self,cond,Tr.kA];rfl
theorem bW {id:Nat}(hs:seen c.cd id=true):cr c h id=h.get id:=by unfold cr;rw[hs];rfl
theorem OP {v:AV}(h:one v=true):Cj v=true:=by
 cases v<;>first|rfl|(have h':false=true:=h;cases h')
theorem Rn {x:XV}{v:AV}(hx:dP env x=some v)(hn:h.n<h.n+1)(hk:K (.ptr h.n 0) (h.new (.cells v.cells)))(fX:Cj v=true:=by first|rfl|(apply OP;assumption)):WO P X M c (.box x) env h K:=
 bd (fun sl hs call k=>by simp only[SO.den,Ck,hs.ev hx,fX,cond_true,eS hn]) hk
theorem L7 {z:List AV}{ps:List (Nat×Nat×XV)}{l:List AV}(hp:oD env ps z=some l)(hk:K (.agg l) h):WO P X M c (.build z ps) env h K:=
 bd (fun sl hs call k=>by simp only[SO.den,ru];rw[wu hs ps z l hp]) hk
theorem yC {n:Nat}{z:List AV}{ps:List (Nat×Nat×XV)}{l:List AV}(hp:oD env ps (List.replicate n z).flatten=some l)(hn:h.n<h.n+1)(hk:K (.sl h.n 0 n z.length (some n)) (h.new (.cells l))):WO P X M c (.bq n z ps) env h K:=
 bd (fun sl hs call k=>by simp only[SO.den,pO,qe];rw[wu hs ps _ l hp,eS hn,cX]) hk
theorem wi {x:XV}{id off:Nat}{vs:List AV}{v:AV}(hx:dP env x=some (.ptr id off))(hs:seen c.cd id=true)(hg:h.get id=some (.cells vs))(hv:vs[off]? =some v)(hk:K v h):WO P X M c (.ax x) env h K:=
 bd (fun sl hh call k=>by simp only[SO.den,vo,hh.ev hx,dB,bW hs,hg,gA,hv]) hk
theorem wj {n:Nat}{x:XV}{id off:Nat}{vs us:List AV}(hx:dP env x=some (.ptr id off))(hs:seen c.cd id=true)(hg:h.get id=some (.cells vs))(hl:off+n<=vs.length)(hu:(vs.drop off).take n=us)(hk:K (.agg us) h):WO P X M c (.ao n x) env h K:=
 bd (fun sl hh call k=>by
  simp only[SO.den,vp,hh.ev hx,dB,bW hs,hg]
  rw[gM _ _ _ (by omega),gN _ _ _ (by simp;omega),hu]) hk
theorem Db {n:Nat}{a x:XV}{id off:Nat}{vs:List AV}{v:AV}(ha:dP env a=some (.ptr id off))(hx:dP env x=some v)(hf:c.floor<=id)(hs:seen c.cd id=true)(hg:h.get id=some (.cells vs))(hn:v.cells.length=n)(ho:cy v.cells=true)(hl:off+n<=vs.length)
    (hk:K (.bn []) (h.put id (.cells (dM off v.cells vs)))):WO P X M c (.store n a x) env h K:=
 bd (fun sl hh call k=>by
  have hb:Nat.beq (gI v.cells) n=true:=by rw[cX,hn];simp
  simp only[SO.den,vq,hh.ev ha,hh.ev hx,dB,bW hs,hg,hb,ho,Bool.and_self,cond]
  rw[iX _ _ _ _ (by omega),kK hf hs]) hk
theorem Ay {x:XV}{id off:Nat}(hx:dP env x=some (.ptr id off))(hk:K (.ptr id off) h):WO P X M c (.cu x) env h K:=bd (fun sl hs call k=>by simp only[SO.den,yb,hs.ev hx]) hk
theorem L5 {x:XV}{f:Nat}{cs:List AV}(hx:dP env x=some (.fn f cs))(hk:K (.fn f cs) h):WO P X M c (.cu x) env h K:=bd (fun sl hs call k=>by simp only[SO.den,yb,hs.ev hx]) hk
theorem Rf {x y:XV}{a b:Int}(hx:dP env x=some (.int .i64 a))(hy:dP env y=some (.int .i64 b))(h1: -9223372036854775808<=a+b)(h2:a+b<=9223372036854775807)(hk:K (.int .i64 (a+b)) h):WO P X M c (.ints .add x y) env h K:=
 bd (fun sl hs call k=>by
  have hr:zY .i64 (Int.add a b)=true:=Pw h1 h2
  simp only[SO.den,SI.den,Ev.ints,hs.ev hx,hs.ev hy,ct,cond,Nj,EE,hr,fg];rfl) hk
theorem Rg {x y:XV}{a b:Int}(hx:dP env x=some (.int .i64 a))(hy:dP env y=some (.int .i64 b))(h1: -9223372036854775808<=a-b)(h2:a-b<=9223372036854775807)(hk:K (.int .i64 (a-b)) h):WO P X M c (.ints .sub x y) env h K:=
 bd (fun sl hs call k=>by
  have hr:zY .i64 (Int.sub a b)=true:=Pw h1 h2
  simp only[SO.den,SI.den,Ev.ints,hs.ev hx,hs.ev hy,ct,cond,Nk,EE,hr,fg];rfl) hk
theorem Rh {x y:XV}{p:IntKind}{a b:Int}(hx:dP env x=some (.int p a))(hy:dP env y=some (.int p b))(ht:a<b->K (.bool true) h)(hf: ¬a<b->K (.bool false) h):WO P X M c (.ints .lss x y) env h K:=by
 by_cases q:a<b
 ·exact bd (fun sl hs call k=>by simp only[SO.den,SI.den,Ev.ints,hs.ev hx,hs.ev hy,ct,cond,Kq,eH,fQ,decide_eq_true q,bR]) (ht q)
 ·exact bd (fun sl hs call k=>by simp only[SO.den,SI.den,Ev.ints,hs.ev hx,hs.ev hy,ct,cond,Kq,eH,fQ,decide_eq_false q,bR]) (hf q)
theorem Ri {x y:XV}{p:IntKind}{a b:Int}(hx:dP env x=some (.int p a))(hy:dP env y=some (.int p b))(ht:b<a->K (.bool true) h)(hf: ¬b<a->K (.bool false) h):WO P X M c (.ints .gtr x y) env h K:=by
 by_cases q:b<a
 ·exact bd (fun sl hs call k=>by simp only[SO.den,SI.den,Ev.ints,hs.ev hx,hs.ev hy,ct,cond,Ks,eH,fQ,decide_eq_true q,bR]) (ht q)
 ·exact bd (fun sl hs call k=>by simp only[SO.den,SI.den,Ev.ints,hs.ev hx,hs.ev hy,ct,cond,Ks,eH,fQ,decide_eq_false q,bR]) (hf q)
theorem Rk {x y:XV}{p:IntKind}{a b:Int}(hx:dP env x=some (.int p a))(hy:dP env y=some (.int p b))(ht:a<=b->K (.bool true) h)(hf: ¬a<=b->K (.bool false) h):WO P X M c (.ints .leq x y) env h K:=by
 by_cases q:b<a
 ·exact bd (fun sl hs call k=>by simp only[SO.den,SI.den,Ev.ints,hs.ev hx,hs.ev hy,ct,cond,Kr,eH,fQ,decide_eq_true q,Bool.not_true,bR]) (hf om)
 ·exact bd (fun sl hs call k=>by simp only[SO.den,SI.den,Ev.ints,hs.ev hx,hs.ev hy,ct,cond,Kr,eH,fQ,decide_eq_false q,Bool.not_false,bR]) (ht om)
theorem Rj {x y:XV}{p:IntKind}{a b:Int}(hx:dP env x=some (.int p a))(hy:dP env y=some (.int p b))(ht:b<=a->K (.bool true) h)(hf: ¬b<=a->K (.bool false) h):WO P X M c (.ints .geq x y) env h K:=by
 by_cases q:a<b
 ·exact bd (fun sl hs call k=>by simp only[SO.den,SI.den,Ev.ints,hs.ev hx,hs.ev hy,ct,cond,Kt,eH,fQ,decide_eq_true q,Bool.not_true,bR]) (hf om)
 ·exact bd (fun sl hs call k=>by simp only[SO.den,SI.den,Ev.ints,hs.ev hx,hs.ev hy,ct,cond,Kt,eH,fQ,decide_eq_false q,Bool.not_false,bR]) (ht om)
theorem oB {q:SQ}{neg:Bool}{x y:XV}{u v:AV}{b:Bool}(hx:dP env x=some u)(hy:dP env y=some v)(hq:q.den u v=some b)(hk:K (.bool (bne b neg)) h):WO P X M c (.eql q neg x y) env h K:=
 bd (fun sl hs call k=>by simp only[SO.den,Ku,hs.ev hx,hs.ev hy,hq,eH,bR]) hk
theorem ke (p:IntKind)(a b:Int):sy (.int p a) (.int p b)=some (decide (a=b)):=by simp only[sy,ct,cond,rJ]
theorem Rl {neg:Bool}{x y:XV}{p:IntKind}{a b:Int}(hx:dP env x=some (.int p a))(hy:dP env y=some (.int p b))(ht:a=b->K (.bool (bne true neg)) h)(hf: ¬a=b->K (.bool (bne false neg)) h):WO P X M c (.eql (.b .int) neg x y) env h K:=by
 by_cases q:a=b
 ·exact oB hx hy (by simp only[SQ.den,SB.den,ke,decide_eq_true q]) (ht q)
 ·exact oB hx hy (by simp only[SQ.den,SB.den,ke,decide_eq_false q]) (hf q)
theorem Rm {neg:Bool}{x y:XV}{a b:List Nat}(hx:dP env x=some (.str a))(hy:dP env y=some (.str b))(ht:a=b->K (.bool (bne true neg)) h)(hf: ¬a=b->K (.bool (bne false neg)) h):WO P X M c (.eql (.b .str) neg x y) env h K:=by
 by_cases q:a=b
 ·exact oB hx hy (by simp only[SQ.den,SB.den,eqStr,kC,decide_eq_true q]) (ht q)
 ·exact oB hx hy (by simp only[SQ.den,SB.den,eqStr,kC,decide_eq_false q]) (hf q)
theorem Re {x:XV}{b:Bool}(hx:dP env x=some (.bool b))(hk:K (.bool (!b)) h):WO P X M c (.not x) env h K:=bd (fun sl hs call k=>by simp only[SO.den,Kv,hs.ev hx,eH,bR]) hk
theorem wc {o:Nat}{x:XV}{id off:Nat}(hx:dP env x=some (.ptr id off))(hk:K (.ptr id (off+o)) h):WO P X M c (.aq o x) env h K:=bd (fun sl hs call k=>by simp only[SO.den,vu,hs.ev hx,aZ];rfl) hk
theorem On {o:Nat}{x:XV}{vs:List AV}{v:AV}(hx:dP env x=some (.agg vs))(hv:vs[o]? =some v)(hk:K v h):WO P X M c (.Rc o x) env h K:=bd (fun sl hs call k=>by simp only[SO.den,Cm,hs.ev hx,gA,hv]) hk
theorem Dc {esz:Nat}{x i:XV}{id off n es j:Nat}{cap:Option Nat}{p:IntKind}{z:Int}(hx:dP env x=some (.sl id off n es cap))(hi:dP env i=some (.int p z))(hz:z=(j:Int))(hj:j<n)(hk:K (.ptr id (off+j*esz)) h):WO P X M c (.aQ esz x i) env h K:=
 bd (fun sl hs call k=>by
  subst hz
  have hb:Nat.blt j n=true:=by simpa[Nat.blt_eq]using hj
  have ha:asNat (.int p (j:Int))=some j:=rfl
  simp only[SO.den,vv,hs.ev hx,hs.ev hi,ha,hb,cond,aZ];rfl) hk
theorem Az {x:XV}{id off n es:Nat}{cap:Option Nat}(hx:dP env x=some (.sl id off n es cap))(hk:K (.int .i64 (n:Int)) h):WO P X M c (.aM x) env h K:=bd (fun sl hs call k=>by simp only[SO.den,vx,hs.ev hx];rfl) hk
theorem we {x:XV}(hx:dP env x=some .aE)(hk:K (.int .i64 0) h):WO P X M c (.aM x) env h K:=bd (fun sl hs call k=>by simp only[SO.den,vx,hs.ev hx];rfl) hk
theorem L6 {x:XV}{oa:Option Addr}{n cp:Nat}(hx:dP env x=some (.raw oa n cp))(hk:K (.int .i64 (n:Int)) h):WO P X M c (.aM x) env h K:=bd (fun sl hs call k=>by simp only[SO.den,vx,hs.ev hx];rfl) hk
theorem Oo {x:XV}{s:List Nat}(hx:dP env x=some (.str s))(hk:K (.int .i64 (s.length:Int)) h):WO P X M c (.jV x) env h K:=bd (fun sl hs call k=>by simp only[SO.den,Cq,hs.ev hx,aZ,cX];rfl) hk
theorem Om {x:XV}{i:Nat}{vs:List AV}{v:AV}(hx:dP env x=some (.bn vs))(hv:vs[i]? =some v)(hk:K v h):WO P X M c (.bu x i) env h K:=bd (fun sl hs call k=>by simp only[SO.den,Co,hs.ev hx,gA,hv]) hk
theorem Oq {f:Nat}{cs:List XV}{vs:List AV}(hx:Fe env cs=some vs)(hk:K (.fn f vs) h):WO P X M c (.qY f cs) env h K:=bd (fun sl hs call k=>by simp only[SO.den,Cp,kD,hs.LU hx]) hk
theorem Me (hn:h.n<h.n+1)(hk:K (.mp h.n) (h.new (.map [] 0))):WO P X M c .jG env h K:=bd (fun sl hs call k=>by simp only[SO.den,vw,eS hn]) hk
def IY (env:bo)(d:Nat):Option XV->Option Nat
 |none=>some d
 |some x=>match dP env x with
  |some (.int _ (.ofNat n))=>some n
  |_=>none
theorem ju {sl:Tr AV}(hs:Has sl env){d:Nat}{x:Option XV}{n:Nat}(e:IY env d x=some n):cQ sl d x=some n:=by
 cases x with
 |none=>exact e
 |some x=>
  simp only[IY]at e
  split at e
  ·rename_i k m hm
   cases e
   simp only[cQ,hs.ev hm];rfl
  ·cases e
theorem I0 {esz:Nat}{x:XV}{lo hi:Option XV}(hx:dP env x=some .aE)(hl:IY env 0 lo=some 0)(hu:IY env 0 hi=some 0)(hk:K .aE h):WO P X M c (.slice esz x lo hi) env h K:=
 bd (fun sl hs call k=>by simp only[SO.den,lQ,hs.ev hx,ju hs hl,ju hs hu]) hk
/-! maps -/
def yF (ok:Bool)(v:AV)(b:Bool):AV:=bif ok then .bn [v,.bool b]else v
def Ml (ok:Bool)(z:AV):Option (Nat×AV)->AV
 |some p=>yF ok p.2 true
 |none=>yF ok z false
theorem wv (ok:Bool)(v:AV)(b:Bool)(h:H)(k:dE):mq ok v b h k=k (yF ok v b) h:=by cases ok<;>rfl
theorem I2 {q:SQ}{z:AV}{x key:XV}{ok:Bool}{kv:AV}{id clock:Nat}{es:List (AV×AV×Nat)}{r:Option (Nat×AV)}(hx:dP env x=some (.mp id))(hkey:dP env key=some kv)(hfit:q.den kv kv=some true)(hs:seen c.cd id=true)(hg:h.get id=some (.map es clock))(hf:fJ q.den kv es 0=some r)
    (hk:K (Ml ok z r) h):WO P X M c (.lookup q z x key ok) env h K:=
 bd (fun sl hh call k=>by
  simp only[SO.den,pT,hh.ev hx,hh.ev hkey,z6,hfit,bW hs,hg,hf]
  cases r with
  |none=>simp only[wv,Ml]
  |some p=>obtain⟨i,v⟩:=p;simp only[wv,Ml]) hk
theorem GO {R:Type}(v:AV): ∀(i:Nat) (es:List (AV×AV×Nat)) (k:List (AV×AV×Nat)->Option R) (hi:i<es.length),HT v i es k=k (es.set i (es[i].1,v,es[i].2.2))
 |_,[],_,hi=>by simp at hi
 |0,e::es,k,_=>by simp[HT]
 |i+1,e::es,k,hi=>by
  simp only[HT,List.set_cons_succ,List.getElem_cons_succ]
  exact GO v i es _ (by simpa using hi)
theorem AF {q:SQ}{m key v:XV}{kv u u0:AV}{id clock i:Nat}{es:List (AV×AV×Nat)}(hm:dP env m=some (.mp id))(hkey:dP env key=some kv)(hv:dP env v=some u)(hfit:q.den kv kv=some true)(hfl:c.floor<=id)(hs:seen c.cd id=true)(hg:h.get id=some (.map es clock))(hf:fJ q.den kv es 0=some (some (i,u0)))(hi:i<es.length)
    (hk:K (.bn []) (h.put id (.map (es.set i (es[i].1,u,es[i].2.2)) clock))):WO P X M c (.fe q m key v) env h K:=
 bd (fun sl hh call k=>by
  simp only[SO.den,rv,hh.ev hm,hh.ev hkey,hh.ev hv,z6,hfit,bW hs,hg,hf]
  rw[GO _ _ _ _ hi,kK hfl hs]) hk
theorem qk {q:SQ}{m key v:XV}{kv u:AV}{id clock:Nat}{es:List (AV×AV×Nat)}(hm:dP env m=some (.mp id))(hkey:dP env key=some kv)(hv:dP env v=some u)(hfit:q.den kv kv=some true)(hfl:c.floor<=id)(hs:seen c.cd id=true)(hg:h.get id=some (.map es clock))(hf:fJ q.den kv es 0=some none)
    (hk:K (.bn []) (h.put id (.map (es++[(kv,u,clock)]) (clock+1)))):WO P X M c (.fe q m key v) env h K:=
 bd (fun sl hh call k=>by
  simp only[SO.den,rv,hh.ev hm,hh.ev hkey,hh.ev hv,z6,hfit,bW hs,hg,hf,ep,aZ]
  rw[kK hfl hs]) hk
/-! appending -/
theorem AE {esz id off n es:Nat}{cap:Option Nat}{vs us:List AV}{k:Nat->List AV->Out}(hs:seen c.cd id=true)(hg:h.get id=some (.cells vs))(he:es=esz)(hl:off+n*esz<=vs.length)(hu:(vs.drop off).take (n*esz)=us):xA c h esz (.sl id off n es cap) k=k n us:=by
 have hb:Nat.beq es esz=true:=by simp[he]
 simp only[xA,hb,cond,dB,bW hs,hg]
 rw[gM _ _ _ (by omega)]
 show fI (n*esz) _ _=_
 rw[gN _ _ _ (by simp;omega),hu]
/-! calls -/
theorem Aw {f:XV}{args:List XV}{g:Nat}{caps vs:List AV}(hf:dP env f=some (.fn g caps))(ha:Fe env args=some vs)(hk:Gv P X M c g (vs++caps) h K):WO P X M c (.call f args) env h K:= .mk fun sl hs=>by
 obtain⟨v,h',⟨N,hN⟩,hk⟩:=hk
 refine⟨v,h',⟨N,fun n hn k=>?_⟩,hk⟩
 simp only[SO.den,Cr,hs.ev hf,kD,hs.LU ha,ep]
 have e:eC (ev (cC P) (bJ P X) M n) (.fn g) (vs++caps) c h=some (v,h'):=by unfold eC;rw[hN n hn]
 rw[e]
end
section
variable {P:Program}{X:cj}{M:Mf}{c:C}{nt:Nat}{env:bo}{h:H}{Q:bo->H->Prop}{d p:Nat}{op:SO}{m b:Bool}{f:Option XV}{ops:List SR}
/-! in the text's order -/
theorem Rw {g:Nat×Bool}(hnt:nt<=1000000)(hg:cS env (some g)=some false)(hd:Nat.blt d nt=true)(w:WG P X M c nt ops ((d,.bn [])::env) h Q):WG P X M c nt (⟨some d,op,some g,p,m,b,f⟩::ops) env h Q:=Mj hnt hg hd w
theorem Ou {g:Nat×Bool}(hnt:nt<=1000000)(hg:cS env (some g)=some false)(w:WG P X M c nt ops env h Q):WG P X M c nt (⟨none,op,some g,p,m,b,f⟩::ops) env h Q:=Mj hnt hg rfl w
/-! in any order -/
variable {base:List (Nat×Nat)}{i:Nat}{rs:List (Nat×Nat×Nat)}{bs:List (Nat×Tr AB×Tr AB)}{fs:List (Nat×Nat)}
theorem GD {g:Option (Nat×Bool)}(hnt:nt<=1000000)(hg:cS env g=some true)(hd:Nat.blt d nt=true)(w:WO P X M ⟨h.n,[(h.n,gQ)]⟩ op env h (fun v h'=>WD P X M c nt base ops (i+1) (eF i h.n h'.n rs) bs fs ((d,v)::env) h' Q)):WD P X M c nt base (⟨some d,op,g,p,false,b,none⟩::ops) i rs bs fs env h Q:=ON hnt hg hd rfl rfl w
theorem RL {g:Nat×Bool}(hnt:nt<=1000000)(hg:cS env (some g)=some false)(hd:Nat.blt d nt=true)(w:WD P X M c nt base ops (i+1) rs bs fs ((d,.bn [])::env) h Q):WD P X M c nt base (⟨some d,op,some g,p,m,b,f⟩::ops) i rs bs fs env h Q:=RS hnt hg hd w
theorem Av {g:Option (Nat×Bool)}{x:XV}{a:AV}{A:Nat}(hnt:nt<=1000000)(hg:cS env g=some true)(hd:Nat.blt d nt=true)(ha:dP env x=some a)(hA:z8 a=some A)(hsee:seen ((h.n,gQ)::cI p base rs) A=true)(hun:jZ p A bs=true)
    (w:WO P X M ⟨h.n,[(h.n,gQ),(A,Nat.succ A)]⟩ op env h (fun v h'=>WD P X M c nt base ops (i+1) (eF i h.n h'.n rs) bs ((i,A)::fs) ((d,v)::env) h' Q)):WD P X M c nt base (⟨some d,op,g,p,m,b,some x⟩::ops) i rs bs fs env h Q:=OO hnt hg hd rfl ha hA hsee hun w
theorem Fc {g:Option (Nat×Bool)}(hnt:nt<=1000000)(hg:cS env g=some true)(hd:Nat.blt d nt=true)(w:WO P X M ⟨h.n,(h.n,gQ)::cI p base rs⟩ op env h (fun v h'=>WD P X M c nt base ops (i+1) (eF i h.n h'.n rs) bs fs ((d,v)::env) h' Q)):WD P X M c nt base (⟨some d,op,g,p,true,false,none⟩::ops) i rs bs fs env h Q:=RT hnt hg hd rfl rfl rfl w
theorem Ax {g:Option (Nat×Bool)}(hnt:nt<=1000000)(hg:cS env g=some true)(hd:Nat.blt d nt=true)(w:WO P X M ⟨c.floor,(h.n,gQ)::cI p base rs⟩ op env h (fun v h'=>iQ p h.t h'.t fs=true/\WD P X M c nt base ops (i+1) (eF i h.n h'.n rs) ((i,h.t,h'.t)::bs) fs ((d,v)::env) h' Q)):WD P X M c nt base (⟨some d,op,g,p,true,true,none⟩::ops) i rs bs fs env h Q:=Mk hnt hg hd rfl rfl rfl w
theorem OH {g:Option (Nat×Bool)}(hnt:nt<=1000000)(hg:cS env g=some true)(w:WO P X M ⟨c.floor,(h.n,gQ)::cI p base rs⟩ op env h (fun v h'=>iQ p h.t h'.t fs=true/\WD P X M c nt base ops (i+1) (eF i h.n h'.n rs) ((i,h.t,h'.t)::bs) fs env h' Q)):WD P X M c nt base (⟨none,op,g,p,true,true,none⟩::ops) i rs bs fs env h Q:=Mk hnt hg rfl rfl rfl rfl w
end
/-! what is seen -/
theorem fq {r:Nat×Nat}{l:List (Nat×Nat)}{id:Nat}(h:id<r.1)(hs:seen l id=true):seen (r::l) id=true:=by
 simp only[seen]
 have:Nat.ble r.1 id=false:=by
  cases hb:Nat.ble r.1 id with
  |false=>rfl
  |true=>have:=Nat.le_of_ble_eq_true hb;omega
 rw[this];exact hs
theorem mJ {a e:Nat}{l:List (Nat×Nat)}{id:Nat}(h1:a<=id)(h2:id<e):seen ((a,e)::l) id=true:=by
 simp only[seen,Nat.ble_eq_true_of_le h1,cond]
 exact CJ (Or.inr h2)
theorem qo {n id:Nat}: ∀{l:List (Nat×Nat)},seen l id=true->id<n->seen (bw n l) id=true
 |[],h,_=>by cases h
 |r::rs,h,hn=>by
  simp only[seen]at h
  unfold bw
  cases hb:Nat.ble n r.1 with
  |true=>
   have h1:=Nat.le_of_ble_eq_true hb
   have:Nat.ble r.1 id=false:=by
    cases hx:Nat.ble r.1 id with
    |false=>rfl
    |true=>have:=Nat.le_of_ble_eq_true hx;omega
   rw[this]at h
   exact qo h hn
  |false=>
   simp only[cond]
   cases hc:(Nat.ble r.2 n&&Nat.blt 0 r.2)with
   |true=>
    simp only[seen]
    cases hd:Nat.ble r.1 id with
    |true=>rw[hd]at h;exact h
    |false=>rw[hd]at h;exact qo h hn
   |false=>
    simp only[seen]
    cases hd:Nat.ble r.1 id with
    |true=>simp only[cond];exact CJ (Or.inr hn)
    |false=>rw[hd]at h;exact qo h hn
theorem Dh {bl n0 id:Nat}{base:List (Nat×Nat)}: ∀{rs:List (Nat×Nat×Nat)},(∀r∈rs,n0<=r.2.1)->id<n0->seen base id=true->seen (cI bl base rs) id=true
 |[],_,_,h=>h
 |r::rs,hr,hid,h=>by
  have ih:=Dh (bl:=bl) (rs:=rs) (fun q hq=>hr q (List.mem_cons_of_mem _ hq)) hid h
  unfold cI
  cases(Nat.testBit bl r.1&&Nat.blt 0 r.2.2)with
  |false=>exact ih
  |true=>exact fq (by have:=hr r (by simp);simp;omega) ih
/-! a block that did not change -/
theorem I4 (a:Option Nat):HQ a a=true:=by cases a<;>simp[HQ]
theorem Mn (a:List Nat):GU a a=true:=by rw[kC];simp
theorem Mo (a:Int):Jg a a=true:=by rw[rJ];simp
mutual
theorem r6: ∀x:AV,cZ x x=true
 | .bool b=>by simp[cZ]
 | .int k n=>by simp[cZ,ct,Mo]
 | .str s=>by simp[cZ,Mn]
 | .eG=>by simp[cZ]
 | .ptr a b=>by simp[cZ]
 | .aE=>by simp[cZ]
 | .sl a b c d e=>by simp[cZ,I4]
 | .dt=>by simp[cZ]
 | .mp a=>by simp[cZ]
 | .jb=>by simp[cZ]
 | .fn f cs=>by simp[cZ,eZ cs]
 | .sT=>by simp[cZ]
 | .Dn a=>by simp[cZ]
 | .iface t v=>by simp[cZ,r6 v]
 | .agg cs=>by simp[cZ,eZ cs]
 | .bn cs=>by simp[cZ,eZ cs]
 | .raw oa n cp=>by simp[cZ]
 | .Nc f t v=>by simp[cZ,eZ t,eZ v]
 | .var a=>by simp[cZ]
 | .top=>by simp[cZ]
theorem eZ: ∀xs:List AV,iP xs xs=true
 |[]=>by simp[iP]
 |x::xs=>by simp[iP,r6 x,eZ xs]
end
structure Cx (c:C)(h:H):Prop where
 low:c.floor<=h.n
 cd: ∀id,h.n<=id->seen c.cd id=true
theorem Cx.mono {c:C}{h h':H}(x:Cx c h)(hle:h.n<=h'.n):Cx c h':=⟨Nat.le_trans x.low hle,fun id h1=>x.cd id (Nat.le_trans hle h1)⟩
theorem Cx.mem {h:H}{l:List (Nat×Nat)}{fl:Nat}(hf:fl<=h.n):Cx ⟨fl,(h.n,gQ)::l⟩ h:=⟨hf,fun id h1=>eg h1⟩
theorem Cx.new {c:C}{h:H}(x:Cx c h){id:Nat}(h1:h.n<=id)(h2:id<id+1):seen c.cd id=true:=x.cd id h1
section
variable {P:Program}{X:cj}{M:Mf}{c:C}{nt:Nat}{env:bo}{h:H}{d p:Nat}{op:SO}{m b:Bool}{f:Option XV}{ops:List SR}
theorem TB {Q:bo->H->Prop}{g:Option (Nat×Bool)}(hnt:nt<=1000000)(hg:cS env g=some true)(hd:Nat.blt d nt=true)(w:WO P X M c op env h (fun v h'=>WG P X M c nt ops ((d,v)::env) h' Q)):WG P X M c nt (⟨some d,op,g,p,m,b,f⟩::ops) env h Q:=Pv hnt hg hd w
theorem Ru {Q:bo->H->Prop}{g:Option (Nat×Bool)}(hnt:nt<=1000000)(hg:cS env g=some true)(w:WO P X M c op env h (fun v h'=>WG P X M c nt ops env h' Q)):WG P X M c nt (⟨none,op,g,p,m,b,f⟩::ops) env h Q:=Pv hnt hg rfl w
theorem Va {v:XV}{a b:SC}{Q:Ex->bo->H->Prop}(hv:dP env v=some (.bool true))(w:WC P X M c nt a env h Q):WC P X M c nt (.cond v a b) env h Q:=GK hv (fun _=>w) (fun q=>by cases q)
theorem Vc {v:XV}{a b:SC}{Q:Ex->bo->H->Prop}(hv:dP env v=some (.bool false))(w:WC P X M c nt b env h Q):WC P X M c nt (.cond v a b) env h Q:=GK hv (fun q=>by cases q) (fun _=>w)
end
end
section
open Go Go.RowKit
variable {dr:Prop}
section
variable {P:Program}{X:cj}{M:Mf}
theorem LF (hmx:P.follows .mixedOrders=true)(hNG: ∀(f:Nat) (fn:Func),P.funcs[f]? =some fn->(fn.name== "runtime.NumGoroutine")=false)(hX:yg P X)(hM:da dr P P.globals.size M){f:Nat}{args:List AV}{v:AV}{h0 h':H}
    (hg:Gm P X M (top h0.n) (.Jc f) args h0 v h') (hwf:WF h0) {β:bS} {w:World} (hgb:GB P.globals.size β) (hr:HR h0.n β (view (top h0.n) h0) w) (hdom: ∀id,h0.n<=id->β id=none) {cargs:List Value} (hv:bh β args cargs):
    Calls P f cargs.toArray w fun e w'=> ∃β' val,e= .returned val/\VR β' v val/\Sub β β'/\Below w.heap.size w w'/\(dr->w.drawn<=w'.drawn):=by
 obtain⟨N,hN⟩:=hg
 exact Lt hmx hNG hX hM (hN N (Nat.le_refl _)) hwf hgb hr hdom hv
/-! a closed example,called inside a run:its answer is known -/
end
end
end Go.Proofs.YtemehfgkfidgjaaGreatDoor.Ev
