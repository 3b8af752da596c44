/- CoverStates, part 20 -/
import Derived.Test.YtemehfgkfidgjaaGreatDoorCvS
set_option linter.all false
set_option maxHeartbeats 4000000
namespace Go.Proofs.YtemehfgkfidgjaaGreatDoor.Ev
open Go
structure lF where
 name:List Nat
 wZ:List Nat
 deriving Inhabited,DecidableEq
structure bZ where
 name:List Nat
 static:Bool
 params:List (List Nat)
 result:List Nat
 deriving Inhabited,DecidableEq
structure aN where
 name:List Nat
 dy:List Nat
 fields:List lF
 methods:List bZ
 deriving Inhabited
structure bF where
 op:Int
 dst:Int
 a:Int
 b:Int
 n:Int
 cls:List Nat
 name:List Nat
 args:List Int
 goto:Int
 qQ:Int
 deriving Inhabited
structure bU where
 cls:List Nat
 name:List Nat
 static:Bool
 params:Int
 vars:List lF
 result:List Nat
 code:List bF
 deriving Inhabited
structure aF where
 cl:List aN
 fns:List bU
 main:Int
 deriving Inhabited
def s8 (x:lF):List PV:=[.str x.name,.str x.wZ]
def cb (x:bZ):List PV:=[.str x.name,.bool x.static,pL 1 pS x.params,.str x.result]
def gS (x:aN):List PV:=[.str x.name,.str x.dy,pL 2 s8 x.fields,pL 4 cb x.methods]
def dh (x:bF):List PV:=[.int .i64 x.op,.int .i64 x.dst,.int .i64 x.a,.int .i64 x.b,.int .i64 x.n,.str x.cls,.str x.name,pL 1 pI x.args,.int .i64 x.goto,.int .i64 x.qQ]
def eN (x:bU):List PV:=[.str x.cls,.str x.name,.bool x.static,.int .i64 x.params,pL 2 s8 x.vars,.str x.result,pL 10 dh x.code]
def aY (l:List aN):List PV:=[pL 4 gS l]
def bK (u:aF):List PV:=[pL 4 gS u.cl,pL 7 eN u.fns,.int .i64 u.main]
def aO:List (List Nat)->List Nat->Int
 |[],_=> -1
 |x::l,s=>if x=s then 0 else if aO l s<0 then -1 else aO l s+1
theorem dx: ∀(l:List (List Nat)) (s:List Nat),(aO l s= -1/\ ∀i,i<l.length->el l i≠s)\/(∃j:Nat,aO l s=(j:Int)/\j<l.length/\el l j=s/\ ∀i,i<j->el l i≠s)
 |[],s=>Or.inl ⟨rfl,fun i hi=>absurd hi (by simp)⟩
 |x::l,s=>by
  by_cases hx:x=s
  ·exact Or.inr ⟨0,by simp[aO,hx],by simp,by simpa[el]using hx,gY⟩
  ·rcases dx l s with⟨h1,h2⟩|⟨j,h1,h2,h3,h4⟩
   ·refine Or.inl ⟨by simp[aO,hx,h1],fun i hi=>?_⟩
    cases i with
    |zero=>simpa[el]using hx
    |succ i=>simpa[el]using h2 i (by simpa using hi)
   ·refine Or.inr ⟨j+1,?_,by simpa using h2,by simpa[el]using h3,fun i hi=>?_⟩
    ·have: ¬(j:Int)<0:=by omega
     simp only[aO,if_neg hx,h1,if_neg this]
     omega
    ·cases i with
     |zero=>simpa[el]using hx
     |succ i=>simpa[el]using h4 i om
theorem lG {l:List (List Nat)}{s:List Nat}{j:Nat}(hj:j<l.length)(he:el l j=s)(hb: ∀i,i<j->el l i≠s):aO l s=(j:Int):=by
 rcases dx l s with⟨_,h2⟩|⟨i,h1,h2,h3,h4⟩
 ·exact absurd he (h2 j hj)
 ·rcases Nat.lt_trichotomy i j with q|q|q
  ·exact absurd h3 (hb i q)
  ·rw[h1,q]
  ·exact absurd he (h4 j q)
theorem o0 {l:List (List Nat)}{s:List Nat}(hb: ∀i,i<l.length->el l i≠s):aO l s= -1:=by
 rcases dx l s with⟨h1,_⟩|⟨i,h1,h2,h3,h4⟩
 ·exact h1
 ·exact absurd h3 (hb i h2)
theorem dC {l:List (List Nat)}{s:List Nat}:aO l s<l.length/\ -1<=aO l s:=by
 rcases dx l s with⟨h1,_⟩|⟨i,h1,h2,_,_⟩<;>omega
theorem aS {l:List (List Nat)}{s:List Nat}:0<=aO l s↔s∈l:=by
 rcases dx l s with⟨h1,h2⟩|⟨i,h1,h2,h3,_⟩
 ·refine⟨fun q=>by omega,fun q=>?_⟩
  obtain⟨i,hi,e⟩:=List.mem_iff_getElem.1 q
  exact absurd (by simpa[el,hi]using e) (h2 i hi)
 ·exact⟨fun _=>h3▸ba h2,fun _=>by omega⟩
theorem jI {l:List (List Nat)}{s:List Nat}(h:0<=aO l s):(aO l s).toNat<l.length/\el l (aO l s).toNat=s:=by
 rcases dx l s with⟨h1,_⟩|⟨i,h1,h2,h3,_⟩
 ·omega
 ·rw[h1];exact⟨h2,h3⟩
def bH (cl:List aN):List (List Nat):=cl.map aN.name
theorem D3 {cl:List aN}{i:Nat}(h:i<cl.length):el (bH cl) i=(el cl i).name:=cW h
theorem cn {cl:List aN}:(bH cl).length=cl.length:=by simp[bH]
theorem dY {cl:List aN}{s:List Nat}{K:PV->Prop}(k:K (.int .i64 (aO (bH cl) s))):PF Tryz.prog X0 Mx 64 [.agg (aY cl),.str s] K:=by
 refine Pf D5 fun hnt=>?_
 repeat'(first|refine Qb ?_|(refine ak ?_;intro hl)|(refine ai ?_;intro b)|(refine Ba ?_ ?_<;>intro hc<;>try exact Zb)|refine pb ?_)
 refine aD (ι:=Nat) (fun j=>[(1,.str s),(2,.ptr 2 b 0),(5,.int .i64 j)]) (fun _=>[(2,some b,.cells (aY cl))]) (fun j=>j<=cl.length/\ ∀i,i<j->el (bH cl) i≠s) (fun j=>cl.length-j) 0 ⟨Nat.zero_le _,gY⟩ .su .su ?_
 rintro j ⟨hj,hb⟩
 repeat'(first|refine Qb ?_|(refine ak ?_;intro hl)|(refine ai ?_;intro b)|(refine Ba ?_ ?_<;>intro hc<;>try exact Zb)|refine pb ?_)
 ·refine E1 ?_;rwa [lG (j:=j) (by rw[cn];omega) ((D3 (by omega)).trans hc) hb]at k
 ·refine⟨j+1,by dsimp only;omega,⟨om,fun i hi=>?_⟩,.su,.su⟩
  by_cases q:i=j
  ·subst q;rw[D3 (by omega)];exact hc
  ·exact hb i om
 ·refine E1 ?_;rwa [o0 fun i hi=>hb i (by rw[cn]at hi;omega)]at k
theorem BK {l:List (List Nat)}{s:List Nat}{K:PV->Prop}(kt:s∈l->K (.bool true))(kf: ¬s∈l->K (.bool false)):PF Tryz.prog X0 Mx 245 [pL 1 pS l,.str s] K:=by
 refine Pf JV fun hnt=>?_
 repeat'(first|refine Qa ?_|(refine Ba ?_ ?_<;>try exact Za)|intro hc)
 refine aD (ι:=Nat) (fun j=>[(0,pL 1 pS l),(1,.str s),(5,.int .i64 j)]) (fun _=>[]) (fun j=>j<=l.length/\ ∀i,i<j->el l i≠s) (fun j=>l.length-j) 0 ⟨Nat.zero_le _,gY⟩ .su (.nil) ?_
 rintro j ⟨hj,hb⟩
 repeat'(first|refine Qa ?_|(refine Ba ?_ ?_<;>try exact Za)|intro hc)
 ·exact E1 (kt (by rw[<-hc];exact ba om))
 ·refine⟨j+1,by dsimp only;omega,⟨om,fun i hi=>?_⟩,.su,(.nil)⟩
  by_cases q:i=j
  ·subst q;exact hc
  ·exact hb i om
 ·exact E1 (kf fun q=>by obtain⟨i,hi,e⟩:=List.mem_iff_getElem.1 q;exact hb i om (by simpa[el,hi]using e))
theorem gE {cl:List aN}{s:List Nat}{K:PV->Prop}(kt:s∈bH cl->K (.bool true))(kf: ¬s∈bH cl->K (.bool false)):PF Tryz.prog X0 Mx 274 [.agg (aY cl),.str s] K:=by
 refine Pf w8 fun hnt=>?_
 repeat'(first|refine Qa ?_|(refine Ba ?_ ?_<;>try exact Za)|refine ae (aa (dY ?_))|intro hc)
 ·exact E1 (kt (aS.1 hc))
 ·exact E1 (kf fun q=>hc (aS.2 q))
def iq:List Nat:=[105,110,116]
theorem iH {cl:List aN}{s:List Nat}{K:PV->Prop}(kt:s=iq\/s∈bH cl->K (.bool true))(kf: ¬(s=iq\/s∈bH cl)->K (.bool false)):PF Tryz.prog X0 Mx 236 [.agg (aY cl),.str s] K:=by
 refine Pf D6 fun hnt=>?_
 repeat'(first|refine Qa ?_|(refine Ba ?_ ?_<;>try exact Za)|refine ae (aa (dY ?_))|intro hc)
 ·exact E1 (kt (Or.inl hc))
 ·exact E1 (kt (Or.inr (aS.1 am)))
 ·exact E1 (kf fun q=>q.elim am fun q=>(by have:=aS.2 q;contradiction))
def gr (cl:List aN)(s:List Nat):List Nat:=(el cl (aO (bH cl) s).toNat).dy
def bX (cl:List aN):Nat->List (List Nat)->List Nat->List (List Nat)×Bool
 |0,out,_=>(out,false)
 |n+1,out,s=>if aO (bH cl) s<0 then(out,false)else if s∈out then(out,true)else if gr cl s=[]then(out++[s],false)else bX cl n (out++[s]) (gr cl s)
def cw (cl:List aN)(s:List Nat):List (List Nat)×Bool:=bX cl (cl.length+1) [] s
def aB (cl:List aN)(s:List Nat):List (List Nat):=(cw cl s).1
def lH (ns out:List (List Nat)):Nat:=ns.countP fun x=>decide (¬x∈out)
theorem tK {ns out:List (List Nat)}:lH ns out<=ns.length:=List.countP_le_length
theorem o6: ∀{ns out:List (List Nat)} {s:List Nat},s∈ns-> ¬s∈out->lH ns (out++[s])<lH ns out
 |x::ns,out,s,hs,ho=>by
  have mono: ∀l:List (List Nat),lH l (out++[s])<=lH l out:=fun l=>List.countP_mono_left fun y _ hy=>by
   simp only[decide_eq_true_eq]at hy⊢
   exact fun q=>hy (by simp[q])
  by_cases e:x=s
  ·subst e
   have h1:lH (x::ns) (out++[x])=lH ns (out++[x]):=by unfold lH;rw[List.countP_cons];simp
   have h2:lH (x::ns) out=lH ns out+1:=by unfold lH;rw[List.countP_cons];simp[ho]
   have:=mono ns
   omega
  ·have hs':s∈ns:=by
     rcases List.mem_cons.1 hs with q|q
     ·exact absurd q.symm e
     ·exact q
   have ih:=o6 (ns:=ns) hs' ho
   unfold lH at ih⊢
   rw[List.countP_cons,List.countP_cons]
   by_cases q:x∈out
   ·simp only[List.mem_append,q,true_or,not_true_eq_false,decide_false]
    simpa using ih
   ·have: ¬x∈out++[s]:=by simp[q,e]
    simp only[this,q,not_false_eq_true,decide_true,if_true]
    omega
structure VN where
 m:Nat
 out:List (List Nat)
 s:List Nat
 aT:Option Nat
theorem sk {cl:List aN}{s:List Nat}{K:PV->Prop}(cg:cl.length<=64)(k:K (.bn [pL 1 pS (cw cl s).1,.bool (cw cl s).2])):PF Tryz.prog X0 Mx 171 [.agg (aY cl),.str s] K:=by
 refine Pf BL fun hnt=>?_
 repeat'(first|refine Qb ?_|(refine ai ?_;intro b)|(refine Ba ?_ ?_<;>intro hc<;>try exact Zb)|refine ae (aa (dY ?_))|refine pb ?_)
 refine aD (ι:=VN) (fun q=>[(1,.str q.s),(2,.ptr 2 b 0),(6,oL 23 q.aT 1 q.out),(7,.int .i64 (aO (bH cl) q.s))]) (fun q=>[(2,some b,.cells (aY cl)),(23,q.aT,aL 1 pS q.out)]) (fun q=>cw cl s=bX cl q.m q.out q.s/\lH (bH cl) q.out<q.m/\q.out.length+lH (bH cl) q.out<=cl.length) (fun q=>q.m) ⟨cl.length+1,[],s,none⟩ ⟨rfl,by have:=tK (ns:=bH cl) (out:=[]);rw[cn]at this;dsimp only;omega,by have:=tK (ns:=bH cl) (out:=[]);rw[cn]at this;simpa using this⟩ (.c (.c (.cons rfl (.kR 23 1) (.c .nil)))) (.c (.kR .nil)) ?_
 rintro⟨m,out,s',aT⟩ ⟨hE,hm,hn⟩
 dsimp only at hE hm hn⊢
 obtain⟨m,rfl⟩: ∃n,m=n+1:=⟨m-1,om⟩
 simp only[bX]at hE
 have hl:=dC (l:=bH cl) (s:=s')
 rw[cn]at hl
 repeat'(first|refine Qb ?_|(refine ai ?_;intro b)|(refine Ba ?_ ?_<;>intro hc<;>try exact Zb)|refine dJ (BK (fun hin=>⟨rfl,?_⟩) fun hin=>⟨rfl,?_⟩)|(refine bb ?_;intro b2)|(refine bV s' ?_;intro oid2)|refine ae (aa (dY ?_))|refine pb ?_)
 ·rw[if_neg (by omega),if_pos hin]at hE;rw[hE]at k
  exact⟨Or.inr rfl,⟨trivial,⟨trivial,trivial⟩⟩,_,_,rfl,.bn _ _ (.cons _ _ _ _ cE (.cons _ _ _ _ (.refl _) .nil)),k⟩
 ·rw[if_neg (by omega),if_neg hin,if_pos (show gr cl s'=[]from hc)]at hE;rw[hE]at k
  exact⟨Or.inr rfl,⟨trivial,⟨trivial,trivial⟩⟩,_,_,rfl,.bn _ _ (.cons _ _ _ _ cE (.cons _ _ _ _ (.refl _) .nil)),k⟩
 ·rw[if_neg (by omega),if_neg hin,if_neg (show ¬gr cl s'=[]from hc)]at hE
  have:=o6 (aS.1 am) hin
  refine⟨⟨m,out++[s'],gr cl s',oid2⟩,Nat.lt_succ_self _,⟨hE,by dsimp only;omega,by simp only[List.length_append,List.length_singleton];omega⟩,.su,.su⟩
 ·rw[if_pos (by omega)]at hE;rw[hE]at k
  exact⟨Or.inr rfl,⟨trivial,⟨trivial,trivial⟩⟩,_,_,rfl,.bn _ _ (.cons _ _ _ _ cE (.cons _ _ _ _ (.refl _) .nil)),k⟩
theorem ir {cl:List aN}{s:List Nat}{K:PV->Prop}(cg:cl.length<=64)(k:K (pL 1 pS (aB cl s))):PF Tryz.prog X0 Mx 110 [.agg (aY cl),.str s] K:=by
 refine Pf zo fun hnt=>?_
 repeat'(first|refine Qa ?_|refine ae (aa (sk cg ?_))|intro hc)
 exact E1 k
theorem BM {cl:List aN}{s t:List Nat}{K:PV->Prop}(cg:cl.length<=64)(kt:t∈aB cl s->K (.bool true))(kf: ¬t∈aB cl s->K (.bool false)):PF Tryz.prog X0 Mx 298 [.agg (aY cl),.str s,.str t] K:=by
 refine Pf BN fun hnt=>?_
 repeat'(first|refine Qa ?_|refine ae (aa (ir cg ?_))|refine ae (aa (BK (fun hin=>?_) fun hin=>?_))|intro hc)
 ·exact E1 (kt hin)
 ·exact E1 (kf hin)
theorem M3 {S:aJ}{α:Type} [Inhabited α] {e n k:Nat}{f:α->List PV}{l:List α}(hn:n=l.length-k):Zf S (.tr e n fun i=>f (el l (i+k))) (pL e f (l.drop k)):=by
 subst hn
 unfold pL
 rw[List.length_drop]
 exact .tr _ _ _ _ fun i hi=>dH.of_eq (by rw[M4,Nat.add_comm])
theorem JW {cl:List aN}{s:List Nat}{K:PV->Prop}(cg:cl.length<=64)(k:K (pL 1 pS ((aB cl s).drop 1))):PF Tryz.prog X0 Mx 312 [.agg (aY cl),.str s] K:=by
 refine Pf JX fun hnt=>?_
 repeat'(first|refine Qa ?_|(refine Ba ?_ ?_<;>try exact Za)|refine ae (aa (ir cg ?_))|refine jM ?_|intro hc)
 ·have e:aB cl s=[]:=List.length_eq_zero_iff.1 om
  rw[e]at k
  exact⟨Or.inr rfl,⟨trivial,trivial⟩,_,_,rfl,(.aE 1 _),k⟩
 ·exact⟨Or.inr rfl,⟨trivial,trivial⟩,_,_,rfl,(M3 (k:=1) om),k⟩
def bt (cl:List aN)(s:List Nat):aN:=el cl (aO (bH cl) s).toNat
theorem uL {cl:List aN}: ∀(n:Nat) (out:List (List Nat)) (s:List Nat),(∀c∈out,c∈bH cl)-> ∀c∈(bX cl n out s).1,c∈bH cl
 |0,out,s,h=>h
 |n+1,out,s,h=>by
  unfold bX
  by_cases h1:aO (bH cl) s<0
  ·rw[if_pos h1];exact h
  have h': ∀c∈out++[s],c∈bH cl:=fun c hc=>by
   rcases List.mem_append.1 hc with q|q
   ·exact h c q
   ·rw[List.mem_singleton.1 q];exact aS.1 om
  rw[if_neg h1]
  by_cases h2:s∈out
  ·rw[if_pos h2];exact h
  rw[if_neg h2]
  by_cases h3:gr cl s=[]
  ·rw[if_pos h3];exact h'
  ·rw[if_neg h3];exact uL n _ _ h'
theorem dZ {cl:List aN}{s c:List Nat}(h:c∈aB cl s):c∈bH cl:=uL _ _ _ (fun c q=>absurd q (by simp)) c h
theorem lA {α β:Type} [Inhabited α] {g:α->Option β}{y:β}: ∀{l:List α} {j:Nat},j<l.length->g (el l j)=some y->(∀i,i<j->g (el l i)=none)->l.findSome? g=some y
 |[],j,h,_,_=>absurd h (by simp)
 |x::l,0,_,h,_=>by
  have h':g x=some y:=h
  simp[List.findSome?,h']
 |x::l,j+1,h,h1,h2=>by
  have h':g x=none:=h2 0 om
  simp only[List.findSome?,h']
  exact lA (by simpa using h) h1 fun i hi=>h2 (i+1) om
theorem lB {α β:Type} [Inhabited α] {g:α->Option β}: ∀{l:List α},(∀i,i<l.length->g (el l i)=none)->l.findSome? g=none
 |[],_=>rfl
 |x::l,h=>by
  have h':g x=none:=h 0 (by simp)
  simp only[List.findSome?,h']
  exact lB fun i hi=>h (i+1) (by simpa using hi)
def sm (x:aN)(name:List Nat):Option lF:=x.fields.findSome? fun f=>if f.name=name then some f else none
def fA (x:aN)(name:List Nat):Option bZ:=x.methods.findSome? fun f=>if f.name=name then some f else none
def fF (cl:List aN)(s name:List Nat):Option (List Nat×lF):=(aB cl s).findSome? fun c=>(sm (bt cl c) name).map fun f=>(c,f)
def bE (cl:List aN)(s name:List Nat):Option (List Nat×bZ):=(aB cl s).findSome? fun c=>(fA (bt cl c) name).map fun f=>(c,f)
theorem sq {cl:List aN}{s nm:List Nat}{K:PV->Prop}(cg:cl.length<=64)(k1: ∀c f,fF cl s nm=some (c,f)->K (.bn [.str c,.str f.wZ,.bool true]))(k0:fF cl s nm=none->K (.bn [.str [],.str [],.bool false])):PF Tryz.prog X0 Mx 295 [.agg (aY cl),.str s,.str nm] K:=by
 refine Pf BO fun hnt=>?_
 repeat'(first|refine Qa ?_|(refine Ba ?_ ?_<;>try exact Za)|refine ae (aa (ir cg ?_))|intro hc)
 refine aD (fun i:Nat=>[(2,.str nm),(3,.ptr 3 _ 0),(9,pL 1 pS (aB cl s)),(10,.int .i64 i)]) (fun _=>[(3,some _,.cells (aY cl))]) (fun i=>i<=(aB cl s).length/\ ∀i',i'<i->sm (bt cl (el (aB cl s) i')) nm=none) (fun i=>(aB cl s).length-i) 0 ⟨Nat.zero_le _,gY⟩ .su .su ?_
 rintro i ⟨hi,hno⟩
 by_cases hlt:i<(aB cl s).length
 ·have hm:=aS.2 (dZ (ba hlt))
  have hl2:=dC (l:=bH cl) (s:=el (aB cl s) i)
  rw[cn]at hl2
  repeat'(first|refine Qa ?_|(refine Ba ?_ ?_<;>try exact Za)|refine ix (aR (dY ?_))|intro hc)
  refine aD (fun j:Nat=>[(2,.str nm),(3,.ptr 3 _ 0),(9,pL 1 pS (aB cl s)),(10,.int .i64 i),(11,.ptr 11 _ 0),(12,.int .i64 j)]) (fun _=>[(3,some _,.cells (aY cl)),(11,some _,.cells (gS (bt cl (el (aB cl s) i))))]) (fun j=>j<=(bt cl (el (aB cl s) i)).fields.length/\ ∀j',j'<j->(el (bt cl (el (aB cl s) i)).fields j').name≠nm) (fun j=>(bt cl (el (aB cl s) i)).fields.length-j) 0 ⟨Nat.zero_le _,gY⟩ .su .su ?_
  rintro j ⟨hj,hnj⟩
  repeat'(first|refine Qa ?_|(refine Ba ?_ ?_<;>try exact Za)|intro hc)
  ·have hf:sm (bt cl (el (aB cl s) i)) nm=some (el (bt cl (el (aB cl s) i)).fields j):=lA om (if_pos hc) fun j' hj'=>if_neg (hnj j' hj')
   have hr:fF cl s nm=some (el (aB cl s) i,el (bt cl (el (aB cl s) i)).fields j):=lA hlt (by rw[hf];rfl) fun i' hi'=>by rw[hno i' hi'];rfl
   exact E1 (k1 _ _ hr)
  ·refine⟨j+1,by dsimp only;omega,⟨om,fun j' hj'=>?_⟩,.su,.su⟩
   by_cases q:j'=j
   ·subst q;exact hc
   ·exact hnj j' om
  ·refine⟨i+1,by dsimp only;omega,⟨om,fun i' hi'=>?_⟩,.su,.su⟩
   by_cases q:i'=i
   ·subst q;exact lB fun j' hj'=>if_neg (hnj j' om)
   ·exact hno i' om
 ·repeat'(first|refine Qa ?_|(refine Ba ?_ ?_<;>try exact Za)|intro hc)
  have hr:fF cl s nm=none:=lB fun i' hi'=>by rw[hno i' (by omega)];rfl
  exact E1 (k0 hr)
theorem il {cl:List aN}{s nm:List Nat}{K:PV->Prop}(cg:cl.length<=64)(k1: ∀c f,bE cl s nm=some (c,f)->K (.bn [.str c,.agg (cb f),.bool true]))(k0:bE cl s nm=none->K (.bn [.str [],.agg (cb default),.bool false])):PF Tryz.prog X0 Mx 58 [.agg (aY cl),.str s,.str nm] K:=by
 refine Pf zq fun hnt=>?_
 repeat'(first|refine Qa ?_|(refine Ba ?_ ?_<;>try exact Za)|refine ae (aa (ir cg ?_))|intro hc)
 refine aD (fun i:Nat=>[(2,.str nm),(3,.ptr 3 _ 0),(9,pL 1 pS (aB cl s)),(10,.int .i64 i),(7,.ptr 7 _ 0)]) (fun _=>[(3,some _,.cells (aY cl)),(7,some _,.cells [.str [],.bool false,.aE,.str []])]) (fun i=>i<=(aB cl s).length/\ ∀i',i'<i->fA (bt cl (el (aB cl s) i')) nm=none) (fun i=>(aB cl s).length-i) 0 ⟨Nat.zero_le _,gY⟩ .su .su ?_
 rintro i ⟨hi,hno⟩
 by_cases hlt:i<(aB cl s).length
 ·have hm:=aS.2 (dZ (ba hlt))
  have hl2:=dC (l:=bH cl) (s:=el (aB cl s) i)
  rw[cn]at hl2
  repeat'(first|refine Qa ?_|(refine Ba ?_ ?_<;>try exact Za)|refine ix (aR (dY ?_))|intro hc)
  refine aD (fun j:Nat=>[(2,.str nm),(3,.ptr 3 _ 0),(9,pL 1 pS (aB cl s)),(10,.int .i64 i),(11,.ptr 11 _ 0),(12,.int .i64 j),(7,.ptr 7 _ 0)]) (fun _=>[(3,some _,.cells (aY cl)),(11,some _,.cells (gS (bt cl (el (aB cl s) i)))),(7,some _,.cells [.str [],.bool false,.aE,.str []])]) (fun j=>j<=(bt cl (el (aB cl s) i)).methods.length/\ ∀j',j'<j->(el (bt cl (el (aB cl s) i)).methods j').name≠nm) (fun j=>(bt cl (el (aB cl s) i)).methods.length-j) 0 ⟨Nat.zero_le _,gY⟩ .su .su ?_
  rintro j ⟨hj,hnj⟩
  repeat'(first|refine Qa ?_|(refine Ba ?_ ?_<;>try exact Za)|intro hc)
  ·have hf:fA (bt cl (el (aB cl s) i)) nm=some (el (bt cl (el (aB cl s) i)).methods j):=lA om (if_pos hc) fun j' hj'=>if_neg (hnj j' hj')
   have hr:bE cl s nm=some (el (aB cl s) i,el (bt cl (el (aB cl s) i)).methods j):=lA hlt (by rw[hf];rfl) fun i' hi'=>by rw[hno i' hi'];rfl
   exact⟨Or.inr rfl,⟨trivial,⟨rfl,⟨trivial,trivial⟩⟩⟩,_,_,rfl,(.refl _),k1 _ _ hr⟩
  ·refine⟨j+1,by dsimp only;omega,⟨om,fun j' hj'=>?_⟩,.su,.su⟩
   by_cases q:j'=j
   ·subst q;exact hc
   ·exact hnj j' om
  ·refine⟨i+1,by dsimp only;omega,⟨om,fun i' hi'=>?_⟩,.su,.su⟩
   by_cases q:i'=i
   ·subst q;exact lB fun j' hj'=>if_neg (hnj j' om)
   ·exact hno i' om
 ·repeat'(first|refine Qa ?_|(refine Ba ?_ ?_<;>try exact Za)|intro hc)
  have hr:bE cl s nm=none:=lB fun i' hi'=>by rw[hno i' (by omega)];rfl
  exact⟨Or.inr rfl,⟨trivial,⟨rfl,⟨trivial,trivial⟩⟩⟩,_,_,rfl,.bn _ _ (.cons _ _ _ _ (.refl _) (.cons _ _ _ _ (.agg _ _ (.cons _ _ _ _ (.refl _) (.cons _ _ _ _ (.refl _) (.cons _ _ _ _ (.aE 1 _) (.cons _ _ _ _ (.refl _) .nil))))) (.cons _ _ _ _ (.refl _) .nil))),k0 hr⟩
def uM (c:Nat):Prop:=97<=c/\c<=122\/65<=c/\c<=90
def qT (c:Nat):Prop:=48<=c/\c<=57
def lI (c:Nat):Prop:=uM c\/qT c\/c=95
def du (s:List Nat):Prop:=s≠[]/\s.length<=32/\uM (s.getD 0 0)/\ ¬s∈nz/\ ∀i,i<s.length->lI (s.getD i 0)
def JY (s:List Nat):Prop:=(∀i,i<s.length->qT (s.getD i 0))/\(s.length=1\/1<s.length/\s.getD 0 0≠48)
theorem xW {l:List (List Nat)}{i:Nat}(h:i<l.length):xX 1 (l.map PV.str) i=pS (el l i):=by
 have e:(l.map PV.str).drop (i*1)=PV.str (el l i)::(l.map PV.str).drop (i+1):=by
  rw[Nat.mul_one,List.drop_eq_getElem_cons (by simpa using h)]
  simp[el,h]
 simp only[xX,e];rfl
theorem o7 {c:Nat}{K:PV->Prop}(kt:uM c->K (.bool true))(kf: ¬uM c->K (.bool false)):PF Tryz.prog X0 Mx 161 [.int .u8 (c:Int)] K:=by
 refine Pf zr fun hnt=>?_
 repeat'(first|refine Qa ?_|(refine Ba ?_ ?_<;>try exact Za)|intro hc)
 all_goals first|exact E1 (kt (by unfold uM;omega))|exact E1 (kf (by unfold uM;omega))
theorem BP {c:Nat}{K:PV->Prop}(kt:qT c->K (.bool true))(kf: ¬qT c->K (.bool false)):PF Tryz.prog X0 Mx 233 [.int .u8 (c:Int)] K:=by
 refine Pf BQ fun hnt=>?_
 repeat'(first|refine Qa ?_|(refine Ba ?_ ?_<;>try exact Za)|intro hc)
 all_goals first|exact E1 (kt (by unfold qT;omega))|exact E1 (kf (by unfold qT;omega))
theorem uN {c:Nat}{K:PV->Prop}(kt:lI c->K (.bool true))(kf: ¬lI c->K (.bool false)):PF Tryz.prog X0 Mx 163 [.int .u8 (c:Int)] K:=by
 refine Pf D7 fun hnt=>?_
 repeat'(first|refine Qa ?_|(refine Ba ?_ ?_<;>try exact Za)|(refine ae (aa (o7 (fun hc=>?_) fun hc=>?_)))|(refine ae (aa (BP (fun hc=>?_) fun hc=>?_)))|intro hc)
 all_goals first|exact E1 (kt (by unfold lI;first|exact Or.inl am|exact Or.inr (Or.inl am)|exact Or.inr (Or.inr om)))|exact E1 (kf (fun q=>by rcases q with q|q|q<;>first|contradiction|omega))
theorem o8 {c:Nat}{K:PV->Prop}(kt:uM c->K (.bool true))(kf: ¬uM c->K (.bool false)):PF Tryz.prog X0 Mx 82 [.int .u8 (c:Int)] K:=by
 refine Pf zt fun hnt=>?_
 repeat'(first|refine Qa ?_|(refine Ba ?_ ?_<;>try exact Za)|intro hc)
 all_goals first|exact E1 (kt (by unfold uM;omega))|exact E1 (kf (by unfold uM;omega))
theorem BS {c:Nat}{K:PV->Prop}(kt:qT c->K (.bool true))(kf: ¬qT c->K (.bool false)):PF Tryz.prog X0 Mx 128 [.int .u8 (c:Int)] K:=by
 refine Pf BT fun hnt=>?_
 repeat'(first|refine Qa ?_|(refine Ba ?_ ?_<;>try exact Za)|intro hc)
 all_goals first|exact E1 (kt (by unfold qT;omega))|exact E1 (kf (by unfold qT;omega))
theorem D8 {c:Nat}{K:PV->Prop}(kt:lI c->K (.bool true))(kf: ¬lI c->K (.bool false)):PF Tryz.prog X0 Mx 84 [.int .u8 (c:Int)] K:=by
 refine Pf D9 fun hnt=>?_
 repeat'(first|refine Qa ?_|(refine Ba ?_ ?_<;>try exact Za)|(refine ae (aa (o8 (fun hc=>?_) fun hc=>?_)))|(refine ae (aa (BS (fun hc=>?_) fun hc=>?_)))|intro hc)
 all_goals first|exact E1 (kt (by unfold lI;first|exact Or.inl am|exact Or.inr (Or.inl am)|exact Or.inr (Or.inr om)))|exact E1 (kf (fun q=>by rcases q with q|q|q<;>first|contradiction|omega))
theorem w9 {s:List Nat}{K:PV->Prop}(kt:s∈nz->K (.bool true))(kf: ¬s∈nz->K (.bool false)):PF Tryz.prog X0 Mx 162 [.str s] K:=by
 refine Pf xa fun hnt=>?_
 repeat'(first|refine Qa ?_|(refine Ba ?_ ?_<;>try exact Za)|(refine bb ?_;intro b)|intro hc)
 refine aD (fun j:Nat=>[(0,.str s),(3,oL 5 (some b) 1 nz),(4,.int .i64 j)]) (fun _=>[(5,some b,aL 1 pS nz)]) (fun j=>j<=nz.length/\ ∀i,i<j->el nz i≠s) (fun j=>nz.length-j) 0 ⟨Nat.zero_le _,gY⟩ .su (.cons rfl (.arr _ _ _ _ _ (Nat.le_refl _) fun i hi=>dH.of_eq (xW (l:=nz) hi)) .nil) ?_
 rintro j ⟨hj,hb⟩
 have hkl:nz.length=17:=rfl
 repeat'(first|refine Qa ?_|(refine Ba ?_ ?_<;>try exact Za)|(refine dW ?_;intro q hq;cases hq)|refine uO ?_|intro hc)
 ·exact E1 (kt (by rw[<-hc];exact ba om))
 ·refine⟨j+1,by dsimp only;omega,⟨om,fun i hi=>?_⟩,.su,.su⟩
  by_cases q:i=j
  ·subst q;exact hc
  ·exact hb i om
 ·exact E1 (kf fun q=>by obtain⟨i,hi,e⟩:=cm q;exact hb i om e)
theorem fb {s:List Nat}{K:PV->Prop}(kt:du s->K (.bool true))(kf: ¬du s->K (.bool false)):PF Tryz.prog X0 Mx 103 [.str s] K:=by
 refine Pf BU fun hnt=>?_
 have hpos:s≠[]->0<s.length:=List.length_pos_iff.2
 by_cases hs:s=[]
 ·repeat'(first|refine Qa ?_|(refine Ba ?_ ?_<;>try exact Za)|intro hc)
  exact E1 (kf fun q=>q.1 hs)
 have:=hpos hs
 repeat'(first|refine Qa ?_|(refine Ba ?_ ?_<;>try exact Za)|(refine ae (aa (o7 (fun hc=>?_) fun hc=>?_)))|(refine ae (aa (w9 (fun hc=>?_) fun hc=>?_)))|(refine ae (aa (uN (fun hc=>?_) fun hc=>?_)))|intro hc)
 ·exact E1 (kf fun q=>by have:=q.2.1;omega)
 ·exact E1 (kf fun q=>q.2.2.2.1 am)
 ·refine aD (ι:=Nat) (fun j=>[(0,.str s),(3,.int .i64 j)]) (fun _=>[]) (fun j=>j<=s.length/\ ∀i,i<j->lI (s.getD i 0)) (fun j=>s.length-j) 0 ⟨Nat.zero_le _,gY⟩ .su (.nil) ?_
  rintro j ⟨hj,hb⟩
  repeat'(first|refine Qa ?_|(refine Ba ?_ ?_<;>try exact Za)|(refine ae (aa (uN (fun hc=>?_) fun hc=>?_)))|intro hc)
  ·refine⟨j+1,by dsimp only;omega,⟨om,fun i hi=>?_⟩,.su,(.nil)⟩
   by_cases q:i=j
   ·subst q;exact hc
   ·exact hb i om
  ·exact E1 (kf fun q=>hc (q.2.2.2.2 j om))
  ·exact E1 (kt ⟨hs,om,am,am,fun i hi=>hb i om⟩)
 ·exact E1 (kf fun q=>(by assumption: ¬uM _) q.2.2.1)
theorem xc {s:List Nat}{K:PV->Prop}(hl:s.length<=32)(kt:JY s->K (.bool true))(kf: ¬JY s->K (.bool false)):PF Tryz.prog X0 Mx 235 [.str s] K:=by
 refine Pf xd fun hnt=>?_
 repeat'(first|refine Qa ?_|(refine Ba ?_ ?_<;>try exact Za)|intro hc)
 refine aD (ι:=Nat) (fun j=>[(0,.str s),(3,.int .i64 j)]) (fun _=>[]) (fun j=>j<=s.length/\ ∀i,i<j->qT (s.getD i 0)) (fun j=>s.length-j) 0 ⟨Nat.zero_le _,gY⟩ .su (.nil) ?_
 rintro j ⟨hj,hb⟩
 repeat'(first|refine Qa ?_|(refine Ba ?_ ?_<;>try exact Za)|intro hc)
 ·exact E1 (kf fun q=>by have:=(q.1 j om).1;omega)
 ·exact E1 (kf fun q=>by have:=(q.1 j om).2;omega)
 ·refine⟨j+1,by dsimp only;omega,⟨om,fun i hi=>?_⟩,.su,(.nil)⟩
  by_cases q:i=j
  ·subst q;exact⟨om,om⟩
  ·exact hb i om
 all_goals have hd: ∀i,i<s.length->qT (s.getD i 0):=fun i hi=>hb i om
 ·exact E1 (kt ⟨hd,Or.inl om⟩)
 ·exact E1 (kf fun q=>by rcases q.2 with q|q;omega;exact q.2 om)
 ·exact E1 (kt ⟨hd,Or.inr ⟨om,om⟩⟩)
 ·exact E1 (kf fun q=>by rcases q.2 with q|q<;>omega)
theorem zu {s:List Nat}{K:PV->Prop}(hl:s.length<=32)(kt:JY s->K (.bool true))(kf: ¬JY s->K (.bool false)):PF Tryz.prog X0 Mx 132 [.str s] K:=by
 refine Pf zw fun hnt=>?_
 by_cases hs:s=[]
 ·repeat'(first|refine Qa ?_|(refine Ba ?_ ?_<;>try exact Za)|intro hc)
  exact E1 (kf fun q=>by subst hs;rcases q.2 with q|q<;>simp at q)
 have:=List.length_pos_iff.2 hs
 repeat'(first|refine Qa ?_|(refine Ba ?_ ?_<;>try exact Za)|intro hc)
 ·exact E1 (kf fun q=>by rcases q.2 with q|q;omega;exact q.2 om)
 all_goals
  refine aD (fun j:Nat=>[(0,.str s),(17,.int .i64 (s.length:Nat)),(18,.int .i64 j)]) (fun _=>[]) (fun j=>j<=s.length/\ ∀i,i<j->qT (s.getD i 0)) (fun j=>s.length-j) 0 ⟨Nat.zero_le _,gY⟩ .su (.nil) ?_
  rintro j ⟨hj,hb⟩
  repeat'(first|refine Qa ?_|(refine Ba ?_ ?_<;>try exact Za)|intro hc)
  ·exact E1 (kf fun q=>by have:=(q.1 j om).1;omega)
  ·exact E1 (kf fun q=>by have:=(q.1 j om).2;omega)
  ·refine⟨j+1,by dsimp only;omega,⟨om,fun i hi=>?_⟩,.su,(.nil)⟩
   by_cases q:i=j
   ·subst q;exact⟨om,om⟩
   ·exact hb i om
  ·exact E1 (kt ⟨fun i hi=>hb i om,om⟩)
theorem qU {c:Nat}: ∀(s:List Nat) (i:Nat),(qV c s i= -1/\ ¬c∈s)\/(0<=qV c s i/\c∈s)
 |[],i=>Or.inl ⟨rfl,by simp⟩
 |b::s,i=>by
  unfold qV
  cases hb:Nat.beq b c with
  |true=>exact Or.inr ⟨Int.natCast_nonneg i,by rw[Nat.eq_of_beq_eq_true hb];simp⟩
  |false=>
   have hne:c≠b:=fun q=>by subst q;simp at hb
   rcases qU s (i+1)with⟨h1,h2⟩|⟨h1,h2⟩
   ·exact Or.inl ⟨h1,by simp[hne,h2]⟩
   ·exact Or.inr ⟨h1,by simp[h2]⟩
theorem Ux {s:List Nat}{c:Nat}{K:PV->Prop}(hc:c<=255)(k:K (.int .i64 (qV c s 0))):PF Tryz.prog X0 Mx 292 [.str s,.int .u8 (c:Int)] K:=
 Jj Uy (bg _) (fun h F av r=>by
  cases r with
  |cons _ a _ av2 r1 r2=>
   cases r2 with
   |cons _ b _ bs r3 r4=>
    cases r1;cases r3;cases r4
    refine⟨_,?_,.int .i64 (qV c s 0)⟩
    show(bif Nat.ble c 255 then _ else _)=_
    rw[Nat.ble_eq_true_of_le hc]
    simp only[cond,fg]) k
theorem jN {s:List Nat}{c:Nat}{K:PV->Prop}(hc:c<=255)(k:K (.int .i64 (qV c s 0))):PF Tryz.prog X0 Mx 263 [.str s,.int .u8 (c:Int)] K:=by
 refine Pf jO fun hnt=>?_
 repeat'(first|refine Qa ?_|refine ae (aa (Ux hc ?_))|intro hc)
 exact E1 k
theorem mV {s:List Nat}{c:Nat}{K:PV->Prop}(hc:c<=255)(k:K (.int .i64 (qV c s 0))):PF Tryz.prog X0 Mx 206 [.str s,.int .u8 (c:Int)] K:=by
 refine Pf mW fun hnt=>?_
 repeat'(first|refine Qa ?_|refine ae (aa (jN hc ?_))|intro hc)
 exact E1 k
def BV (s t:List Nat):Prop:=t.length<=s.length/\s.take t.length=t
theorem jP {s t:List Nat}{K:PV->Prop}(kt:BV s t->K (.bool true))(kf: ¬BV s t->K (.bool false)):PF Tryz.prog X0 Mx 205 [.str s,.str t] K:=by
 refine Pf jQ fun hnt=>?_
 repeat'(first|refine Qa ?_|(refine Ba ?_ ?_<;>try exact Za)|refine qW ?_|intro hc)
 ·exact E1 (kt ⟨om,by simpa using hc⟩)
 ·exact E1 (kf fun q=>hc (by simpa using q.2))
 ·exact E1 (kf fun q=>by have:=q.1;omega)
theorem mX {s t:List Nat}{K:PV->Prop}(kt:BV s t->K (.bool true))(kf: ¬BV s t->K (.bool false)):PF Tryz.prog X0 Mx 131 [.str s,.str t] K:=by
 refine Pf mY fun hnt=>?_
 repeat'(first|refine Qa ?_|(refine ae (aa (jP (fun hc=>?_) fun hc=>?_)))|intro hc)
 ·exact E1 (kt hc)
 ·exact E1 (kf hc)
theorem xe {s:List Nat}{K:PV->Prop}(kt:s∈nz->K (.bool true))(kf: ¬s∈nz->K (.bool false)):PF Tryz.prog X0 Mx 85 [.str s] K:=by
 refine Pf xg fun hnt=>?_
 repeat'(first|refine Qa ?_|(refine Ba ?_ ?_<;>try exact Za)|intro hc)
 refine aD (fun j:Nat=>[(0,.str s),(5,.agg (nz.map PV.str)),(6,.int .i64 j)]) (fun _=>[]) (fun j=>j<=nz.length/\ ∀i,i<j->el nz i≠s) (fun j=>nz.length-j) 0 ⟨Nat.zero_le _,gY⟩ .su (.nil) ?_
 rintro j ⟨hj,hb⟩
 have hkl:nz.length=17:=rfl
 repeat'(first|refine Qa ?_|(refine Ba ?_ ?_<;>try exact Za)|refine JZ nz ?_|intro hc)
 ·exact E1 (kt (by rw[hc];exact ba om))
 ·refine⟨j+1,by dsimp only;omega,⟨om,fun i hi=>?_⟩,.su,(.nil)⟩
  by_cases q:i=j
  ·subst q;exact fun q=>hc q.symm
  ·exact hb i om
 ·exact E1 (kf fun q=>by obtain⟨i,hi,e⟩:=cm q;exact hb i om e)
theorem Ea {s:List Nat}{K:PV->Prop}(hl:s.length<=32)(kt:(∀i,i<s.length->lI (s.getD i 0))->K (.int .i64 (s.length:Nat)))(kf: ∀n:Nat,(n:Int)≠s.length->(¬ ∀i,i<s.length->lI (s.getD i 0))->K (.int .i64 n)):PF Tryz.prog X0 Mx 83 [.str s,.fn 84 []] K:=by
 refine Pf Eb fun hnt=>?_
 repeat'(first|refine Qa ?_|(refine Ba ?_ ?_<;>try exact Za)|intro hc)
 refine aD (fun j:Nat=>[(0,.str s),(1,.fn 84 []),(5,.int .i64 j)]) (fun _=>[]) (fun j=>j<=s.length/\ ∀i,i<j->lI (s.getD i 0)) (fun j=>s.length-j) 0 ⟨Nat.zero_le _,gY⟩ .su (.nil) ?_
 rintro j ⟨hj,hb⟩
 repeat'(first|refine Qa ?_|(refine Ba ?_ ?_<;>try exact Za)|(refine ae (aa (D8 (fun hc=>?_) fun hc=>?_)))|intro hc)
 ·refine⟨j+1,by dsimp only;omega,⟨om,fun i hi=>?_⟩,.su,(.nil)⟩
  by_cases q:i=j
  ·subst q;exact hc
  ·exact hb i om
 ·exact E1 (kf j om fun q=>hc (q j om))
 ·have hjl:j=s.length:=by omega
  subst hjl
  exact E1 (kt fun i hi=>hb i om)
theorem dG {s:List Nat}{K:PV->Prop}(kt:du s->K (.bool true))(kf: ¬du s->K (.bool false)):PF Tryz.prog X0 Mx 33 [.str s] K:=by
 refine Pf BW fun hnt=>?_
 by_cases hs:s=[]
 ·repeat'(first|refine Qa ?_|(refine Ba ?_ ?_<;>try exact Za)|intro hc)
  exact E1 (kf fun q=>q.1 hs)
 have:=List.length_pos_iff.2 hs
 repeat'(first|refine Qa ?_|(refine Ba ?_ ?_<;>try exact Za)|(refine ae (aa (o8 (fun hc=>?_) fun hc=>?_)))|(refine ae (aa (Ea ?_ (fun hp=>?_) fun n hn hp=>?_)))|(refine ae (aa (xe (fun hc=>?_) fun hc=>?_)))|omega|intro hc)
 ·exact E1 (kf fun q=>by have:=q.2.1;omega)
 ·exact E1 (kf fun q=>q.2.2.2.1 hc)
 ·exact E1 (kt ⟨hs,om,am,hc,hp⟩)
 ·exact E1 (kf fun q=>hp q.2.2.2.2)
 ·exact E1 (kf fun q=>hc q.2.2.1)
def kp (s:List Nat):Prop:=(s.length<=32/\1<=s.length/\s.getD 0 0=36/\JY (s.drop 1))\/du s
theorem tL {s:List Nat}:BV s [36]↔1<=s.length/\s.getD 0 0=36:=by
 cases s with
 |nil=>simp[BV]
 |cons a s=>simp[BV]
theorem FO {s:List Nat}:(s.drop (Int.toNat 1)).take ((s.length:Int)-1).toNat=s.drop 1:=by
 apply List.take_of_length_le
 show(s.drop 1).length<=_
 simp
theorem J0 {s:List Nat}(h:s.getD 0 0=36): ¬du s:=fun q=>by
 have:=q.2.2.1
 rw[h]at this
 rcases this with x|x<;>omega
theorem o9 {s:List Nat}{K:PV->Prop}(kt:kp s->K (.bool true))(kf: ¬kp s->K (.bool false)):PF Tryz.prog X0 Mx 91 [.str s] K:=by
 refine Pf pa fun hnt=>?_
 repeat'(first|refine Qa ?_|(refine Ba ?_ ?_<;>try exact Za)|(refine ae (aa (mX (fun hc=>?_) fun hc=>?_)))|(refine ae (aa (dG (fun hc=>?_) fun hc=>?_)))|(refine ae (aa (zu ?_ (fun hn=>?_) fun hn=>?_)))|(refine qW ?_ rfl rfl rfl om (by have:=(tL.1 hc).1;omega) om)|intro hc)
 all_goals try rw[FO]at*
 ·simp;try omega
 ·have:=tL.1 am
  exact E1 (kt (Or.inl ⟨om,this.1,this.2,hn⟩))
 ·have:=tL.1 am
  exact E1 (kf fun q=>q.elim (fun q=>hn q.2.2.2) (J0 this.2))
 ·exact E1 (kt (Or.inr hc))
 ·exact E1 (kf fun q=>q.elim (fun q=>(by assumption: ¬BV s [36]) (tL.2 ⟨q.2.1,q.2.2.1⟩)) hc)
 ·exact E1 (kt (Or.inr hc))
 ·exact E1 (kf fun q=>q.elim (fun q=>om) hc)
def xY (op:Int):List Nat:=if 0<=op/\op<17 then el Uz op.toNat else[]
def nI (op:Int):List Nat:=el VA op.toNat
def hasB (op:Int)(f:Nat):Bool:=decide (0<=op/\op<17)&&(nI op).any fun b=>b==f||(f==110&&b==111)
theorem J1 {x f:Nat}:(x==f||(f==110&&x==111))=true↔x=f\/f=110/\x=111:=by simp
theorem J2 {x f:Nat}:(x==f||(f==110&&x==111))=false↔ ¬(x=f\/f=110/\x=111):=by rw[<-J1];simp
theorem ko {op:Int}(h:0<=op/\op<17): ∃k:Fin 17,op=((k.1:Nat):Int):=⟨⟨op.toNat,om⟩,by show op=(op.toNat:Int);omega⟩
theorem iA {op:Int}:xY op=[]↔ ¬(0<=op/\op<17):=by
 constructor
 ·intro h q
  obtain⟨k,rfl⟩:=ko q
  rw[xY,if_pos q]at h
  have: ∀k:Fin 17,el Uz ((k.1:Nat):Int).toNat≠[]:=by decide
  exact this k h
 ·intro h;rw[xY,if_neg h]
theorem HF {op:Int}(h:0<=op/\op<17):(nI op).length<=10:=by
 obtain⟨k,rfl⟩:=ko h
 have: ∀k:Fin 17,(nI ((k.1:Nat):Int)).length<=10:=by decide
 exact this k
theorem Ec {s:List Nat}{p:Nat->Bool}:s.any p=true↔ ∃i,i<s.length/\p (s.getD i 0)=true:=by
 rw[List.any_eq_true]
 constructor
 ·rintro⟨x,hx,hp⟩
  obtain⟨i,hi,e⟩:=List.mem_iff_getElem.1 hx
  exact⟨i,hi,by simpa[hi,e]using hp⟩
 ·rintro⟨i,hi,hp⟩
  exact⟨s[i],List.getElem_mem hi,by simpa[hi]using hp⟩
theorem uP {P:Program}{X:cj}{M:Mf}{G:aK}{S:aJ}{K0:PV->Prop}(L:List (List Nat)){x:XV}{p id i:Nat}(hk:K0 (.str (el L i)))(hx:bx G x=some (.gu p id i 0 1):=by exact rfl)(hS:aC S p=some (some id,.arr 1 L.length (xX 1 (L.map PV.str))):=by exact rfl)(hi:i<L.length):zx P X M (.ax x) G S K0:=
 iy hk hx hS (by rw[xW hi];rfl) hi
theorem Ed {op:Int}{K:PV->Prop}(h:0<=op/\op<17)(k:K (.str (nI op))):PF Tryz.prog X0 Mx 174 [.int .i64 op] K:=by
 refine Pf Ee fun hnt=>?_
 repeat'(first|refine Qa ?_|(refine bb ?_;intro b)|(refine qX ?_;intro q hq;cases hq)|refine uP VA ?_ rfl rfl (by show op.toNat<17;omega)|intro hc)
 exact E1 k
theorem nU {op:Int}{K:PV->Prop}(k:K (.str (xY op))):PF Tryz.prog X0 Mx 237 [.int .i64 op] K:=by
 refine Pf Ef fun hnt=>?_
 repeat'(first|refine Qa ?_|(refine Ba ?_ ?_<;>try exact Za)|(refine bb ?_;intro b)|(refine qX ?_;intro q hq;cases hq)|refine uP Uz ?_ rfl rfl (by show op.toNat<17;omega)|intro hc)
 ·refine E1 ?_;rwa [iA.2 (by omega)]at k
 ·refine E1 ?_;rwa [iA.2 (by omega)]at k
 ·rw[xY,if_pos ⟨by omega,by omega⟩]at k
  exact E1 k
theorem cJ {op:Int}{f:Nat}{K:PV->Prop}(kt:hasB op f=true->K (.bool true))(kf:hasB op f=false->K (.bool false)):PF Tryz.prog X0 Mx 176 [.int .i64 op,.int .u8 (f:Int)] K:=by
 refine Pf HG fun hnt=>?_
 by_cases h:0<=op/\op<17
 ·have hl:=HF h
  have hn: ¬xY op=[]:=fun q=>iA.1 q h
  repeat'(first|refine Qa ?_|(refine Ba ?_ ?_<;>try exact Za)|refine ae (aa (nU ?_))|refine ae (aa (Ed h ?_))|intro hc)
  refine aD (fun j:Nat=>[(1,.int .u8 (f:Int)),(5,.str (nI op)),(6,.int .i64 j)]) (fun _=>[]) (fun j=>j<=(nI op).length/\ ∀i,i<j->((nI op).getD i 0==f||(f==110&&(nI op).getD i 0==111))=false) (fun j=>(nI op).length-j) 0 ⟨Nat.zero_le _,gY⟩ .su (.nil) ?_
  rintro j ⟨hj,hb⟩
  repeat'(first|refine Qa ?_|(refine Ba ?_ ?_<;>try exact Za)|intro hc)
  ·exact E1 (kt (by unfold hasB;rw[decide_eq_true h,Bool.true_and,Ec];exact⟨j,om,J1.2 om⟩))
  ·exact E1 (kt (by unfold hasB;rw[decide_eq_true h,Bool.true_and,Ec];exact⟨j,om,J1.2 om⟩))
  ·refine⟨j+1,by dsimp only;omega,⟨om,fun i hi=>?_⟩,.su,(.nil)⟩
   by_cases q:i=j
   ·subst q;exact J2.2 om
   ·exact hb i om
  ·refine⟨j+1,by dsimp only;omega,⟨om,fun i hi=>?_⟩,.su,(.nil)⟩
   by_cases q:i=j
   ·subst q;exact J2.2 om
   ·exact hb i om
  ·exact E1 (kf (by unfold hasB;rw[decide_eq_true h,Bool.true_and];cases hq:(nI op).any _ with|false=>rfl|true=>(obtain⟨i,hi,e⟩:=Ec.1 hq;rw[hb i (by omega)]at e;cases e)))
 ·have hn:=iA.2 h
  repeat'(first|refine Qa ?_|(refine Ba ?_ ?_<;>try exact Za)|refine ae (aa (nU ?_))|intro hc)
  exact E1 (kf (by unfold hasB;rw[decide_eq_false h];rfl))
theorem uQ {op:Int}{K:PV->Prop}(kt:0<=op/\op<17->K (.bool true))(kf: ¬(0<=op/\op<17)->K (.bool false)):PF Tryz.prog X0 Mx 92 [.int .i64 op] K:=by
 refine Pf Eg fun hnt=>?_
 repeat'(first|refine Qa ?_|(refine Ba ?_ ?_<;>try exact Za)|intro hc)
 ·exact E1 (kt om)
 ·exact E1 (kf om)
 ·exact E1 (kf om)
def eE (op:Int)(f:Nat):Bool:=decide (0<=op/\op<17)&&(el xH op.toNat).elem f
theorem cq {op:Int}{f:Nat}{K:PV->Prop}(hf:f<=255)(kt:eE op f=true->K (.bool true))(kf:eE op f=false->K (.bool false)):PF Tryz.prog X0 Mx 133 [.int .i64 op,.int .u8 (f:Int)] K:=by
 refine Pf HH fun hnt=>?_
 repeat'(first|refine Qa ?_|(refine Ba ?_ ?_<;>try exact Za)|(refine ae (aa (uQ (fun hc=>?_) fun hc=>?_)))|refine HI xH ?_|refine ae (aa (mV hf ?_))|intro hc)
 ·exact E1 (kt (by unfold eE;rw[decide_eq_true (by assumption),Bool.true_and,List.elem_iff];rcases qU (c:=f) (el xH op.toNat) 0 with⟨q,_⟩|⟨_,q⟩;(have hc:0<=qV f (el xH op.toNat) 0:=hc;omega);exact q))
 ·exact E1 (kf (by unfold eE;rw[decide_eq_true (by assumption),Bool.true_and];rcases qU (c:=f) (el xH op.toNat) 0 with⟨_,q⟩|⟨q,_⟩;(simpa using q);(have hc: ¬0<=qV f (el xH op.toNat) 0:=hc;omega)))
 ·exact E1 (kf (by unfold eE;rw[decide_eq_false (by assumption)];rfl))
theorem dN {op:Int}{f:Nat}(hf:f=100\/f=97\/f=98\/f=99\/f=109\/f=103):eE op f=hasB op f:=by
 by_cases h:0<=op/\op<17
 ·obtain⟨k,rfl⟩:=ko h
  rcases hf with rfl|rfl|rfl|rfl|rfl|rfl
  ·exact(by decide: ∀k:Fin 17,eE ((k.1:Nat):Int) 100=hasB ((k.1:Nat):Int) 100) k
  ·exact(by decide: ∀k:Fin 17,eE ((k.1:Nat):Int) 97=hasB ((k.1:Nat):Int) 97) k
  ·exact(by decide: ∀k:Fin 17,eE ((k.1:Nat):Int) 98=hasB ((k.1:Nat):Int) 98) k
  ·exact(by decide: ∀k:Fin 17,eE ((k.1:Nat):Int) 99=hasB ((k.1:Nat):Int) 99) k
  ·exact(by decide: ∀k:Fin 17,eE ((k.1:Nat):Int) 109=hasB ((k.1:Nat):Int) 109) k
  ·exact(by decide: ∀k:Fin 17,eE ((k.1:Nat):Int) 103=hasB ((k.1:Nat):Int) 103) k
 ·unfold eE hasB;rw[decide_eq_false h];rfl
theorem J3 {op:Int}:eE op 42=hasB op 108:=by
 by_cases h:0<=op/\op<17
 ·obtain⟨k,rfl⟩:=ko h
  exact(by decide: ∀k:Fin 17,eE ((k.1:Nat):Int) 42=hasB ((k.1:Nat):Int) 108) k
 ·unfold eE hasB;rw[decide_eq_false h];rfl
theorem P6 {op:Int}:(eE op 110||eE op 111)=hasB op 110:=by
 by_cases h:0<=op/\op<17
 ·obtain⟨k,rfl⟩:=ko h
  exact(by decide: ∀k:Fin 17,(eE ((k.1:Nat):Int) 110||eE ((k.1:Nat):Int) 111)=hasB ((k.1:Nat):Int) 110) k
 ·unfold eE hasB;rw[decide_eq_false h];rfl
theorem kY {l:List (List Nat)}{s:List Nat}{K:PV->Prop}(k:K (.int .i64 (aO l s))):PF Tryz.prog X0 Mx 41 [pL 1 pS l,.str s] K:=by
 refine Pf kZ fun hnt=>?_
 repeat'(first|refine Qa ?_|(refine Ba ?_ ?_<;>try exact Za)|intro hc)
 refine aD (fun j:Nat=>[(0,pL 1 pS l),(1,.str s),(7,.int .i64 (l.length:Nat)),(8,.int .i64 j)]) (fun _=>[]) (fun j=>j<=l.length/\ ∀i,i<j->el l i≠s) (fun j=>l.length-j) 0 ⟨Nat.zero_le _,gY⟩ .su (.nil) ?_
 rintro j ⟨hj,hb⟩
 repeat'(first|refine Qa ?_|(refine Ba ?_ ?_<;>try exact Za)|intro hc)
 ·refine E1 ?_;rwa [lG (j:=j) (by omega) hc.symm hb]at k
 ·refine⟨j+1,by dsimp only;omega,⟨om,fun i hi=>?_⟩,.su,(.nil)⟩
  by_cases q:i=j
  ·subst q;exact fun q=>hc q.symm
  ·exact hb i om
 ·refine E1 ?_;rwa [o0 fun i hi=>hb i (by omega)]at k
theorem dw {l:List (List Nat)}{s:List Nat}{K:PV->Prop}(kt:s∈l->K (.bool true))(kf: ¬s∈l->K (.bool false)):PF Tryz.prog X0 Mx 14 [pL 1 pS l,.str s] K:=by
 refine Pf jn fun hnt=>?_
 repeat'(first|refine Qa ?_|(refine Ba ?_ ?_<;>try exact Za)|refine ae (aa (kY ?_))|intro hc)
 ·exact E1 (kt (aS.1 hc))
 ·exact E1 (kf fun q=>hc (aS.2 q))
end Go.Proofs.YtemehfgkfidgjaaGreatDoor.Ev
