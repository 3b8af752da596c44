/- CoverStates, part 4 -/
import Derived.Test.YtemehfgkfidgjaaGreatDoorEvD
import Derived.Deep.AppendSrc
import Derived.RangeFuncLeaves
import Derived.OrdersIn
set_option linter.all false
namespace Go.Proofs.YtemehfgkfidgjaaGreatDoor.Ev
open Go
variable {dr:Prop}
section
variable {P:Program}{ng:Nat}{o:Oper}{c:C}{sl:Tr AV}{h:H}
theorem fO {id:Nat}{k:List AV->Out}{r:Tr AV×H}(e:dB c h id k=some r): ∃vs,cr c h id=some (.cells vs)/\k vs=some r:=by
 unfold dB at e
 split at e
 ·exact⟨_,am,e⟩
 ·cases e
theorem Ig {esz:Nat}{x:AV}{k:Nat->List AV->Out}{r:Tr AV×H}(e:xA c h esz x k=some r):
    ∃n news,k n news=some r/\news.length=n*esz/\ ∀(t2 e':TypeId),P.underlying t2=some (.slice e')-> ∀β w u,HR c.floor β (view c h) w->VR β x u->cy news=true-> ∃cs,Src P esz t2 u n cs w/\bh β news cs:=by
 unfold xA at e
 split at e
 ·refine⟨0,[],e,by simp,fun t2 e' ht β w u hr hv _=>?_⟩
  simp only[VR]at hv
  subst hv
  exact⟨[],Src.ofNil w ht 0,by simp[bh]⟩
 ·rename_i id off n es cap
  cases hb:Nat.beq es esz with
  |false=>rw[hb]at e;cases e
  |true=>
   rw[hb]at e
   simp only[cond]at e
   obtain⟨vs,hg,e⟩:=fO e
   obtain⟨h1,e⟩:=gx e
   obtain⟨h2,e⟩:=gy e
   have hl:((vs.drop off).take (Nat.mul n esz)).length=n*esz:=by
    rw[List.length_take];exact Nat.min_eq_left h2
   refine⟨n,_,e,hl,fun t2 e' ht β w u hr hv ho=>?_⟩
   simp only[VR]at hv
   obtain⟨L,oo,cp,hL,hu,hle,hsz,hoo,hcap⟩:=hv
   obtain⟨L',h3,_,h4⟩:=hr.at_ id _ (cG hg)
   rw[hL]at h3;cases h3
   have hn2:off+n*esz<=vs.length:=by
    have:n*esz<=(vs.drop off).length:=h2
    simp at this;omega
   obtain⟨cs,k1,k2⟩:=kB h4 hn2
   refine⟨cs,?_,k1⟩
   subst hu
   refine Src.ofSlice w ht _ n cp cs (by rw[<-k1.length];exact hl) (fun j u hj=>?_) (Af k1 ho)
   rcases hoo with rfl|⟨z1,z2⟩
   ·exact k2 j u hj
   ·have:cs=[]:=by rw[<-List.length_eq_zero_iff,<-k1.length];simp;left;rw[z1];simp
    subst this;simp at hj
 ·rename_i oa n cp
  cases hb:Nat.beq n 0 with
  |false=>rw[hb]at e;cases e
  |true=>
   rw[hb]at e
   have hn:=Nat.eq_of_beq_eq_true hb
   subst hn
   refine⟨0,[],e,by simp,fun t2 e' ht β w u hr hv _=>?_⟩
   simp only[VR]at hv
   subst hv
   cases oa with
   |none=>exact⟨[],Src.ofNil w ht cp,by simp[bh]⟩
   |some a=>exact⟨[],Src.ofSlice w ht a 0 cp [] (by simp) (fun j u hj=>by simp at hj) (fun u hu=>absurd hu (by simp)),by simp[bh]⟩
 ·cases e
theorem EK {f:Nat}{β:bS}{w:World}{vs:List AV}{cs:List Value}{e:TypeId}{rest:Array Value}(hr:HR f β (view c h) w)(hlt:h.n<h.n+1)(hn:β h.n=none)(hv:bh β vs cs):
    ca dr f h.n (h.n+1) β (view c h) w (tH β h.n ⟨w.heap.size,0,cs.length+rest.size,dv⟩) (view c ⟨Tr.set depth h.t h.n (.cells vs),h.n+1⟩) (w.drew.alloc (.cells (cs.toArray++rest) e)):=by
 refine vz hr hn rfl (fun B hB=>?_) ?_ rfl ⟨rfl,fun _=>Nat.le_succ _⟩ rfl ?_ (fun id d e=>vA hlt e)
 ·show(w.heap.push _)[B]? =_
  simp[Array.getElem?_push,Nat.ne_of_lt hB]
 ·show(w.heap.push _).size=_
  simp
 ·refine⟨cs.toArray++rest,(e,(0,0)),?_,⟨by simp,by have:=hv.length;show 0+vs.length<=cs.length+rest.size;omega,fun i _ _=>by simp⟩,fun i v hi=>?_⟩
  ·show(w.heap.push _)[w.heap.size]? =_
   simp
  ·obtain⟨u,h1,h2⟩:=hv.get hi
   have hlt':=(List.getElem?_eq_some_iff.1 h1).1
   refine⟨u,?_,VR.mono (iu _ hn) _ _ h2⟩
   rw[Nat.zero_add,Array.getElem?_append_left (by simpa using hlt')]
   simpa using h1
def isApp (o:Oper)(y z:Operand)(t t2:TypeId):Prop:=o.op= .call {callee:= .builtin .append,args:= #[y,z],argTypes:= #[t,t2]}
theorem tP {y z:Operand}{t t2:TypeId}(ho:isApp o y z t t2)(a:Act)(w:World){u:Value}{w':World}(hr:(Builtin.append_ #[t,t2] o.type #[a.eval y,a.eval z]).run P w= .ok u w'):(execOp a.eval o).run P w= .ok (.value u) w':=by
 unfold isApp at ho
 simp[execOp,ho,resolve,invoke,builtin,hr]
theorem CF {f:Nat}{β:bS}{a:Act}{w:World}{y z:Operand}{t t2 e:TypeId}{i:TypeInfo}{zv:Value}{esz n m cp:Nat}{base:Option Addr}{ovs news:List AV}{olds cs:List Value}(ho:isApp o y z t t2)(ht:P.underlying t=some (.slice e))(hi:P.info? e=some i)(hz:i.zero=some zv)
    (hsz:i.size=esz) (hzs:zv.cells.size=esz) (hby:0<i.bytes) (hr:HR f β (view c h) w) (hlt:h.n<h.n+1) (hn:β h.n=none) (hy:a.eval y= .slice base m cp)
    (hold:(Builtin.firstCells i.size m (.slice base m cp)).run P w.drew= .ok olds.toArray w.drew) (hov:bh β ovs olds) (hol:olds.length=m*esz) (hs:Src P esz t2 (a.eval z) n cs w) (hnv:bh β news cs) (hg:cp<m+n) (hb:(m+n)*i.bytes<=140737488355328):
    ∃val w' β',(execOp a.eval o).run P w= .ok (.value val) w'/\VR β' (.sl h.n 0 (m+n) esz none) val/\ca dr f h.n (h.n+1) β (view c h) w β' (view c ⟨Tr.set depth h.t h.n (.cells (ovs++news)),h.n+1⟩) w':=by
 have hfit:Builtin.nextslicecap (m+n) cp*i.bytes<=281474976710656:=by
  have:=nextslicecap_le hg
  have h2:=Nat.mul_le_mul_right i.bytes this
  rw[Nat.mul_assoc]at h2
  omega
 have hmn:m+n<=140737488355328:=Nat.le_trans (Nat.le_mul_of_pos_right _ hby) hb
 subst hsz
 have hrun:=run_append_grow_src (P:=P) w t t2 o.type e i zv ht hi hz base m cp olds hold (a.eval z) n cs hs hg om hfit
 rw[<-hy]at hrun
 have hp:=EK (dr:=dr) (f:=f) (e:=e) (rest:=Builtin.zeroCells zv.cells (grownCap w (m+n) cp e-(m+n))) hr hlt hn (hov.append hnv)
 refine⟨_,_,_,tP ho a w hrun,?_,hp⟩
 have hge:=grownCap_ge w (m+n) cp e
 simp only[VR]
 refine⟨_,0,_,cB _ _ _,rfl,hge,?_,Or.inl rfl,fun d hd=>by cases hd⟩
 have hnl:=hs.newsLen
 simp only[List.length_append,size_zeroCells,hzs,hol,hnl,<-Nat.add_mul]
 rw[Nat.zero_add]
 apply Nat.mul_le_mul_right
 omega
theorem KJ {f:Nat}{β:bS}{a:Act}{w:World}{y z:Operand}{t t2 e:TypeId}{i:TypeInfo}{esz n m cp id oo off:Nat}{vs news:List AV}{cs:List Value}{L:Loc}(ho:isApp o y z t t2)(ht:P.underlying t=some (.slice e))(hi:P.info? e=some i)
    (hsz:i.size=esz) (hw:WF h) (hr:HR f β (view c h) w) (hlt:h.n<h.n+1) (hn:β h.n=none) (hg:cr c h id=some (.cells vs)) (hL:β id=some L) (hf:f<=id) (hy:a.eval y= .slice (some ⟨L.blk,oo,none⟩) m cp)
    (hoo:oo=L.base+off) (hbd:oo+cp*esz<=L.size) (hov:off+m*esz<=vs.length) (hs:Src P esz t2 (a.eval z) n cs w) (hnv:bh β news cs) (hroom:m+n<=cp):
    ∃val w' β',(execOp a.eval o).run P w= .ok (.value val) w'/\VR β' (.sl h.n 0 (m+n) esz none) val/\
     ca dr f h.n (h.n+1) β (view c h) w β' (view c ⟨Tr.set depth (Tr.set depth h.t id .dead) h.n (.cells ((vs.drop off).take (m*esz)++news)),h.n+1⟩) w':=by
 subst hsz
 subst hoo
 obtain⟨g1,g2⟩:=bN hg
 have hid:=db hw g1
 obtain⟨L',h3,h4,hb⟩:=hr.at_ id _ (cG hg)
 rw[hL]at h3;cases h3
 obtain⟨cur,et,b1,b2,b3⟩:=hb
 have hle2:=b2.le
 have hnl:=hs.newsLen
 have hmul:m*i.size+n*i.size<=cp*i.size:=by rw[<-Nat.add_mul];exact Nat.mul_le_mul_right _ hroom
 have hrun:=run_append_room_src (P:=P) w t t2 o.type e i ht hi L.blk (L.base+off) m cp (a.eval z) n cs hs hroom (fun j hj=>by
     have:L.base+off+m*i.size+j<cur.size:=by omega
     simp[World.cell?,b1,this]) (fun j hj=>by unfold World.frozen?;simp only[b1];exact b2.nf _ om om)
 rw[<-hy]at hrun
 obtain⟨cur',c1,c2,c3,c4⟩:=iS L.blk et.1 et.2 cs (L.base+off+m*i.size) w cur b1 om
 obtain⟨r1,r2,r3,r4⟩:=jo L.blk cs (L.base+off+m*i.size) w
 have hp:ca dr f h.n (h.n+1) β (view c h) w (tH β h.n ⟨L.blk,L.base+off,L.size,dv⟩) (view c ⟨Tr.set depth (Tr.set depth h.t id .dead) h.n (.cells ((vs.drop off).take (m*i.size)++news)),h.n+1⟩) (w.setCells L.blk (L.base+off+m*i.size) cs):=by
  refine HW (b:= .cells ((vs.drop off).take (m*i.size)++news)) hr (cG hg) hL hf hn rfl (fun B hB=>iT L.blk B hB _ _ _) r1 r2 ⟨r3.1,fun _=>r3.2⟩ r4 ?_ (fun j d ej=>?_)
  ·refine⟨cur',et,c1,⟨by rw[c2];exact hle2,by(show L.base+off+((vs.drop off).take (m*i.size)++news).length<=L.size;rw[List.length_append,List.length_take];have:=hnv.length;omega),fun k q1 q2=>b2.nf k (Nat.le_trans (Nat.le_add_right _ _) q1) q2⟩,fun k v hk=>?_⟩
   have e0:((vs.drop off).take (m*i.size)).length=m*i.size:=by simp;omega
   by_cases x:k<m*i.size
   ·rw[List.getElem?_append_left (by omega),List.getElem?_take_of_lt x,List.getElem?_drop]at hk
    obtain⟨u,d1,d2⟩:=b3 _ v hk
    refine⟨u,?_,VR.mono (iu _ hn) _ _ d2⟩
    rw[c3 _ (by simp;omega),<-d1,Nat.add_assoc]
   ·rw[List.getElem?_append_right (by omega),e0]at hk
    obtain⟨u,d1,d2⟩:=hnv.get hk
    refine⟨u,?_,VR.mono (iu _ hn) _ _ d2⟩
    have:=c4 (k-m*i.size) (List.getElem?_eq_some_iff.1 d1).1
    rw[<-d1,<-this];congr 1;simp;omega
  ·have hlt2:(⟨Tr.set depth h.t id .dead,h.n⟩:H).n<h.n+1:=hlt
   rcases vA (h:=⟨Tr.set depth h.t id .dead,h.n⟩) hlt2 ej with⟨q1,q2⟩|⟨q1,q2⟩
   ·exact Or.inl ⟨q1,q2⟩
   ·rcases fM (h:=h) om q2 with⟨p1,p2⟩|⟨p1,p2⟩
    ·subst p2
     have:=dV q2
     unfold view at q2
     rw[this]at q2;cases q2
    ·exact Or.inr ⟨q1,p1,p2⟩
 refine⟨_,_,_,tP ho a w hrun,?_,hp⟩
 simp only[VR]
 exact⟨_,L.base+off,cp,cB _ _ _,rfl,hroom,hbd,Or.inl rfl,fun d hd=>by cases hd⟩
end
def W (r:Option Nat):Fence:={Fence.wide with round:=r}
theorem j6 {r:Option Nat}{n:Nat}{P:Program}{f:FuncId}{args:Array Value}{w:World}{R:Ending->World->Prop}:CallsIn (W r) n P f args w R↔Calls P f args w R:=callsIn_wide (n:=n)
def NC (dr:Prop)(P:Program)(ng:Nat)(o:Oper)(c:C)(sl:Tr AV)(h:H)(v:AV)(h':H):Prop:=
 Step c h h'/\ ∀β a w,GB ng β->HR c.floor β (view c h) w->tx β sl a o.op.operands.toList->(∀id,h.n<=id->id<h'.n->β id=none)-> ∀(r:Option Nat) (n:Nat) (K:Act->World->Prop) (Q:Exit->Act->World->Prop),
  (∀β' val w',ca dr c.floor h.n h'.n β (view c h) w β' (view c h') w'->VR β' v val->K (a.put o.dst val) w')->Oper.wpIn (W r) n P o a w K Q
section
variable {P:Program}{ng:Nat}{o:Oper}{c:C}{sl:Tr AV}{h:H}
theorem ND {r:Option Nat}{n:Nat}{a:Act}{K:Act->World->Prop}{Q:Exit->Act->World->Prop}{res:Result Next}(h:o.upon P a K Q res):o.uponIn (W r) n P a K Q res:=by
 cases res with
 |ok x w'=>
  cases x<;>simp only[Oper.upon,Oper.uponIn]at h⊢ <;>first
   |exact h
   |exact⟨fun q=>(by cases q),j6.2 h⟩
   |exact⟨fun q=>(by cases q),fun c cs _=>let⟨v,w',r,s⟩:=h c cs;⟨v,w',r,stepsIn_wide.2 s⟩⟩
 |halt x w'=>cases x<;>simp only[Oper.upon,Oper.uponIn]at h⊢ <;>exact h
theorem oF.ja {v:AV}{h':H}(hd: ∀q,o.op≠ .defer q)(d:oF dr P ng o c sl h v h'):NC dr P ng o c sl h v h':=
 ⟨d.1,fun β a w hgb hr hop hfr r n K Q hK=>⟨fun _ _=>trivial,by
  rw[Oper.semAt_eq _ _ _ hd]
  exact ND (d.2 β a w hgb hr hop hfr K Q hK)⟩⟩
def kQ (dr:Prop)(P:Program)(ng:Nat)(f:Nat)(args:List AV)(c:C)(h:H)(v:AV)(h':H):Prop:=
 Step c h h'/\(∃fn,P.funcs[f]? =some fn/\fn.body.isNone=false/\(fn.name== "runtime.NumGoroutine")=false)/\
 ∀β w cargs,GB ng β->HR c.floor β (view c h) w->bh β args cargs->(∀id,h.n<=id->id<h'.n->β id=none)-> ∀(R:Ending->World->Prop),
  (∀β' val w',ca dr c.floor h.n h'.n β (view c h) w β' (view c h') w'->VR β' v val->R (.returned val) w')->Calls P f cargs.toArray w R
def U3 (β:bS):Qq->List Value->Sem Next->Prop
 | .fn f,cargs,S=>S=callFunc f cargs.toArray
 | .Jc _,_,_=>False
 | .Dn id,cargs,S=> ∃L,β id=some L/\S=Instr.yield L.blk cargs.toArray
def vC (dr:Prop)(P:Program)(ng:Nat)(f:Qq)(args:List AV)(c:C)(h:H)(v:AV)(h':H):Prop:=
 Step c h h'/\ ∀β w cargs,GB ng β->HR c.floor β (view c h) w->bh β args cargs->(∀id,h.n<=id->id<h'.n->β id=none)-> ∀S,U3 β f cargs S-> ∀(r:Option Nat) (n:Nat) (o:Oper) (a:Act) (K:Act->World->Prop) (Q:Exit->Act->World->Prop),
  (∀β' val w',ca dr c.floor h.n h'.n β (view c h) w β' (view c h') w'->VR β' v val->K (a.put o.dst val) w')->o.uponIn (W r) n P a K Q (S.run P w)
def NF (dr:Prop)(P:Program)(ng:Nat)(f:Qq)(args:List AV)(c:C)(h:H)(v:AV)(h':H):Prop:=
 match f with
 | .Jc f=>kQ dr P ng f args c h v h'
 |f=>vC dr P ng f args c h v h'
theorem kQ.up {f:Nat}{args:List AV}{v:AV}{h':H}(d:kQ dr P ng f args c h v h'):vC dr P ng (.fn f) args c h v h':=by
 obtain⟨hst,⟨fn,f1,f2,f3⟩,hd⟩:=d
 refine⟨hst,fun β w cargs hgb hr hv hfr S hS r n o a K Q hK=>?_⟩
 have hS':S=callFunc f cargs.toArray:=hS
 subst hS'
 have f3': ¬fn.name= "runtime.NumGoroutine" :=by simpa using f3
 have f2': ¬fn.body=none:=fun q=>by rw[q]at f2;cases f2
 have hrun:(callFunc f cargs.toArray).run P w= .ok (.enter f cargs.toArray) w:=by simp[callFunc,f1,f2',f3']
 rw[hrun,Oper.uponIn_enter]
 exact⟨fun q=>(by cases q),j6.2 (hd β w cargs hgb hr hv hfr _ fun β' val w' hP hvr=>hK β' val w' hP hvr)⟩
theorem p6 {β:bS}{a:Act}: ∀(l:List Operand) (xs:List XV),l.mapM cV=some xs->(∀y∈l,∀x,cV y=some x->VR β (bG sl x) (a.eval y))->bh β (xs.map (bG sl)) (l.map a.eval)
 |[],xs,hxs,_=>by simp at hxs;subst hxs;simp[bh]
 |y::l,xs,hxs,hm=>by
  simp only[List.mapM_cons,Option.bind_eq_bind,Option.bind_eq_some_iff,Option.pure_def,Option.some.injEq]at hxs
  obtain⟨x,h1,xs',h2,rfl⟩:=hxs
  simp only[List.map_cons,bh]
  exact⟨_,_,rfl,hm y (by simp) x h1,p6 l xs' h2 fun z hz=>hm z (by simp[hz])⟩
end
structure Ctx (c:C)(h:H):Prop where
 low:c.floor<=h.n
 cd: ∀id,h.n<=id->seen c.cd id=true
theorem Ctx.mono {c:C}{h h':H}(hc:Ctx c h)(hle:h.n<=h'.n):Ctx c h':=⟨Nat.le_trans hc.low hle,fun id h1=>hc.cd id (Nat.le_trans hle h1)⟩
theorem ca.Qz {f n m n1 n2:Nat}{β β1 β2:bS}{g g1 g2:View}{w w1 w2:World}(h:ca dr f n n1 β g w β1 g1 w1)(h':ca dr f m n2 β1 g1 w1 β2 g2 w2)(hm:n<=m)(hn:n1<=n2):
    ca dr f n n2 β g w β2 g2 w2:=by
 have back: ∀id b L,f<=id->g1 id=some b->β1 id=some L->w.heap.size<=L.blk\/ ∃i d M,f<=i/\g i=some d/\β i=some M/\M.blk=L.blk:=by
  intro id b L hid h1 h2
  cases hb:β id with
  |some M=>
   have:M=L:=by have:=h.sub id M hb;rw[this]at h2;cases h2;rfl
   subst this
   rcases h.old id b h1 with⟨d,hd⟩|hn
   ·exact Or.inr ⟨id,d,M,hid,hd,hb,rfl⟩
   ·rw[hn]at hb;cases hb
  |none=>exact h.news id L h2 hb
 have hle:=h.le
 have hle':=h'.le
 refine⟨om,h.sub.trans h'.sub,?_,h'.hr,h'.os.trans h.os,⟨h'.tape.1.trans h.tape.1,fun q=>Nat.le_trans (h.tape.2 q) (h'.tape.2 q)⟩,h'.output.trans h.output,Nat.le_trans h.size h'.size,?_,?_,?_⟩
 ·intro id L h1 h2
  cases hb:β1 id with
  |some M=>have:=h.fresh id M hb h2;omega
  |none=>have:=h'.fresh id L h1 hb;omega
 ·intro B hB hf
  refine(h'.frame B (Nat.lt_of_lt_of_le hB h.size) fun id b L hid h1 h2 e=>?_).trans (h.frame B hB hf)
  rcases back id b L hid h1 h2 with hk|⟨i,d,M,hi,hd,hM,e2⟩
  ·omega
  ·exact hf i d M hi hd hM (e2.trans e)
 ·intro id L h1 h2
  cases hb:β1 id with
  |some M=>
   have:M=L:=by have:=h'.sub id M hb;rw[this]at h1;cases h1;rfl
   subst this
   exact h.news id M hb h2
  |none=>
   rcases h'.news id L h1 hb with hk|⟨i,b,M,hi,hg,hM,e⟩
   ·exact Or.inl (Nat.le_trans h.size hk)
   ·rcases back i b M hi hg hM with hk|⟨j,d,M',hj,hd,hM',e2⟩
    ·exact Or.inl om
    ·exact Or.inr ⟨j,d,M',hj,hd,hM',e2.trans e⟩
 ·intro id b h1
  rcases h'.old id b h1 with⟨d,hd⟩|hn
  ·exact h.old id d hd
  ·cases hb:β id with
   |none=>exact Or.inr rfl
   |some M=>have:=h.sub id M hb;rw[this]at hn;cases hn
theorem ca.wide {f f0 n n' m m':Nat}{β β':bS}{g g' V V':View}{w w':World}(h:ca dr f n n' β g w β' g' w')(hV:HR f0 β V w)(hg: ∀id b,g id=some b->V id=some b)(hf:f0<=f)(hfn:f<=n)(hm:m<=n)(hm':n'<=m')
    (hV': ∀id b,V' id=some b->g' id=some b\/(V id=some b/\g id=none)):ca dr f0 m m' β V w β' V' w':=by
 have hle:=h.le
 have keep: ∀id b L,V id=some b->g id=none->β id=some L->L.blk<w.heap.size->w'.heap[L.blk]? =w.heap[L.blk]? :=fun id b L e1 e2 e3 e4=>
  h.frame L.blk e4 fun i d M hfi h1 h2 h3=>by
   rcases hV.inj i id d b M L (hg i d h1) e1 h2 e3 h3 with this|this
   ·subst this;rw[h1]at e2;cases e2
   ·omega
 have placed: ∀id b L,V id=some b->β id=some L->L.blk<w.heap.size:=fun id b L e1 e2=>by
  obtain⟨L',h1,h2,_⟩:=hV.at_ id b e1
  rw[h1]at e2;cases e2;exact h2
 have cross: ∀i b M j d N,g' i=some b->β' i=some M->V j=some d->g j=none->β' j=some N->M.blk=N.blk->i=j\/(i<f0/\j<f0):=fun i b M j d N e1 e2 e3 e4 e5 e6=>by
  obtain⟨N',k1,k2,_⟩:=hV.at_ j d e3
  have k3:=h.sub j N' k1
  rw[k3]at e5;cases e5
  cases hb:β i with
  |some M0=>
   have k4:=h.sub i M0 hb
   rw[k4]at e2;cases e2
   rcases h.old i b e1 with⟨d',hd'⟩|hn
   ·exact hV.inj i j d' d _ _ (hg i d' hd') e3 hb k1 e6
   ·rw[hn]at hb;cases hb
  |none=>
   rcases h.news i M e2 hb with hk|⟨i',b',M',hi',hg',hM',e⟩
   ·omega
   ·rcases hV.inj i' j b' d M' _ (hg i' b' hg') e3 hM' k1 (e.trans e6)with this|this
    ·subst this;rw[hg']at e4;cases e4
    ·omega
 refine⟨om,h.sub,fun id L h1 h2=>by have:=h.fresh id L h1 h2;omega,⟨fun id b e=>?_,fun i j b d L M h1 h2 h3 h4 h5=>?_⟩,h.os,h.tape,h.output,h.size,fun B hB hh=>h.frame B hB fun id b L h1 h2 h3=>hh id b L (Nat.le_trans hf h1) (hg id b h2) h3,fun id L h1 h2=>?_,fun id b e=>?_⟩
 ·rcases hV' id b e with e|⟨e1,e2⟩
  ·exact h.hr.at_ id b e
  ·obtain⟨L,h1,h2,h3⟩:=hV.at_ id b e1
   have:=h.size
   exact⟨L,h.sub id L h1,om,h3.mono h.sub (keep id b L e1 e2 h1 h2)⟩
 ·rcases hV' i b h1 with e|⟨e1,e2⟩<;>rcases hV' j d h2 with e'|⟨e1',e2'⟩
  ·rcases h.hr.inj i j b d L M e e' h3 h4 h5 with q|q
   ·exact Or.inl q
   ·have was: ∀i b L,i<f->g' i=some b->β' i=some L-> ∃d,g i=some d/\β i=some L:=fun i b L q1 q2 q3=>by
      cases hb:β i with
      |none=>have:=(h.fresh i L q3 hb).1;omega
      |some L0=>
       have k4:=h.sub i L0 hb
       rw[k4]at q3;cases q3
       rcases h.old i b q2 with⟨d',hd'⟩|hn
       ·exact⟨d',hd',rfl⟩
       ·rw[hn]at hb;cases hb
    obtain⟨di,gi,bi⟩:=was i b L q.1 e h3
    obtain⟨dj,gj,bj⟩:=was j d M q.2 e' h4
    exact hV.inj i j di dj L M (hg _ _ gi) (hg _ _ gj) bi bj h5
  ·exact cross i b L j d M e h3 e1' e2' h4 h5
  ·exact(cross j d M i b L e' h4 e1 e2 h3 h5.symm).elim (fun q=>Or.inl q.symm) fun q=>Or.inr ⟨q.2,q.1⟩
  ·obtain⟨L',k1,_,_⟩:=hV.at_ i b e1
   obtain⟨M',k2,_,_⟩:=hV.at_ j d e1'
   have k3:=h.sub i L' k1
   have k4:=h.sub j M' k2
   rw[k3]at h3;rw[k4]at h4;cases h3;cases h4
   exact hV.inj i j b d _ _ e1 e1' k1 k2 h5
 ·rcases h.news id L h1 h2 with hk|⟨i,b,M,hi,hgi,hM,e⟩
  ·exact Or.inl hk
  ·exact Or.inr ⟨i,b,M,Nat.le_trans hf hi,hg i b hgi,hM,e⟩
 ·rcases hV' id b e with e|⟨e1,e2⟩
  ·rcases h.old id b e with⟨d,hd⟩|hn
   ·exact Or.inl ⟨d,hg id d hd⟩
   ·exact Or.inr hn
  ·exact Or.inl ⟨b,e1⟩
/-! the sI -/
structure qx (nt:Nat)(df:List Deferred)(β:bS)(sl:Tr AV)(a:Act):Prop where
 size:a.tmps.size=nt
 defers:a.defers=df
 at_: ∀t,VR β (slot sl t) (a.tmps.getD t undef)
theorem qx.mono {nt:Nat}{df:List Deferred}{β β':bS}{sl:Tr AV}{a:Act}(h:qx nt df β sl a)(hs:Sub β β'):qx nt df β' sl a:=⟨h.size,h.defers,fun t=>VR.mono hs _ _ (h.at_ t)⟩
theorem lS {sl:Tr AV}{d t:Nat}{v:AV}(hd:d<d+1):slot (Tr.set depth sl d v) t=if d=t then v else slot sl t:=by
 unfold slot
 rw[bM _ _ _ _ hd]
 by_cases e:d=t
 ·rw[if_pos e,if_pos e]
 ·rw[if_neg e,if_neg e]
theorem vD {a:Act}{d t:Nat}{v:Value}(hd:d<a.tmps.size):(a.put (some d) v).tmps.getD t undef=if d=t then v else a.tmps.getD t undef:=by
 simp only[Act.put,Array.getD_eq_getD_getElem?,Array.getElem?_setIfInBounds]
 by_cases e:d=t
 ·subst e;simp[hd]
 ·simp[e]
theorem CG {a:Act}{d:Option Nat}{v:Value}:(a.put d v).tmps.size=a.tmps.size:=by cases d<;>simp[Act.put]
theorem put_defers {a:Act}{d:Option Nat}{v:Value}:(a.put d v).defers=a.defers:=by cases d<;>simp[Act.put]
theorem qx.put {nt:Nat}{df:List Deferred}{β:bS}{sl:Tr AV}{a:Act}{d:Nat}{v:AV}{u:Value}(h:qx nt df β sl a)(hd:d<nt)(hnt:nt<=1000000)(hv:VR β v u):qx nt df β (Tr.set depth sl d v) (a.put (some d) u):=by
 refine⟨CG.trans h.size,put_defers.trans h.defers,fun t=>?_⟩
 rw[lS (by omega),vD (by rw[h.size];exact hd)]
 by_cases e:d=t
 ·rw[if_pos e,if_pos e];exact hv
 ·rw[if_neg e,if_neg e];exact h.at_ t
theorem qx.eval {nt:Nat}{df:List Deferred}{β:bS}{sl:Tr AV}{a:Act}{ng:Nat}(h:qx nt df β sl a)(hc: ∀v x,Qu v=some x->VR β x v)(hg:GB ng β){y:Operand}{x:XV}(hx:cV y=some x)(hy: ∀g,y= .global g->g<ng):VR β (bG sl x) (a.eval y):=by
 cases y with
 |tmp t=>simp[cV]at hx;subst hx;exact h.at_ t
 |const v=>
  simp only[cV,Option.map_eq_some_iff]at hx
  obtain⟨z,h1,rfl⟩:=hx
  exact hc v z h1
 |global g=>
  simp[cV]at hx;subst hx
  obtain⟨s,e⟩:=hg g (hy g rfl)
  simp only[bG,Act.eval,VR]
  exact⟨_,e,rfl⟩
 |func f=>
  simp[cV]at hx;subst hx
  simp only[bG,Act.eval,VR,bh]
  exact⟨#[],rfl,rfl⟩
theorem CH {β:bS}{v:Value}{x:AV}(h:sC v=some x):VR β x v:=by
 unfold sC at h
 split at h<;>first|(cases h;done)|skip
 all_goals first
  |(simp only[Option.some.injEq]at h;subst h;simp[VR];done)
  |skip
 split at h
 ·rename_i f first caps hh
  simp only[Bool.and_eq_true,Array.isEmpty_iff]at hh
  obtain⟨h1,h2⟩:=hh
  subst h1 h2
  cases h
  simp[VR,bh]
 ·cases h
theorem rH {β:bS}: ∀(l:List Value) (xs:List AV),l.mapM sC=some xs->bh β xs l
 |[],xs,h=>by simp at h;subst h;simp[bh]
 |y::l,xs,h=>by
  simp only[List.mapM_cons,Option.bind_eq_bind,Option.bind_eq_some_iff,Option.pure_def,Option.some.injEq]at h
  obtain⟨x,h1,xs',h2,rfl⟩:=h
  simp only[bh]
  exact⟨_,_,rfl,CH h1,rH l xs' h2⟩
theorem KK {β:bS}{v:Value}{x:AV}(h:Qu v=some x):VR β x v:=by
 unfold Qu at h
 split at h
 ·simp only[Option.map_eq_some_iff]at h
  obtain⟨xs,h1,rfl⟩:=h
  simp only[VR]
  exact⟨_,rfl,rH _ _ h1⟩
 ·simp only[Option.map_eq_some_iff]at h
  obtain⟨xs,h1,rfl⟩:=h
  simp only[VR]
  exact⟨_,rfl,rH _ _ h1⟩
 ·exact CH h
structure TF (c:C)(m:Nat)(hs:Nat->H)(sls:Nat->Tr AV)(vs:Nat->AV)(cs:Nat->C)(pre:Nat->Nat->Prop)(looks writes:Nat->Nat->Prop):Prop where
 le: ∀j,j<m->(hs j).n<=(hs (j+1)).n
 wf: ∀j,j<=m->WF (hs j)
 sE: ∀j,j<m-> ∀id,id<(hs j).n->Tr.get (hs (j+1)).t id=Tr.get (hs j).t id\/seen (cs j).cd id=true
 back: ∀j i,pre j i->i<j
 apart: ∀i j,i<m->j<m->i≠j-> ¬pre j i-> ¬pre i j-> ∀id,id<(hs j).n->id<(hs i).n->Tr.get (hs (j+1)).t id≠Tr.get (hs j).t id->seen (cs i).cd id=true->False
 sI: ∀j i t,j<m->i<m->looks j t->writes i t->i≠j->(i<j->pre j i)/\(j<i->pre i j)
 own: ∀j t,writes j t->looks j t
 wrote: ∀j t,j<m->writes j t->slot (sls (j+1)) t=vs j
 kept: ∀j t,j<m-> ¬writes j t->slot (sls (j+1)) t=slot (sls j) t
 low: ∀j,j<m->c.floor<=(cs j).floor/\(cs j).floor<=(hs j).n
 EL: ∀j,j<m-> ∀id,seen (cs j).cd id=true->(hs j).n<=id\/(seen c.cd id=true/\id<(hs 0).n)\/ ∃i,i<j/\pre j i/\(hs i).n<=id/\id<(hs (i+1)).n
 CI: ∀j,j<m-> ∀id,(hs j).n<=id->id<(hs (j+1)).n->seen (cs j).cd id=true
section
variable {c:C}{m:Nat}{hs:Nat->H}{sls:Nat->Tr AV}{vs:Nat->AV}{cs:Nat->C}{pre:Nat->Nat->Prop}{looks writes:Nat->Nat->Prop}
theorem TF.mono (F:TF c m hs sls vs cs pre looks writes): ∀(d i:Nat),i+d<=m->(hs i).n<=(hs (i+d)).n
 |0,i,_=>Nat.le_refl _
 |d+1,i,h=>Nat.le_trans (F.mono d i om) (F.le (i+d) om)
theorem TF.gd (F:TF c m hs sls vs cs pre looks writes){i j:Nat}(h:i<=j)(hj:j<=m):(hs i).n<=(hs j).n:=by
 have:=F.mono (j-i) i om
 rwa [show i+(j-i)=j by omega]at this
theorem TF.same (F:TF c m hs sls vs cs pre looks writes){i id:Nat}(hid:id<(hs i).n): ∀(d:Nat),i+d<=m->(∀k,i<=k->k<i+d->Tr.get (hs (k+1)).t id≠Tr.get (hs k).t id->False)->Tr.get (hs (i+d)).t id=Tr.get (hs i).t id
 |0,_,_=>rfl
 |d+1,h,hb=>by
  have e:=F.same hid d om (fun k h1 h2=>hb k h1 om)
  by_cases q:Tr.get (hs (i+d+1)).t id=Tr.get (hs (i+d)).t id
  ·exact q.trans e
  ·exact(hb (i+d) om om q).elim
theorem TF.KL (F:TF c m hs sls vs cs pre looks writes){i j id:Nat}(h:i<=j)(hj:j<=m)(hid:id<(hs i).n)(hb: ∀k,i<=k->k<j->Tr.get (hs (k+1)).t id≠Tr.get (hs k).t id->False):Tr.get (hs j).t id=Tr.get (hs i).t id:=by
 have:=F.same (i:=i) hid (j-i) om (fun k h1 h2=>hb k h1 om)
 rwa [show i+(j-i)=j by omega]at this
theorem TF.owner (F:TF c m hs sls vs cs pre looks writes){i id:Nat}: ∀(d:Nat),i+d<=m->(hs i).n<=id->id<(hs (i+d)).n-> ∃k,i<=k/\k<i+d/\(hs k).n<=id/\id<(hs (k+1)).n
 |0,_,h1,h2=>absurd h2 (by simp;exact h1)
 |d+1,h,h1,h2=>by
  rcases Nat.lt_or_ge id (hs (i+d)).n with x|x
  ·obtain⟨k,a,b,e⟩:=F.owner d om h1 x
   exact⟨k,a,om,e⟩
  ·exact⟨i+d,om,om,x,h2⟩
theorem TF.QA (F:TF c m hs sls vs cs pre looks writes){i j id:Nat}(hi:i<m)(hj:j<m)(h1:(hs i).n<=id)(h2:id<(hs (i+1)).n)(h3:(hs j).n<=id)(h4:id<(hs (j+1)).n):i=j:=by
 rcases Nat.lt_trichotomy i j with x|x|x
 ·have:=F.gd (i:=i+1) (j:=j) om om;omega
 ·exact x
 ·have:=F.gd (i:=j+1) (j:=i) om om;omega
theorem TF.EM (F:TF c m hs sls vs cs pre looks writes){i t:Nat}: ∀(d:Nat),i+d<=m->(∀k,i<=k->k<i+d-> ¬writes k t)->slot (sls (i+d)) t=slot (sls i) t
 |0,_,_=>rfl
 |d+1,h,hk=>(F.kept (i+d) t om (hk _ om om)).trans (F.EM d om fun k h1 h2=>hk k h1 om)
structure Inv (dr:Prop)(F:TF c m hs sls vs cs pre looks writes)(nt:Nat)(df:List Deferred)(N:Nat)(β0:bS)(w0:World)(X:Nat->Prop)(β:bS)(a:Act)(w:World):Prop where
 sW: ∀i,X i->i<m
 dc: ∀i p,X i->pre i p->X p
 heap: ∃V,ca dr c.floor (hs 0).n N β0 (view c (hs 0)) w0 β V w/\ ∀j,j<=m-> ¬X j-> ∀id b,(j<m->seen (cs j).cd id=true)->view c (hs j) id=some b->
  (∃i,i<m/\ ¬X i/\(hs i).n<=id/\id<(hs (i+1)).n)\/(∃i,i<j/\i<m/\ ¬X i/\id<(hs i).n/\Tr.get (hs (i+1)).t id≠Tr.get (hs i).t id)\/V id=some b
 VG: ∀id L,β id=some L->β0 id=none-> ∃i,X i/\(hs i).n<=id/\id<(hs (i+1)).n
 sl: ∀j,j<=m-> ¬X j-> ∀t,(j<m->looks j t)->(∃i,i<j/\i<m/\ ¬X i/\writes i t)\/VR β (slot (sls j) t) (a.tmps.getD t undef)
 size:a.tmps.size=nt
 defers:a.defers=df
variable {F:TF c m hs sls vs cs pre looks writes}{nt:Nat}{df:List Deferred}{N:Nat}{β0:bS}{w0:World}{X:Nat->Prop}{β:bS}{a:Act}{w:World}
theorem dg {c:C}{h:H}{id:Nat}{b:AB}(e:view c h id=some b):Tr.get h.t id=some b/\seen c.cd id=true:=bN (dV e)
theorem rI {c d:C}{h k:H}{id:Nat}(e:Tr.get h.t id=Tr.get k.t id)(h1:seen c.cd id=true)(h2:seen d.cd id=true):view c h id=view d k id:=by
 unfold view cr;rw[h1,h2,e]
theorem Ih {c:C}{h:H}{id:Nat}(h1:seen c.cd id=false):view c h id=none:=by
 unfold view cr;rw[h1];rfl
theorem Inv.runs (I:Inv dr F nt df N β0 w0 X β a w)(hc:Ctx c (hs 0)){j:Nat}(hj:j<m)(hX: ¬X j)(hp: ∀p,pre j p->X p)(hfr: ∀id,(hs 0).n<=id->id<(hs m).n->β0 id=none):
    HR (cs j).floor β (view (cs j) (hs j)) w/\(∀t,looks j t->VR β (slot (sls j) t) (a.tmps.getD t undef))/\(∀id,(hs j).n<=id->id<(hs (j+1)).n->β id=none)/\
    ∃V,ca dr c.floor (hs 0).n N β0 (view c (hs 0)) w0 β V w/\(∀id b,view (cs j) (hs j) id=some b->V id=some b)/\ ∀j,j<=m-> ¬X j-> ∀id b,(j<m->seen (cs j).cd id=true)->view c (hs j) id=some b->
    (∃i,i<m/\ ¬X i/\(hs i).n<=id/\id<(hs (i+1)).n)\/(∃i,i<j/\i<m/\ ¬X i/\id<(hs i).n/\Tr.get (hs (i+1)).t id≠Tr.get (hs i).t id)\/V id=some b:=by
 obtain⟨V,hP,hV⟩:=I.heap
 have hsub: ∀id b,view (cs j) (hs j) id=some b->V id=some b:=fun id b e=>by
  obtain⟨e1,e2⟩:=dg e
  have hlt:=db (F.wf j om) e1
  have hsm:=(F.wf j om).small
  have h0:(hs 0).n<=(hs j).n:=F.gd om om
  have hseen:seen c.cd id=true/\(∀i,i<m-> ¬X i->(hs i).n<=id->id<(hs (i+1)).n->False):=by
   rcases F.EL j hj id e2 with q|⟨q1,q2⟩|⟨i,q1,q2,q3,q4⟩
   ·omega
   ·refine⟨q1,fun i hi _ h1 _=>?_⟩
    have:=F.gd (i:=0) (j:=i) om om;omega
   ·refine⟨hc.cd id ?_,fun k hk hkX h1 h2=>?_⟩
    ·have:=F.gd (i:=0) (j:=i) om om;omega
    ·have:=F.QA om hk q3 q4 h1 h2
     subst this;exact hkX (hp _ q2)
  have e3:view c (hs j) id=some b:=(rI rfl hseen.1 e2).trans e
  rcases hV j om hX id b (fun _=>e2) e3 with⟨i,h1,h2,h3,h4⟩|⟨i,h1,h2,h3,h4,h5⟩|h
  ·exact(hseen.2 i h1 h2 h3 h4).elim
  ·exact(F.apart j i hj h2 om (fun q=>by have:=F.back _ _ q;omega) (fun q=>h3 (hp i q)) id h4 hlt h5 e2).elim
  ·exact h
 refine⟨(hP.hr.sub hsub).up (F.low j hj).1,fun t ht=>?_,fun id h1 h2=>?_,V,hP,hsub,hV⟩
 ·rcases I.sl j om hX t (fun _=>ht)with⟨i,h1,h2,h3,h4⟩|h
  ·exact absurd (hp i ((F.sI j i t hj h2 ht h4 om).1 h1)) h3
  ·exact h
 ·cases hb:β id with
  |none=>rfl
  |some L=>
   have q1:=F.gd (i:=0) (j:=j) om om
   have q2:=F.gd (i:=j+1) (j:=m) om om
   obtain⟨i,h3,h4,h5⟩:=I.VG id L hb (hfr id om om)
   have:=F.QA (I.sW i h3) hj h4 h5 h1 h2
   subst this;exact absurd h3 hX
theorem Inv.step (I:Inv dr F nt df N β0 w0 X β a w)(hc:Ctx c (hs 0)){j:Nat}(hj:j<m)(hX: ¬X j)(hp: ∀p,pre j p->X p)(hfr: ∀id,(hs 0).n<=id->id<(hs m).n->β0 id=none)(hN:(hs m).n<=N)
    {β':bS} {w':World} {a':Act} (hPo:ca dr (cs j).floor (hs j).n (hs (j+1)).n β (view (cs j) (hs j)) w β' (view (cs j) (hs (j+1))) w')
    (ha1:a'.tmps.size=nt) (ha2:a'.defers=df) (ha3: ∀t,writes j t->VR β' (vs j) (a'.tmps.getD t undef)) (ha4: ∀t,¬writes j t->a'.tmps.getD t undef=a.tmps.getD t undef):
    Inv dr F nt df N β0 w0 (fun i=>X i\/i=j) β' a' w':=by
 obtain⟨_,_,_,V,hP,hsub,hV⟩:=I.runs hc hj hX hp hfr
 have q0:=F.gd (i:=0) (j:=j) om om
 have q1:=F.gd (i:=j+1) (j:=m) om om
 have q2:=F.le j hj
 have wfj:=F.wf j om
 have wfj1:=F.wf (j+1) om
 let V':View:=fun id=>if seen (cs j).cd id=true/\id<(hs (j+1)).n then view (cs j) (hs (j+1)) id else V id
 have hV': ∀id b,V' id=some b->view (cs j) (hs (j+1)) id=some b\/(V id=some b/\view (cs j) (hs j) id=none):=fun id b e=>by
  simp only[V']at e
  split at e
  ·exact Or.inl e
  ·rename_i hn
   refine Or.inr ⟨e,?_⟩
   cases hs1:seen (cs j).cd id with
   |false=>exact Ih hs1
   |true=>
    have: ¬id<(hs (j+1)).n:=fun x=>hn ⟨hs1,x⟩
    cases hg:view (cs j) (hs j) id with
    |none=>rfl
    |some b'=>
     have:=db wfj (dg hg).1
     omega
 have hw:=hPo.wide (f0:=c.floor) (m:=(hs 0).n) (m':=N) (V:=V) (V':=V') hP.hr hsub (F.low j hj).1 (F.low j hj).2 q0 om hV'
 refine⟨fun i h=>by rcases h with h|h;exact I.sW i h;omega,fun i p h hpr=>?_,⟨V',hP.Qz hw (Nat.le_refl _) (Nat.le_refl _),fun j' hj' hX' id b hsee e=>?_⟩,fun id L h1 h2=>?_,fun j' hj' hX' t ht=>?_,ha1,ha2⟩
 ·rcases h with h|h
  ·exact Or.inl (I.dc i p h hpr)
  ·subst h;exact Or.inl (hp p hpr)
 ·have hX1: ¬X j':=fun x=>hX' (Or.inl x)
  have hne:j'≠j:=fun x=>hX' (Or.inr x)
  by_cases c1: ∃i,i<m/\ ¬(X i\/i=j)/\(hs i).n<=id/\id<(hs (i+1)).n
  ·exact Or.inl c1
  by_cases c2: ∃i,i<j'/\i<m/\ ¬(X i\/i=j)/\id<(hs i).n/\Tr.get (hs (i+1)).t id≠Tr.get (hs i).t id
  ·exact Or.inr (Or.inl c2)
  refine Or.inr (Or.inr ?_)
  have hbars: ∀i,i<j'->i<m->id<(hs i).n->Tr.get (hs (i+1)).t id≠Tr.get (hs i).t id->X i\/i=j:=fun i h1 h2 h3 h5=>Classical.byContradiction fun h4=>c2 ⟨i,h1,h2,h4,h3,h5⟩
  have hrng: ∀i,i<m->(hs i).n<=id->id<(hs (i+1)).n->X i\/i=j:=fun i h1 h2 h3=>Classical.byContradiction fun h4=>c1 ⟨i,h1,h4,h2,h3⟩
  obtain⟨e1,e2⟩:=dg e
  have wfj':=F.wf j' hj'
  have hlt:=db wfj' e1
  have three:=hV j' hj' hX1 id b hsee e
  by_cases hcase:seen (cs j).cd id=true/\id<(hs (j+1)).n
  ·have hVV:V' id=view (cs j) (hs (j+1)) id:=by simp only[V'];rw[if_pos hcase]
   rw[hVV]
   have key:Tr.get (hs (j+1)).t id=Tr.get (hs j').t id:=by
    rcases Nat.lt_or_ge j' j with x|x
    ·have hsj':=hsee om
     have hl':=F.gd (i:=j') (j:=j) om om
     refine F.KL om om hlt fun k h1 h2 hd=>?_
     have hidk:id<(hs k).n:=Nat.lt_of_lt_of_le hlt (F.gd om om)
     by_cases hk2:k=j'
     ·subst hk2
      exact F.apart j k hj om om (fun q=>by have:=F.back _ _ q;omega) (fun q=>hX1 (hp k q)) id hidk om hd hcase.1
     ·by_cases hk:k=j
      ·subst hk
       exact F.apart j' k om hj om (fun q=>hX1 (hp j' q)) (fun q=>by have:=F.back _ _ q;omega) id hidk hlt hd hsj'
      ·by_cases hXk:X k
       ·exact F.apart j' k om om om (fun q=>hX1 (I.dc k j' hXk q)) (fun q=>by have:=F.back _ _ q;omega) id hidk hlt hd hsj'
       ·exact F.apart j k hj om om (fun q=>by have:=F.back _ _ q;omega) (fun q=>hXk (hp k q)) id hidk om hd hcase.1
    ·refine(F.KL (i:=j+1) (j:=j') om hj' hcase.2 fun k h1 h2 hd=>?_).symm
     have hidk:id<(hs k).n:=Nat.lt_of_lt_of_le hcase.2 (F.gd om om)
     have hXk:X k:=by
      rcases hbars k h2 om hidk hd with q|q
      ·exact q
      ·omega
     have hnp: ¬pre k j:=fun q=>hX (I.dc k j hXk q)
     rcases Nat.lt_or_ge id (hs j).n with q|q
     ·exact F.apart j k hj om om hnp (fun q'=>by have:=F.back _ _ q';omega) id hidk q hd hcase.1
     ·rcases F.sE k om id hidk with p|p
      ·exact hd p
      ·rcases F.EL k om id p with p|p|⟨i,p1,p2,p3,p4⟩
       ·omega
       ·have:=F.gd (i:=0) (j:=j) om om;omega
       ·have:=F.QA om hj p3 p4 q hcase.2
        subst this
        exact hnp p2
   exact(rI key hcase.1 e2).trans e
  ·have hVV:V' id=V id:=by simp only[V'];rw[if_neg hcase]
   rw[hVV]
   rcases three with⟨i,h1,h2,h3,h4⟩|⟨i,h1,h2,h3,h4,h5⟩|h
   ·rcases hrng i h1 h3 h4 with y|y
    ·exact absurd y h2
    ·subst y;exact absurd ⟨F.CI i hj id h3 h4,h4⟩ hcase
   ·rcases hbars i h1 h2 h4 h5 with y|y
    ·exact absurd y h3
    ·subst y
     rcases F.sE i hj id h4 with p|p
     ·exact absurd p h5
     ·exact absurd ⟨p,om⟩ hcase
   ·exact h
 ·cases hb:β id with
  |some M=>
   obtain⟨i,h3,h4⟩:=I.VG id M hb h2
   exact⟨i,Or.inl h3,h4⟩
  |none=>exact⟨j,Or.inr rfl,hPo.fresh id L h1 hb⟩
 ·have hX1: ¬X j':=fun x=>hX' (Or.inl x)
  have hne:j'≠j:=fun x=>hX' (Or.inr x)
  by_cases c1: ∃i,i<j'/\i<m/\ ¬(X i\/i=j)/\writes i t
  ·exact Or.inl c1
  refine Or.inr ?_
  have hall: ∀i,i<j'->i<m->writes i t->X i\/i=j:=fun i h1 h2 h3=>Classical.byContradiction fun h4=>c1 ⟨i,h1,h2,h4,h3⟩
  have bj: ∀hwt:writes j t,j<j':=fun hwt=>by
   rcases Nat.lt_or_ge j j' with y|y
   ·exact y
   ·exact absurd (hp j' ((F.sI j j' t hj om (F.own j t hwt) (by
      have:=ht om
      exact Classical.byContradiction fun hnw=>absurd (hp j' ((F.sI j' j t om hj this hwt om).2 om)) hX1) hne).1 om)) hX1
  by_cases hwt:writes j t
  ·have hlt:=bj hwt
   have e:slot (sls j') t=vs j:=by
    have:=F.EM (i:=j+1) (t:=t) (j'-(j+1)) om (fun k h1 h2 hwk=>by
     rcases hall k om om hwk with y|y
     ·exact absurd (I.dc k j y ((F.sI k j t om hj (F.own k t hwk) hwt om).1 om)) hX
     ·omega)
    rw[show j+1+(j'-(j+1))=j' by omega]at this
    exact this.trans (F.wrote j t hj hwt)
   rw[e];exact ha3 t hwt
  ·rw[ha4 t hwt]
   rcases I.sl j' hj' hX1 t ht with⟨i,h1,h2,h3,h4⟩|h
   ·rcases hall i h1 h2 h4 with y|y
    ·exact absurd y h3
    ·subst y;exact absurd h4 hwt
   ·exact VR.mono hPo.sub _ _ h
end
end Go.Proofs.YtemehfgkfidgjaaGreatDoor.Ev
