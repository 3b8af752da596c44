/- CoverStates, part 27 -/
import Derived.Test.YtemehfgkfidgjaaGreatDoorPvI
set_option linter.all false
namespace Go.Proofs.YtemehfgkfidgjaaGreatDoor.Ev
open Go
def MG (h:H)(β:bS):Prop:= ∀id,h.n<=id->β id=none
theorem MG.next {dr:Prop}{h h1:H}{β β1:bS}{g g1:View}{w w1:World}{f:Nat}(hf:MG h β)(hP:ca dr f h.n h1.n β g w β1 g1 w1):MG h1 β1:=fun id q=>by
 cases hb:β1 id with
 |none=>rfl
 |some L=>
  have h0:=hf id (Nat.le_trans hP.le q)
  have:=hP.fresh id L hb h0
  omega
section
variable (dr:Prop)(P:Program)(ng nt:Nat)
structure CA (x:Code)(c:C)(sl:Tr AV)(h:H)(Q:Ex->Tr AV->H->Prop):Prop where
 run:WF h->Ctx c h-> ∀β a w,GB ng β->HR c.floor β (view c h) w->qx nt [] β sl a->MG h β-> ∀R:Exit->Act->World->Prop,
  (∀e sl' h' β' a' w',Q e sl' h'->Step c h h'->ca dr c.floor h.n h'.n β (view c h) w β' (view c h') w'->qx nt [] β' sl' a'->R e.oq a' w')->wC (W none) 0 P x R a w
structure OA (o:Oper)(c:C)(sl:Tr AV)(h:H)(K:AV->H->Prop):Prop where
 run:WF h->Ctx c h-> ∀β a w,GB ng β->HR c.floor β (view c h) w->qx nt [] β sl a->MG h β-> ∀(T:Act->World->Prop) (Q:Exit->Act->World->Prop),
  (∀v h' β' val w',K v h'->Step c h h'->ca dr c.floor h.n h'.n β (view c h) w β' (view c h') w'->VR β' v val->T (a.put o.dst val) w')->Oper.wpIn (W none) 0 P o a w T Q
structure FA (f:Nat)(args:List AV)(c:C)(h:H)(K:AV->H->Prop):Prop where
 fn: ∃fn,P.funcs[f]? =some fn/\fn.body.isNone=false/\(fn.name== "runtime.NumGoroutine")=false
 run:WF h->Ctx c h-> ∀β w cargs,GB ng β->HR c.floor β (view c h) w->bh β args cargs->MG h β-> ∀R:Ending->World->Prop,
  (∀v h' β' val w',K v h'->Step c h h'->ca dr c.floor h.n h'.n β (view c h) w β' (view c h') w'->VR β' v val->R (.returned val) w')->Calls P f cargs.toArray w R
end
section
variable {dr:Prop}{P:Program}{ng nt:Nat}{c:C}{sl:Tr AV}{h:H}{Q:Ex->Tr AV->H->Prop}
theorem CA.mono {x:Code}{Q':Ex->Tr AV->H->Prop}(w:CA dr P ng nt x c sl h Q)(hq: ∀e sl h,Q e sl h->Q' e sl h):CA dr P ng nt x c sl h Q':=⟨fun hw hc β a w0 hgb hr hsl hfr R hR=>w.run hw hc β a w0 hgb hr hsl hfr R fun e sl' h' β' a' w' q=>hR e sl' h' β' a' w' (hq _ _ _ q)⟩
theorem FA.mono {f:Nat}{args:List AV}{K K':AV->H->Prop}(w:FA dr P ng f args c h K)(hk: ∀v h,K v h->K' v h):FA dr P ng f args c h K':=⟨w.fn,fun hw hc β w0 cargs hgb hr hv hfr R hR=>w.run hw hc β w0 cargs hgb hr hv hfr R fun v h' β' val w' q=>hR v h' β' val w' (hk _ _ q)⟩
theorem Q7 {x:Code}{e:Ex}{sl':Tr AV}{h':H}(d:bT dr P ng nt false x c sl [] h e sl' [] h')(q:Q e sl' h'):CA dr P ng nt x c sl h Q:=⟨fun hw hc β a w0 hgb hr hsl hfr R hR=>
 d.2 β a w0 [] hgb hr rfl hsl (fun id q1 _=>hfr id q1) none 0 (fun _=>rfl) R fun β' a' w' df' hP hd hs=>by
  have:df'=[]:=hd
  subst this
  exact hR e sl' h' β' a' w' q d.1 hP hs⟩
theorem Q8 {x y:Code}(w:CA dr P ng nt x c sl h (fun e sl1 h1=>match e with
    | .normal=>CA dr P ng nt y c sl1 h1 Q
    |e=>Q e sl1 h1)):CA dr P ng nt (.seq x y) c sl h Q:=⟨fun hw hc β a w0 hgb hr hsl hfr R hR=>by
 show(Code.seq x y).wpIn (W none) 0 P R a w0
 refine wpIn_seq (wC.wp (w.run hw hc β a w0 hgb hr hsl hfr _ fun e sl1 h1 β1 a1 w1 q st hP hs=>?_))
 cases e with
 |normal=>exact wC.wp (q.run st.wf (hc.mono st.le) β1 a1 w1 (hgb.mono hP.sub) hP.hr hs (hfr.next hP) R fun e2 sl2 h2 β2 a2 w2 q2 st2 hP2 hs2=>hR e2 sl2 h2 β2 a2 w2 q2 (st.trans st2) (hP.trans hP2) hs2)
 |exit id=>exact hR _ sl1 h1 β1 a1 w1 q st hP hs
 |ret=>exact hR _ sl1 h1 β1 a1 w1 q st hP hs⟩
theorem Gq {ι:Type}{x:Code}(J:ι->Tr AV->H->Prop)(μ:ι->Nat)(step: ∀i sl h,J i sl h->CA dr P ng nt x c sl h (fun e sl' h'=>match e with
    | .normal=> ∃i',J i' sl' h'/\μ i'<μ i
    |e=>Q e sl' h')): ∀(n:Nat) (i:ι) (sl:Tr AV) (h:H),μ i<n->J i sl h->CA dr P ng nt (.loop x) c sl h Q
 |0,i,sl,h,hn,hj=>absurd hn (by omega)
 |n+1,i,sl,h,hn,hj=>⟨fun hw hc β a w0 hgb hr hsl hfr R hR=>by
  show rL (W none) 0 P x R a w0
  refine lX (wC.wp ((step i sl h hj).run hw hc β a w0 hgb hr hsl hfr _ fun e sl1 h1 β1 a1 w1 q st hP hs=>?_))
  cases e with
  |normal=>
   obtain⟨i',hj',hlt⟩:=q
   exact(Gq J μ step n i' sl1 h1 (by omega) hj').run st.wf (hc.mono st.le) β1 a1 w1 (hgb.mono hP.sub) hP.hr hs (hfr.next hP) R fun e2 sl2 h2 β2 a2 w2 q2 st2 hP2 hs2=>hR e2 sl2 h2 β2 a2 w2 q2 (st.trans st2) (hP.trans hP2) hs2
  |exit id=>exact hR _ sl1 h1 β1 a1 w1 q st hP hs
  |ret=>exact hR _ sl1 h1 β1 a1 w1 q st hP hs⟩
theorem Oc {v:Operand}{xv:XV}{b:Bool}{x y:Code}(hng:P.globals.size<=ng)(hv:cV v=some xv)(hg:Dp P v=true)(hb:bG sl xv= .bool b)(w:CA dr P ng nt (bif b then x else y) c sl h Q):CA dr P ng nt (.cond v x y) c sl h Q:=⟨fun hw hc β a w0 hgb hr hsl hfr R hR=>by
 have k:VR β (bG sl xv) (a.eval v):=my (P:=P) (ys:=[v]) hng hgb (by simp[hg]) (fun t _=>hsl.at_ t) v (by simp) xv hv
 rw[hb]at k;simp only[VR]at k
 show(Code.cond v x y).wpIn (W none) 0 P R a w0
 have d:=wC.wp (w.run hw hc β a w0 hgb hr hsl hfr R hR)
 cases b with
 |true=>exact wpIn_cond_true k d
 |false=>exact wpIn_cond_false k d⟩
theorem LO {id:Nat}{x:Code}(w:CA dr P ng nt x c sl h (fun e sl1 h1=>match e with
    | .exit id'=>bif Nat.beq id' id then Q .normal sl1 h1 else Q (.exit id') sl1 h1
    |e=>Q e sl1 h1)):CA dr P ng nt (.block id x) c sl h Q:=⟨fun hw hc β a w0 hgb hr hsl hfr R hR=>by
 show(Code.block id x).wpIn (W none) 0 P R a w0
 refine wpIn_block (wC.wp (w.run hw hc β a w0 hgb hr hsl hfr _ fun e sl1 h1 β1 a1 w1 q st hP hs=>?_))
 cases e with
 |normal=>exact hR .normal sl1 h1 β1 a1 w1 q st hP hs
 |ret=>exact hR .ret sl1 h1 β1 a1 w1 q st hP hs
 |exit id'=>
  cases hb:Nat.beq id' id with
  |true=>
   dsimp only at q
   rw[hb]at q
   simp only[Ex.oq,Exit.inBlock,if_pos (Nat.eq_of_beq_eq_true hb)]
   exact hR .normal sl1 h1 β1 a1 w1 q st hP hs
  |false=>
   dsimp only at q
   rw[hb]at q
   simp only[Ex.oq,Exit.inBlock,if_neg (fun e:id'=id=>by subst e;simp at hb)]
   exact hR (.exit id') sl1 h1 β1 a1 w1 q st hP hs⟩
/-! regions with one operation of many outcomes -/
theorem range_split (a b:Nat):List.range (a+(b+1))=List.range' 0 a++a::List.range' (a+1) b:=by
 rw[List.range_eq_range',<-List.range'_append_1,Nat.zero_add,List.range'_succ]
theorem E6 {id d:Nat}{ops:Array Oper}{pre post:List Oper}{o:Oper}{call:dS}{sl1:Tr AV}{h1:H}(hops:ops.toList=pre++o::post)(hgd:o.guard=none)(hd:o.dst=some d)(hdn:d<nt)(hO:Cz dr P ng)(hC:fN dr P ng call)(hng:P.globals.size<=ng)(hnt:nt<=1000000)
    (e1:ic c call nt (pre.map (cR P ops 0)) sl h=some (sl1,h1))
    (w:OA dr P ng nt o c sl1 h1 fun v h2=> ∃sl3 h3 call2,fN dr P ng call2/\ic c call2 nt (post.map (cR P ops 0)) (Tr.set depth sl1 d v) h2=some (sl3,h3)/\Q .normal sl3 h3):CA dr P ng nt (.region id ops false) c sl h Q:=⟨fun hw hc β a w0 hgb hr hsl hfr R hR=>by
 have hsz:ops.size=pre.length+(post.length+1):=by
  have:=congrArg List.length hops
  simpa[Nat.add_comm,Nat.add_left_comm,Nat.add_assoc]using this
 have hget: ∀k,ops[k]? =(pre++o::post)[k]? :=fun k=>by rw[<-hops,Array.getElem?_toList]
 have hpre: ∀k,k<pre.length->pre[k]? =ops[0+k]? :=fun k hk=>by rw[hget,Nat.zero_add,List.getElem?_append_left hk]
 have hpost: ∀k,k<post.length->post[k]? =ops[pre.length+1+k]? :=fun k hk=>by
  rw[hget,List.getElem?_append_right (by omega),show pre.length+1+k-pre.length=k+1 by omega,List.getElem?_cons_succ]
 have hoi:ops[pre.length]? =some o:=by rw[hget,List.getElem?_append_right (Nat.le_refl _),Nat.sub_self];rfl
 obtain⟨s1,d1⟩:=fk (df:=[]) (rd:=none) (m:=0) (c:=c) (ops:=ops) (js:=pre.length::List.range' (pre.length+1) post.length) hO hC hng hnt pre 0 sl h (sl1,h1) hpre hw hc e1
 show(Code.region id ops false).wpIn (W none) 0 P R a w0
 refine wpIn_region ?_
 rw[hsz,range_split]
 refine d1 β a w0 hgb hr hsl (fun id q1 _=>hfr id q1) R fun β1 a1 w1 hP1 hs1=>?_
 rw[wpOpsIn_cons]
 unfold wpOpIn
 rw[hoi]
 have hwt:Region.wanted o (yielded ops a1.tmps)=true:=by unfold Region.wanted;rw[hgd]
 simp only[hwt,if_true]
 refine w.run s1.wf (hc.mono s1.le) β1 a1 w1 (hgb.mono hP1.sub) hP1.hr hs1 (hfr.next hP1) _ _ fun v h2 β2 val w2 ⟨sl3,h3,call2,hC2,e3,q⟩ st2 hP2 hv2=>?_
 rw[hd]
 have hs2:qx nt [] β2 (Tr.set depth sl1 d v) (a1.put (some d) val):=(hs1.mono hP2.sub).put hdn hnt hv2
 have hcx:=(hc.mono s1.le).mono st2.le
 obtain⟨s3,d3⟩:=fk (df:=[]) (rd:=none) (m:=0) (c:=c) (ops:=ops) (js:=[]) hO hC2 hng hnt post (pre.length+1) _ h2 (sl3,h3) hpost st2.wf hcx e3
 have hfr2:MG h2 β2:=(hfr.next hP1).next hP2
 have:=d3 β2 _ w2 ((hgb.mono hP1.sub).mono hP2.sub) hP2.hr hs2 (fun id q1 _=>hfr2 id q1) R fun β3 a3 w3 hP3 hs3=>hR .normal sl3 h3 β3 a3 w3 q ((s1.trans st2).trans s3) ((hP1.trans hP2).trans hP3) hs3
 simpa using this⟩
theorem Od {o:Oper}{f:Nat}{ys:Array Operand}{ts:Array TypeId}{xs:List XV}{K:AV->H->Prop}(ho:o.op= .call {callee:= .value (.func f),args:=ys,argTypes:=ts})(hx:ys.toList.mapM cV=some xs)(hg:ys.toList.all (Dp P)=true)(hng:P.globals.size<=ng)
    (w:FA dr P ng f (xs.map (bG sl)) c h K):OA dr P ng nt o c sl h K:=⟨fun hw hc β a w0 hgb hr hsl hfr T Q hT=>by
 have nod: ∀q,o.op≠ .defer q:=fun q=>by rw[ho];exact fun e=>by cases e
 refine⟨fun _ _=>trivial,?_⟩
 have hop:=my (P:=P) (sl:=sl) (a:=a) hng hgb hg fun t _=>hsl.at_ t
 have k2:=p6 (sl:=sl) (β:=β) (a:=a) ys.toList xs hx hop
 obtain⟨fn,f1,f2,f3⟩:=w.fn
 have f3': ¬fn.name= "runtime.NumGoroutine" :=by simpa using f3
 have f2': ¬fn.body=none:=fun q=>by rw[q]at f2;cases f2
 have hrun:(execOp a.eval o).run P w0=(callFunc f (ys.toList.map a.eval).toArray).run P w0:=by
  have e:(ys.toList.map a.eval).toArray=ys.map a.eval:=by apply Array.ext';simp
  rw[e]
  simp[execOp,ho,resolve,Deferred.ofValue,Act.eval,invoke]
 rw[Oper.semAt_eq _ _ _ nod,hrun]
 have hrun2:(callFunc f (ys.toList.map a.eval).toArray).run P w0= .ok (.enter f (ys.toList.map a.eval).toArray) w0:=by simp[callFunc,f1,f2',f3']
 rw[hrun2,Oper.uponIn_enter]
 exact⟨fun q=>(by cases q),j6.2 (w.run hw hc β w0 _ hgb hr k2 hfr _ fun v h' β' val w' q st hP hv=>hT v h' β' val w' q st hP hv)⟩⟩
end
section
open Go.ChangeMaps (setBlock)
structure Sd (dr:Prop)(P:Program)(ng:Nat)(X:cj)(M:Mf):Prop where
 mx:P.follows .mixedOrders=true
 op:Cz dr P ng
 gs:P.globals.size<=ng
 go: ∀(f:Nat) (fn:Func),P.funcs[f]? =some fn->(fn.name== "runtime.NumGoroutine")=false
 ex:yg P X
 mo:da dr P ng M
theorem Sd.ok {dr:Prop}{P:Program}{ng:Nat}{X:cj}{M:Mf}(s:Sd dr P ng X M)(n:Nat):rE dr P ng (ev (cC P) (bJ P X) M n)/\fN dr P ng (eC (ev (cC P) (bJ P X) M n)):=oG s.mx s.op s.gs s.go s.ex s.mo n
section
variable {dr:Prop}{P:Program}{ng nt:Nat}{X:cj}{M:Mf}{c:C}{sl:Tr AV}{h:H}
theorem Tq {x:Code}{s:SC}{env:bo}{Q:Ex->bo->H->Prop}{Q':Ex->Tr AV->H->Prop}(sd:Sd dr P ng X M)(hs:cC P x=s.den)(hnt:nt<=1000000)(hsl:Has sl env)(w:WC P X M c nt s env h Q)(hq: ∀e sl' env' h',Has sl' env'->Q e env' h'->Q' e sl' h'):CA dr P ng nt x c sl h Q':=⟨fun hw hc=>by
 obtain⟨e,sl',h',env',⟨N,hN⟩,h2,h3⟩:=w.run sl hsl
 exact(Q7 ((sd.ok N).1 c nt false x sl [] h e sl' [] h' hnt hc hw (by rw[hs];exact hN N (Nat.le_refl _) false [])) (hq e sl' env' h' h2 h3)).run hw hc⟩
theorem Ts {f:Nat}{fn:Func}{b:Code}{rs:List (Nat×Option (Option Nat))}{args:List AV}{K:AV->H->Prop}(hgo:(fn.name== "runtime.NumGoroutine")=false)(h1:P.funcs[f]? =some fn)(h2:fn.body=some b)(h3:fn.results.toList.mapM (Ac P)=some rs)(hnt:fn.ntmps<=1000000)(hle:args.length<=fn.ntmps)
    (w:CA dr P ng fn.ntmps b c (iV args 0 .nil) h fun e sl1 h1=>(e= .normal\/e= .ret)/\ ∃v,j5 c h1 sl1 rs (fun vs=>gv h1 vs)= .call v h1/\K v h1):FA dr P ng f args c h K:=⟨⟨fn,h1,by rw[h2];rfl,hgo⟩,fun hw hc β w0 cargs hgb hr hv hfr R hR=>by
 refine(j6 (r:=none) (n:=0)).1 (callsIn_of_wp_marks h1 h2 trivial (wC.wp (F:=W none) (w.run hw hc β _ w0 hgb hr (sG hv hle hnt) hfr _ fun e sl1 h1' β1 a1 w1 ⟨he,v,hres,hk⟩ st hP1 hs1=>?_)))
 have leave:LeavesInM (W none) 0 P fn a1.tmps R a1.defers .returning w1:=by
  rw[hs1.defers]
  obtain⟨h2',e2,_,hn2,hshut⟩:=ou (P:=P) (dr:=dr) (c:=c) (r:= .call v h1') (fun q=>by cases q) [] h1' (fun h=>j5 c h sl1 rs fun vs=>gv h vs) st.wf hres
  have hh:h2'=h1':=by
   obtain⟨vs,k1,_⟩:=iW (P:=P) (df:=[]) (nt:=fn.ntmps) (fun q=>by cases q) fn.results.toList rs _ h3 e2
   unfold gv at k1
   split at k1<;>(cases k1;rfl)
  subst hh
  refine hshut β1 w1 [] hP1.hr rfl 0 fn a1.tmps R fun w2 hP2=>?_
  obtain⟨vs',k1',k2⟩:=iW (P:=P) (df:=[]) (nt:=fn.ntmps) (fun q=>by cases q) fn.results.toList rs _ h3 hres
  obtain⟨us,u1,u2,u3⟩:=k2 β1 a1 w2 hP2.hr hs1
  have hrun:=sH (P:=P) u2 u3
  have hvr:VR β1 v (xB us):=by
   cases vs' with
   |nil=>
    simp only[gv]at k1'
    cases k1'
    simp only[bh]at u1;subst u1
    simp[VR,bh,xB]
   |cons v1 vs'=>
    cases vs' with
    |nil=>
     simp only[gv]at k1'
     cases k1'
     simp only[bh]at u1
     obtain⟨u,us',rfl,q1,rfl⟩:=u1
     exact q1
    |cons v2 vs'=>
     simp only[gv]at k1'
     cases k1'
     have u1':=u1
     simp only[bh]at u1
     obtain⟨u,us',rfl,q1,u2',us'',rfl,q2,q3⟩:=u1
     simp only[VR,xB]
     exact⟨_,rfl,by simpa using u1'⟩
  exact⟨_,hrun,hR v h2' β1 _ w2 hk st (hP1.trans hP2) hvr⟩
 rcases he with rfl|rfl
 ·exact leave
 ·exact leave⟩
/-! an iterator's step -/
theorem E7 {β:bS}: ∀{l:List (AV×AV×Nat)} {ces:List MapEntry},ER β l ces-> ∀x∈ces,∃p∈l,VR β p.1 x.key/\VR β p.2.1 x.val/\x.born=p.2.2
 |[],ces,h,x,hx=>by
  have:ces=[]:=h
  subst this;cases hx
 |y::l,ces,h,x,hx=>by
  obtain⟨e,es',rfl,h1,h2,h3,h4⟩:=h
  rcases List.mem_cons.1 hx with rfl|hx
  ·exact⟨y,List.mem_cons_self,h1,h2,h3⟩
  ·obtain⟨p,q1,q2⟩:=E7 h4 x hx
   exact⟨p,List.mem_cons_of_mem _ q1,q2⟩
theorem Gr {β:bS}: ∀{l:List (AV×AV×Nat)} {ces:List MapEntry},ER β l ces-> ∀p∈l,∃x∈ces,x.born=p.2.2
 |[],ces,h,p,hp=>by cases hp
 |y::l,ces,h,p,hp=>by
  obtain⟨e,es',rfl,h1,h2,h3,h4⟩:=h
  rcases List.mem_cons.1 hp with rfl|hp
  ·exact⟨e,List.mem_cons_self,h3⟩
  ·obtain⟨x,q1,q2⟩:=Gr h4 p hp
   exact⟨x,List.mem_cons_of_mem _ q1,q2⟩
theorem Gs {o:Oper}{y:Operand}{x:XV}{id mid since last clock:Nat}{seen:List Nat}{l:List (AV×AV×Nat)}{K:AV->H->Prop}(ho:o.op= .next y false)(hx:cV y=some x)(hgy:Dp P y=true)(hng:P.globals.size<=ng)(hv:bG sl x= .ptr id 0)(hg:cr c h id=some (.iter (some mid) since seen last))(hgm:cr c h mid=some (.map l clock))
    (hf:c.floor<=id) (hold: ∀p∈l,p.2.2<since) (hsc:since<=last)
    (done:(∀p∈l,p.2.2∈seen)->K (.bn [.bool false]) h)
    (more: ∀p∈l,p.2.2∉seen->K (.bn [.bool true,p.1,p.2.1]) ⟨Tr.set depth h.t id (.iter (some mid) since (seen++[p.2.2]) clock),h.n⟩):OA dr P ng nt o c sl h K:=⟨fun hw hc β a w hgb hr hsl hfr T Q hT=>by
 have k1:=my (P:=P) (sl:=sl) (a:=a) (ys:=[y]) hng hgb (by simp[hgy]) (fun t _=>hsl.at_ t) y (by simp) x hx
 rw[hv]at k1
 obtain⟨L,om,hL,hLs,hu,hbase,q1,_,q3⟩:=tQ hr k1 hg
 obtain⟨Mm,hM,rfl⟩:=q3 mid rfl
 obtain⟨M',z1,_,ces,z2,z3⟩:=hr.at_ mid _ (eK hgm)
 rw[hM]at z1;cases z1
 unfold Oper.wpIn
 refine⟨by simp[Oper.about,ho],?_⟩
 rw[Oper.semAt_eq _ _ _ (fun q=>by rw[ho];exact fun e=>by cases e)]
 rcases run_next_at (P:=P) w o.type L.blk Mm.blk since last seen.toArray ces clock q1 z2 (fun x hx=>by
  obtain⟨p,p1,_,_,p2⟩:=E7 z3 x hx
  rw[p2];exact hold p p1) hsc with⟨h0,hrun⟩|⟨e,he,w1,hal,hrun⟩
 ·simp[execOp,ho,hu,hrun,Result.andThen]
  refine hT _ h β _ w (done fun p hp=>?_) (Step.refl hw) (ca.refl hr) (by simp[VR,bh])
  obtain⟨x,x1,x2⟩:=Gr z3 p hp
  refine Classical.byContradiction fun hn=>?_
  have:x∈(leftOf ces seen.toArray).toList:=by
   unfold leftOf
   simp
   refine⟨by simpa using x1,?_⟩
   rw[x2];exact hn
  have h0':(leftOf ces seen.toArray).toList.length=0:=by simpa using h0
  rw[List.length_eq_zero_iff.1 h0']at this
  cases this
 ·simp[execOp,ho,hu,hrun,Result.andThen]
  have he':e∈ces.toList/\e.born∉seen:=by
   unfold leftOf at he
   simp at he
   exact⟨by simpa using he.1,by simpa using he.2⟩
  obtain⟨p,p1,v1,v2,v3⟩:=E7 z3 e he'.1
  obtain⟨g1,g2⟩:=bN hg
  have hid:id<id+1:=Nat.lt_succ_self _
  have e1:w1.heap=w.heap/\w1.os=w.os/\w1.tape=w.tape/\w1.output=w.output/\w.drawn<=w1.drawn:=by
   rcases hal with rfl|rfl
   ·exact⟨rfl,rfl,rfl,rfl,Nat.le_refl _⟩
   ·exact⟨rfl,rfl,rfl,rfl,Nat.le_succ _⟩
  obtain⟨y1,y2,y3,y4,y5⟩:=e1
  have y6:(setBlock w1 L.blk (.mapIter (some Mm.blk) since (seen++[e.born]).toArray clock)).heap=w.heap.setIfInBounds L.blk (.mapIter (some Mm.blk) since (seen++[e.born]).toArray clock):=by
   show w1.heap.setIfInBounds L.blk _=_
   rw[y1]
  refine hT _ _ β _ _ (more p p1 (by rw[<-v3];exact he'.2)) (eJ hw g1 hf g2) (gw (b:= .iter (some mid) since (seen++[p.2.2]) clock) hr (fi hg (fun q=>by cases q)) hL hf (fun B hB=>by rw[y6];simp[Array.getElem?_setIfInBounds_ne (Ne.symm hB)]) (by rw[y6];simp) y2 ⟨y3,fun _=>y5⟩ y4 ⟨some Mm.blk,by rw[y6,<-v3];simp[hLs],hbase,fun q=>(by cases q),fun i hi=>by cases hi;exact⟨Mm,hM,rfl⟩⟩ (fun j d e=>fM hid e)) ?_
  simp only[VR]
  exact⟨_,rfl,by simp only[bh,VR];exact⟨_,_,rfl,rfl,_,_,rfl,v1,_,_,rfl,v2,rfl⟩⟩⟩
end
end
section
variable [Gb]
section
variable {P:Program}{X:cj}{M:Mf}{nt d:Nat}{G:aK}{S:aJ}{K:PV->aJ->Prop}
theorem JK {x key y:XV}{k:Int}{p id ck:Nat}{l:List (Int×PV×Nat)}{v:PV}(hk:K (.bn []) ((p,some id,.dA (l++[(k,v,ck)]) (ck+1))::S))(hn:dn l k=none)(hx:bx G x=some (.gC p id):=by exact rfl)(hS:aC S p=some (some id,.dA l ck):=by exact rfl)(hkey:bx G key=some (.int .i64 k):=by exact rfl)(hy:bx G y=some v:=by exact rfl):PO P X M d (.fe (.b .int) x key y) G S K:=⟨fun c h F env s r=>by
 obtain⟨a,e1,q1⟩:=r.ev hx
 have e2:=E9 hkey h F env r
 obtain⟨u,e3,q3⟩:=r.ev hy
 cases q1
 obtain⟨g1,g2,g3,ab,g4,g5⟩:=s.at_ hS (fun q=>by cases q)
 cases g5 with
 |dA _ la _ w0 w1 w2=>
  obtain⟨i1,i2⟩:=vZ w1 w2
  have hfa:eY (κ:=KT 1) k la=none:=(i1 k).2 hn
  have hfind:=kb (ky:=mF 1) (eq:=SQ.den (.b .int)) (iw 1) k la 0
  rw[hfa]at hfind
  have e:lj (mF 1) la++[(mF 1 k,u,ck)]=lj (mF 1) (la++[((k:KT 1),u,ck)]):=by simp[lj]
  obtain⟨s1,x1⟩:=s.put hS (fun q=>by cases q) (RB.dA (l++[(k,v,ck)]) (la++[((k:Int),u,ck)]) (ck+1) (LP hfa w0) (by rw[List.map_append,List.map_append,w1];rfl) (by rw[List.map_append,List.map_append];exact w2.app (.cons _ _ _ _ q3 .nil)))
  refine qk e1 e2 e3 (Eq.trans (iw 1 k k) (by simp)) g1 g2 g4 hfind ?_
  rw[e]
  exact⟨_,_,F,x1,s1,.bn _ _ .nil,hk⟩⟩
def jd {α:Type}(k:Int):List (Int×α×Nat)->List (Int×α×Nat)
 |[]=>[]
 |e::l=>if k=e.1 then l else e::jd k l
theorem jL {α:Type}{k:Int}: ∀{l:List (Int×α×Nat)},(jd k l).Sublist l
 |[]=> .slnil
 |e::l=>by
  unfold jd
  split
  ·exact .cons _ (List.Sublist.refl _)
  ·exact .cons_cons _ jL
theorem C4 {k:Int}: ∀{la:List (Int×AV×Nat)} {i:Nat} {v:AV},eY (κ:=KT 1) k la=some (i,v)->la.eraseIdx i=jd k la
 |[],i,v,e=>by cases e
 |p::la,i,v,e=>by
  unfold eY at e
  unfold jd
  by_cases q:k=p.1
  ·rw[if_pos q]at e;cases e
   rw[if_pos q];rfl
  ·rw[if_neg q]at e
   rw[if_neg q]
   cases hf:eY (κ:=KT 1) k la with
   |none=>rw[hf]at e;cases e
   |some y=>
    rw[hf]at e;cases e
    rw[List.eraseIdx_cons_succ,C4 (i:=y.1) (v:=y.2) hf]
theorem C5 {h:H}{F:Nat->Prop}{k:Int}: ∀{l:List (Int×PV×Nat)} {la:List (Int×AV×Nat)},la.map (fun e=>(e.1,e.2.2))=l.map (fun e=>(e.1,e.2.2))->Rs h F (l.map fun e=>e.2.1) (la.map fun e=>e.2.1)->(jd k la).map (fun e=>(e.1,e.2.2))=(jd k l).map (fun e=>(e.1,e.2.2))/\Rs h F ((jd k l).map fun e=>e.2.1) ((jd k la).map fun e=>e.2.1)
 |[],[],_,_=>⟨rfl,.nil⟩
 |[],_::_,e,_=>by simp at e
 |_::_,[],e,_=>by simp at e
 |(a,p,s)::l,(b,x,u)::la,e,r=>by
  simp only[List.map_cons,List.cons.injEq,Prod.mk.injEq]at e
  obtain⟨⟨rfl,rfl⟩,e⟩:=e
  simp only[List.map_cons]at r
  cases r with
  |cons _ _ _ _ r1 r2=>
   unfold jd
   by_cases q:k=b
   ·rw[if_pos q,if_pos q];exact⟨e,r2⟩
   ·rw[if_neg q,if_neg q]
    obtain⟨i1,i2⟩:=C5 (k:=k) e r2
    exact⟨by simp only[List.map_cons,i1],.cons _ _ _ _ r1 i2⟩
theorem Nd.sub {κ:Type}{l l':List (κ×AV×Nat)}{ck:Nat}(h:Nd l ck)(s:l'.Sublist l):Nd l' ck:=⟨h.1.sublist (s.map _),h.2.1.sublist (s.map _),fun p hp=>h.2.2 p (s.subset hp)⟩
theorem yx {κ:Type}{ky:κ->AV}: ∀(l:List (κ×AV×Nat)) (i:Nat),(lj ky l).eraseIdx i=lj ky (l.eraseIdx i)
 |[],i=>rfl
 |p::l,0=>rfl
 |p::l,i+1=>by
  have:=yx (ky:=ky) l i
  simp only[lj,List.map_cons,List.eraseIdx_cons_succ]at this⊢
  rw[this]
theorem MY {x key:XV}{k:Int}{p id ck:Nat}{l:List (Int×PV×Nat)}{v:PV}(hk:K (.bn []) ((p,some id,.dA (jd k l) ck)::S))(hn:dn l k=some v)(hx:bx G x=some (.gC p id):=by exact rfl)(hS:aC S p=some (some id,.dA l ck):=by exact rfl)(hkey:bx G key=some (.int .i64 k):=by exact rfl):PO P X M d (.delete (.b .int) x key) G S K:=⟨fun c h F env s r=>by
 obtain⟨a,e1,q1⟩:=r.ev hx
 have e2:=E9 hkey h F env r
 cases q1
 obtain⟨g1,g2,g3,ab,g4,g5⟩:=s.at_ hS (fun q=>by cases q)
 cases g5 with
 |dA _ la _ w0 w1 w2=>
  obtain⟨i1,i2⟩:=vZ w1 w2
  cases hfa:eY (κ:=KT 1) k la with
  |none=>have:=(i1 k).1 hfa;rw[hn]at this;cases this
  |some y=>
   have hfind:=kb (ky:=mF 1) (eq:=SQ.den (.b .int)) (iw 1) k la 0
   rw[hfa]at hfind
   obtain⟨u1,u2⟩:=C5 (k:=k) w1 w2
   obtain⟨s1,x1⟩:=s.put hS (fun q=>by cases q) (RB.dA (jd k l) (jd k la) ck (w0.sub jL) u1 u2)
   have hfit:(SQ.den (.b .int)) (mF 1 k) (mF 1 k)=some true:=Eq.trans (iw 1 k k) (by simp)
   refine bd (v:= .bn []) (h':=h.put id (.map (lj (mF 1) (jd k la)) ck)) (fun sl hh call k'=>?_) ⟨_,_,F,x1,s1,.bn _ _ .nil,hk⟩
   simp only[SO.den,pU,hh.ev e1,hh.ev e2,z6,hfit,bW g2,g4,hfind,Option.map_some,Nat.zero_add]
   rw[kK g1 g2,yx,C4 (i:=y.1) (v:=y.2) hfa]⟩
/-! iterators -/
theorem mj {x:XV}{p id ck:Nat}{l:List (Int×PV×Nat)}(hk: ∀i,K (.ptr d i 0) ((d,some i,.iter id ck [] ck)::S))(hx:bx G x=some (.gC p id):=by exact rfl)(hS:aC S p=some (some id,.dA l ck):=by exact rfl):PO P X M d (.range x) G S K:=⟨fun c h F env s r=>by
 obtain⟨a,e1,q1⟩:=r.ev hx
 cases q1
 obtain⟨g1,g2,g3,ab,g4,g5⟩:=s.at_ hS (fun q=>by cases q)
 cases g5 with
 |dA _ la _ w0 w1 w2=>
  obtain⟨s1,x1⟩:=s.new d (RB.iter (h:=h) (F:=F) id ck ck [])
  refine bd (v:= .ptr h.n 0) (h':=h.new (.iter (some id) ck [] ck)) (fun sl hh call k'=>?_) ⟨_,_,F,x1,s1,.ptr _ _ _,hk h.n⟩
  simp only[SO.den,ry,hh.ev e1,bW g2,g4,eS (Nat.lt_succ_self _)]⟩
theorem rQ {κ:Type}{ky:κ->AV}{k:κ}{a:AV}{st:Nat}: ∀{l:List (κ×AV×Nat)},(l.map fun p=>p.2.2).Nodup->(k,a,st)∈l->yc st (lj ky l)=some (ky k,a)
 |[],_,h=>by cases h
 |p::l,hn,h=>by
  rw[List.map_cons,List.nodup_cons]at hn
  simp only[lj,List.map_cons,yc]
  rcases List.mem_cons.1 h with q|q
  ·rw[<-q];simp
  ·have:p.2.2≠st:=fun w=>hn.1 (by rw[w];exact List.mem_map.2 ⟨_,q,rfl⟩)
   cases hb:Nat.beq p.2.2 st with
   |true=>exact absurd (Nat.eq_of_beq_eq_true hb) this
   |false=>exact rQ hn.2 q
theorem LQ {h:H}{F:Nat->Prop}{k:Int}{v:PV}{st:Nat}: ∀{l:List (Int×PV×Nat)} {la:List (Int×AV×Nat)},la.map (fun e=>(e.1,e.2.2))=l.map (fun e=>(e.1,e.2.2))->Rs h F (l.map fun e=>e.2.1) (la.map fun e=>e.2.1)->(k,v,st)∈l-> ∃a,(k,a,st)∈la/\R h F v a
 |[],_,_,_,m=>by cases m
 |_::_,[],e,_,_=>by simp at e
 |(a,p,s)::l,(b,x,u)::la,e,r,m=>by
  simp only[List.map_cons,List.cons.injEq,Prod.mk.injEq]at e
  obtain⟨⟨rfl,rfl⟩,e⟩:=e
  simp only[List.map_cons]at r
  cases r with
  |cons _ _ _ _ r1 r2=>
   rcases List.mem_cons.1 m with q|q
   ·cases q;exact⟨x,List.mem_cons_self,r1⟩
   ·obtain⟨y,y1,y2⟩:=LQ e r2 q
    exact⟨y,List.mem_cons_of_mem _ y1,y2⟩
theorem IQ {l:List Nat}{x:Nat}:Ct (l++[x])=some x:=by rw[p8];simp
theorem qR {x:XV}{p q iid mid since ck st:Nat}{seen:List Nat}{l:List (Int×PV×Nat)}{k:Int}{v:PV}(hk:K (.bn [.int .i64 k,v]) S)(hx:bx G x=some (.ptr p iid 0):=by exact rfl)(hS:aC S p=some (some iid,.iter mid since (seen++[st]) ck):=by exact rfl)(hM:aC S q=some (some mid,.dA l ck):=by exact rfl)(hm:(k,v,st)∈l:=by assumption):PO P X M d (.entry x) G S K:=⟨fun c h F env s r=>by
 obtain⟨a,e1,q1⟩:=r.ev hx
 cases q1
 obtain⟨g1,g2,g3,ab,g4,g5⟩:=s.at_ hS (fun q=>by cases q)
 obtain⟨b1,b2,b3,ab',b4,b5⟩:=s.at_ hM (fun q=>by cases q)
 cases g5 with
 |iter _ _ _ _=>
  cases b5 with
  |dA _ la _ w0 w1 w2=>
   obtain⟨u,m1,m2⟩:=LQ w1 w2 hm
   have hb:=rQ (ky:=mF 1) w0.2.1 m1
   refine bd (v:= .bn [.int .i64 k,u]) (h':=h) (fun sl hh call k'=>?_) ⟨_,S,F,Ext.refl _ _ _,s,.bn _ _ (.cons _ _ _ _ (.int _ _) (.cons _ _ _ _ m2 .nil)),hk⟩
   simp only[SO.den,rA,hh.ev e1,bW g2,g4,IQ,rz,bW b2,b4,Nat.beq_refl,cond,hb]
   rfl⟩
def Ui:(t:Nat)->KT t->PV
 |0,k=> .str k
 |1,k=> .int .i64 k
 |_+2,k=> .agg [.int .i64 k.1,.int .i64 k.2]
theorem Pm (h:H)(F:Nat->Prop):(t:Nat)-> ∀k:KT t,R h F (Ui t k) (mF t k)
 |0,k=> .str k
 |1,k=> .int _ _
 |_+2,k=> .agg _ _ (.cons _ _ _ _ (.int _ _) (.cons _ _ _ _ (.int _ _) .nil))
theorem kL {κ:Type} [DecidableEq κ] {k:κ}{a:AV}{st:Nat}: ∀{l:List (κ×AV×Nat)},(l.map Prod.fst).Nodup->(k,a,st)∈l-> ∃i,eY k l=some (i,a)
 |[],_,h=>by cases h
 |p::l,hn,h=>by
  rw[List.map_cons,List.nodup_cons]at hn
  unfold eY
  rcases List.mem_cons.1 h with q|q
  ·rw[<-q];exact⟨0,by rw[if_pos rfl]⟩
  ·have:k≠p.1:=fun w=>hn.1 (by rw[<-w];exact List.mem_map.2 ⟨_,q,rfl⟩)
   obtain⟨i,hi⟩:=kL hn.2 q
   exact⟨i+1,by rw[if_neg this,hi];rfl⟩
theorem HE {x:XV}{p iid t n:Nat}{f:KT t->Option PV}{k:KT t}(hk: ∀v,f k=some v->K (.bn [Ui t k,v]) S)(hx:bx G x=some (.ptr p iid 0):=by exact rfl)(hS:aC S p=some (some iid,.D1 t f n (some k)):=by exact rfl):PO P X M d (.entry x) G S K:=⟨fun c h F env s r=>by
 obtain⟨a,e1,q1⟩:=r.ev hx
 cases q1
 obtain⟨g1,g2,g3,ab,g4,g5⟩:=s.at_ hS (fun q=>by cases q)
 cases g5 with
 |D1 _ _ _ _ mid ck seen l w1 w2 w3 w4 w5 w6 w7=>
  obtain⟨u,st,m1,m2⟩:=w7 k rfl
  have hb:=rQ (ky:=mF t) w3.2.1 m1
  obtain⟨i,hi⟩:=kL w3.1 m1
  have hr:=w5 k i u hi
  cases hf:f k with
  |none=>rw[(w4 k).2 hf]at hi;cases hi
  |some v=>
   rw[hf]at hr
   refine bd (v:= .bn [mF t k,u]) (h':=h) (fun sl hh call k'=>?_) ⟨_,S,F,Ext.refl _ _ _,s,.bn _ _ (.cons _ _ _ _ (Pm h F t k) (.cons _ _ _ _ hr .nil)),hk v hf⟩
   simp only[SO.den,rA,hh.ev e1,bW g2,g4,p8,m2,rz,bW (s.fr mid w1).2,w2,Nat.beq_refl,cond,hb]⟩
end
section
variable (dr:Prop)(P:Program)(ng:Nat)
structure PA (nt:Nat)(x:Code)(G:aK)(S:aJ)(Q:Ex->aK->aJ->Prop):Prop where
 run: ∀c h F env sl,St c h F S->RE h F G env->Has sl env->CA dr P ng nt x c sl h fun e sl' h'=> ∃env',Has sl' env'/\Leaves c h F S env' h' (Q e)
structure tB (f:Nat)(args:List PV)(S:aJ)(K:PV->aJ->Prop):Prop where
 run: ∀c h F azs,St c h F S->Rs h F args azs->FA dr P ng f azs c h fun v h'=> ∃p S' F',Ext h F S h' F' S'/\St c h' F' S'/\R h' F' p v/\K p S'
structure Tt (nt:Nat)(y:Code)(Q:Ex->aK->aJ->Prop)(e:Ex)(G:aK)(S:aJ):Prop where
 get:match e with
  | .normal=>PA dr P ng nt y G S Q
  |e=>Q e G S
end
section
variable {dr:Prop}{P:Program}{ng nt:Nat}{X:cj}{M:Mf}{G:aK}{S:aJ}{Q:Ex->aK->aJ->Prop}{K:PV->aJ->Prop}
theorem PA.mono {x:Code}{Q':Ex->aK->aJ->Prop}(w:PA dr P ng nt x G S Q)(hq: ∀e G S,Q e G S->Q' e G S):PA dr P ng nt x G S Q':=⟨fun c h F env sl st re hh=>(w.run c h F env sl st re hh).mono fun e sl' h' ⟨env',h1,l⟩=>⟨env',h1,l.mono (hq e)⟩⟩
theorem tB.mono {f:Nat}{args:List PV}{K':PV->aJ->Prop}(w:tB dr P ng f args S K)(hk: ∀p S,K p S->K' p S):tB dr P ng f args S K':=⟨fun c h F azs st r=>(w.run c h F azs st r).mono fun v h' ⟨p,S',F',a1,a2,a3,a4⟩=>⟨p,S',F',a1,a2,a3,hk _ _ a4⟩⟩
theorem Tu {x:Code}{s:SC}(sd:Sd dr P ng X M)(hnt:nt<=1000000)(w:PC P X M nt s G S Q)(hs:cC P x=s.den:=by kernel_rfl):PA dr P ng nt x G S Q:=⟨fun c h F env sl st re hh=>Tq sd hs hnt hh (w.run c h F env st re) fun e sl' env' h' h1 l=>⟨env',h1,l⟩⟩
theorem Q9 {x y:Code}(w:PA dr P ng nt x G S (Tt dr P ng nt y Q)):PA dr P ng nt (.seq x y) G S Q:=⟨fun c h F env sl st re hh=>Q8 ((w.run c h F env sl st re hh).mono fun e sl1 h1 ⟨env1,hh1,G1,S1,F1,x1,st1,re1,q⟩=>by
 cases e with
 |normal=>exact(q.get.run c h1 F1 env1 sl1 st1 re1 hh1).mono fun e sl2 h2 ⟨env2,hh2,l⟩=>⟨env2,hh2,l.after x1⟩
 |exit id=>exact⟨env1,hh1,G1,S1,F1,x1,st1,re1,q.get⟩
 |ret=>exact⟨env1,hh1,G1,S1,F1,x1,st1,re1,q.get⟩)⟩
theorem Oe {v:Operand}{xv:XV}{b:Bool}{x y:Code}(hng:P.globals.size<=ng)(w:PA dr P ng nt (bif b then x else y) G S Q)(hb:bx G xv=some (.bool b):=by exact rfl)(hv:cV v=some xv:=by exact rfl)(hg:Dp P v=true:=by exact rfl):PA dr P ng nt (.cond v x y) G S Q:=⟨fun c h F env sl st re hh=>by
 obtain⟨a,e1,q⟩:=re.ev hb
 cases q
 exact Oc hng hv hg (hh.ev e1) (w.run c h F env sl st re hh)⟩
theorem LR {id:Nat}{x:Code}(w:PA dr P ng nt x G S (LS id Q)):PA dr P ng nt (.block id x) G S Q:=⟨fun c h F env sl st re hh=>LO ((w.run c h F env sl st re hh).mono fun e sl1 h1 ⟨env1,hh1,G1,S1,F1,x1,st1,re1,q⟩=>by
 have q:=q.get
 cases e with
 |normal=>exact⟨env1,hh1,G1,S1,F1,x1,st1,re1,q⟩
 |ret=>exact⟨env1,hh1,G1,S1,F1,x1,st1,re1,q⟩
 |exit id'=>
  dsimp only at q⊢
  cases hb:Nat.beq id' id with
  |true=>rw[hb]at q;exact⟨env1,hh1,G1,S1,F1,x1,st1,re1,q⟩
  |false=>rw[hb]at q;exact⟨env1,hh1,G1,S1,F1,x1,st1,re1,q⟩)⟩
theorem Gt {x:Code}{G':aK}{S' Z:aJ}{r:Nat->Nat}(hG:jr Z G G')(hS:ZS Z r S S')(w:PA dr P ng nt x G' S' Q):PA dr P ng nt x G S Q:=⟨fun c h F env sl s re hh=>by
 obtain⟨s1,x1⟩:=hS.lay s
 refine(w.run c h _ env sl s1 ⟨fun t q e=>?_,s1.gl⟩ hh).mono fun e sl' h' ⟨env',h1,l⟩=>⟨env',h1,l.after x1⟩
 obtain⟨p,e1,zf⟩:=hG.get e
 obtain⟨a,e2,r1⟩:=re.at_ t p e1
 exact⟨a,e2,zf.lay s hS.sub a r1⟩⟩
theorem Of {ι:Type}{b:Code}(Gf:ι->aK)(Sf:ι->aJ)(I:ι->Prop)(μ:ι->Nat)(i0:ι)(h0:I i0)(Z:aJ)(r:Nat->Nat)(hG:jr Z G (Gf i0))(hS:ZS Z r S (Sf i0))(step: ∀i,I i->PA dr P ng nt b (Gf i) (Sf i) (Fa Gf Sf I μ i Q)):PA dr P ng nt (.loop b) G S Q:=by
 refine Gt hG hS ⟨fun c h F env sl st re hh=>?_⟩
 refine Gq (Q:=fun e sl' h'=> ∃env',Has sl' env'/\Leaves c h F (Sf i0) env' h' (Q e)) (fun i sl' h'=>I i/\ ∃F' env',Ext h F (Sf i0) h' F' (Sf i)/\St c h' F' (Sf i)/\RE h' F' (Gf i) env'/\Has sl' env') μ ?_ (μ i0+1) i0 sl h (Nat.lt_succ_self _) ⟨h0,F,env,Ext.refl _ _ _,st,re,hh⟩
 rintro i sl1 h1 ⟨hi,F1,env1,x1,st1,re1,hh1⟩
 refine((step i hi).run c h1 F1 env1 sl1 st1 re1 hh1).mono fun e sl2 h2 ⟨env2,hh2,G2,S2,F2,x2,st2,re2,q⟩=>?_
 cases e with
 |normal=>
  obtain⟨j,hj,hI,Z',ρ,sg,ss⟩:=q
  obtain⟨s3,x3⟩:=ss.lay st2
  refine⟨j,⟨hI,_,env2,(x1.trans x2).trans x3,s3,⟨fun t q e=>?_,s3.gl⟩,hh2⟩,hj⟩
  obtain⟨p,e1,zf⟩:=sg.get e
  obtain⟨a,e2,r1⟩:=re2.at_ t p e1
  exact⟨a,e2,zf.lay st2 ss.sub a r1⟩
 |exit id=>exact⟨env2,hh2,G2,S2,F2,x1.trans x2,st2,re2,q⟩
 |ret=>exact⟨env2,hh2,G2,S2,F2,x1.trans x2,st2,re2,q⟩
def As (P:Program)(ops:Array Oper)(i:Nat):Option (Nat×Nat×List XV):=match ops.toList[i]? with
 |none=>none
 |some o=>match o.dst,o.guard,o.op with
  |some d,none,.call c=>match c.callee with
   | .value (.func f)=>if c.args.toList.all (Dp P)=true then(c.args.toList.mapM cV).map fun xs=>(d,f,xs)else none
   |_=>none
  |_,_,_=>none
def rR (P:Program)(ops:Array Oper):Option (Nat×XV):=match ops.toList[0]? with
 |none=>none
 |some o=>match o.dst,o.guard,o.op with
  |some d,none,.next y false=>if Dp P y=true then(cV y).map fun x=>(d,x)else none
  |_,_,_=>none
theorem rS {α:Type}{l:List α}{i:Nat}{o:α}(h:l[i]? =some o):l=l.take i++o::l.drop (i+1):=by
 obtain⟨hi,e⟩:=List.getElem?_eq_some_iff.1 h
 rw[<-e,List.getElem_cons_drop,List.take_append_drop]
theorem Og (i:Nat)(l1 l2:List SR){id d f:Nat}{xs:List XV}{ops:Array Oper}(sd:Sd dr P ng X M)(hnt:nt<=1000000)
    (w:PG P X M nt l1 G S fun G1 S1=> ∃vs,tA G1 xs=some vs/\tB dr P ng f vs S1 fun v S2=>PG P X M nt l2 ((d,v)::G1) S2 fun G3 S3=>Q .normal G3 S3)
    (hc:As P ops i=some (d,f,xs):=by kernel_rfl) (hd:Nat.blt d nt=true:=by exact rfl) (h1:(ops.toList.take i).map (cR P ops 0)=l1.map SR.den:=by kernel_rfl) (hpq:(ops.toList.drop (i+1)).map (cR P ops 0)=l2.map SR.den:=by kernel_rfl):PA dr P ng nt (.region id ops false) G S Q:=⟨fun c h F env sl st re hh=>⟨fun hw hctx=>by
 unfold As at hc
 cases ho:ops.toList[i]? with
 |none=>rw[ho]at hc;cases hc
 |some o=>
  rw[ho]at hc
  simp only at hc
  split at hc
  ·rename_i d' q e1 e2 e3
   split at hc
   ·rename_i f' e4
    split at hc
    ·rename_i hall
     rw[Option.map_eq_some_iff]at hc
     obtain⟨xs',e5,e6⟩:=hc
     cases e6
     obtain⟨cal,ys,ts⟩:=q
     simp only at e4 hall e5
     subst e4
     obtain⟨sl1,hp1,env1,⟨N1,hN1⟩,hh1,G1,S1,F1,x1,st1,re1,vs,ev1,pf⟩:=(w.run c h F env st re).run sl hh
     obtain⟨azs,ea,ra⟩:=re1.LU ev1
     have hblt:d<nt:=by simpa[Nat.blt_eq]using hd
     have fa:=pf.run c hp1 F1 azs st1 ra
     have exs:xs.map (bG sl1)=azs:=hh1.LU ea
     rw[<-exs]at fa
     refine(E6 (pre:=ops.toList.take i) (post:=ops.toList.drop (i+1)) (o:=o) (rS ho) e2 e1 hblt sd.op (sd.ok N1).2 sd.gs hnt (by rw[h1];exact hN1 N1 (Nat.le_refl _)) (Od e3 e5 hall sd.gs (fa.mono fun v h2 ⟨p,S2,F2,x2,st2,r2,pg⟩=>?_))).run hw hctx
     obtain⟨sl3,h3,env3,⟨N3,hN3⟩,hh3,G3,S3,F3,x3,Qj,re3,q3⟩:=(pg.run c h2 F2 ((d,v)::env1) st2 ((re1.mono fun id x=>st1.keep x2 id x).put r2)).run (Tr.set depth sl1 d v) (hh1.put (Nat.lt_succ_self _) v)
     exact⟨sl3,h3,_,(sd.ok N3).2,by rw[hpq];exact hN3 N3 (Nat.le_refl _),env3,hh3,G3,S3,F3,(x1.trans x2).trans x3,Qj,re3,q3⟩
    ·cases hc
   ·cases hc
  ·cases hc⟩⟩
end
theorem Au {h:H}{F:Nat->Prop}{k:Int}{a:AV}{st:Nat}: ∀{l:List (Int×PV×Nat)} {la:List (Int×AV×Nat)},la.map (fun e=>(e.1,e.2.2))=l.map (fun e=>(e.1,e.2.2))->Rs h F (l.map fun e=>e.2.1) (la.map fun e=>e.2.1)->(k,a,st)∈la-> ∃v,(k,v,st)∈l/\R h F v a
 |_,[],_,_,m=>by cases m
 |[],_::_,e,_,_=>by simp at e
 |(a',p,s)::l,(b,x,u)::la,e,r,m=>by
  simp only[List.map_cons,List.cons.injEq,Prod.mk.injEq]at e
  obtain⟨⟨rfl,rfl⟩,e⟩:=e
  simp only[List.map_cons]at r
  cases r with
  |cons _ _ _ _ r1 r2=>
   rcases List.mem_cons.1 m with q|q
   ·cases q;exact⟨p,List.mem_cons_self,r1⟩
   ·obtain⟨y,y1,y2⟩:=Au e r2 q
    exact⟨y,List.mem_cons_of_mem _ y1,y2⟩
theorem tU {κ:Type}{ky:κ->AV}{l:List (κ×AV×Nat)}{p:AV×AV×Nat}(h:p∈lj ky l): ∃k a st,(k,a,st)∈l/\p=(ky k,a,st):=by
 unfold lj at h
 obtain⟨⟨k,a,st⟩,h1,rfl⟩:=List.mem_map.1 h
 exact⟨k,a,st,h1,rfl⟩
theorem Gu {κ:Type}{ky:κ->AV}{l:List (κ×AV×Nat)}{k:κ}{a:AV}{st:Nat}(h:(k,a,st)∈l):(ky k,a,st)∈lj ky l:=List.mem_map.2 ⟨_,h,rfl⟩
section
variable {dr:Prop}{P:Program}{ng nt:Nat}{X:cj}{M:Mf}{G:aK}{S:aJ}{Q:Ex->aK->aJ->Prop}{K:PV->aJ->Prop}
theorem yy {ops:Array Oper}{d:Nat}{x:XV}(hc:rR P ops=some (d,x)): ∃o y,ops.toList[0]? =some o/\o.dst=some d/\o.guard=none/\o.op= .next y false/\Dp P y=true/\cV y=some x:=by
 unfold rR at hc
 cases ho:ops.toList[0]? with
 |none=>rw[ho]at hc;cases hc
 |some o=>
  rw[ho]at hc
  simp only at hc
  split at hc
  ·rename_i d' y e1 e2 e3
   split at hc
   ·rename_i hg
    rw[Option.map_eq_some_iff]at hc
    obtain⟨x',e4,e5⟩:=hc
    cases e5
    exact⟨o,y,rfl,e1,e2,e3,hg,e4⟩
   ·cases hc
  ·cases hc
theorem mG {l2:List SR}{d:Nat}{c:C}{h h2:H}{F F2:Nat->Prop}{S2:aJ}{sl:Tr AV}{env:bo}{v:AV}{p:PV}{ops:Array Oper}(sd:Sd dr P ng X M)(hpq:(ops.toList.drop 1).map (cR P ops 0)=l2.map SR.den)(hh:Has sl env)(re:RE h2 F2 G env)(st2:St c h2 F2 S2)(x2:Ext h F S h2 F2 S2)(r:R h2 F2 p v)(w:PG P X M nt l2 ((d,p)::G) S2 fun G S=>Q .normal G S): ∃sl3 h3 call2,fN dr P ng call2/\ic c call2 nt ((ops.toList.drop 1).map (cR P ops 0)) (Tr.set depth sl d v) h2=some (sl3,h3)/\ ∃env',Has sl3 env'/\Leaves c h F S env' h3 (Q .normal):=by
 obtain⟨sl3,h3,env3,⟨N3,hN3⟩,hh3,l3⟩:=(w.run c h2 F2 ((d,v)::env) st2 (re.put r)).run (Tr.set depth sl d v) (hh.put (Nat.lt_succ_self _) v)
 exact⟨sl3,h3,_,(sd.ok N3).2,by rw[hpq];exact hN3 N3 (Nat.le_refl _),env3,hh3,l3.after x2⟩
theorem LV (l2:List SR){id d p q iid mid since last ck:Nat}{x:XV}{ops:Array Oper}{seen:List Nat}{l:List (Int×PV×Nat)}(sd:Sd dr P ng X M)(hnt:nt<=1000000)
    (done:(∀e∈l,e.2.2∈seen)->PG P X M nt l2 ((d,.bn [.bool false])::G) S fun G S=>Q .normal G S)
    (more: ∀k v st,(k,v,st)∈l->st∉seen->PG P X M nt l2 ((d,.bn [.bool true,.int .i64 k,v])::G) ((p,some iid,.iter mid since (seen++[st]) ck)::S) fun G S=>Q .normal G S)
    (hold: ∀e∈l,e.2.2<since) (hsc:since<=last) (hS:aC S p=some (some iid,.iter mid since seen last)) (hM:aC S q=some (some mid,.dA l ck))
    (hn:rR P ops=some (d,x):=by kernel_rfl) (hx:bx G x=some (.ptr p iid 0):=by exact rfl) (hd:Nat.blt d nt=true:=by exact rfl) (hpq:(ops.toList.drop 1).map (cR P ops 0)=l2.map SR.den:=by kernel_rfl):PA dr P ng nt (.region id ops false) G S Q:=⟨fun c h F env sl s re hh=>⟨fun hw hctx=>by
 obtain⟨o,y,ho,o1,o2,o3,o4,o5⟩:=yy hn
 have hblt:d<nt:=by simpa[Nat.blt_eq]using hd
 obtain⟨a,e1,q1⟩:=re.ev hx
 cases q1
 obtain⟨g1,g2,g3,ab,g4,g5⟩:=s.at_ hS (fun q=>by cases q)
 obtain⟨b1,b2,b3,ab',b4,b5⟩:=s.at_ hM (fun q=>by cases q)
 cases g5 with
 |iter _ _ _ _=>
  cases b5 with
  |dA _ la _ w0 w1 w2=>
   have hst: ∀e∈l,∃k a,(k,a,e.2.2)∈la:=fun e he=>by
    have:(e.1,e.2.2)∈la.map fun e=>(e.1,e.2.2):=by rw[w1];exact List.mem_map.2 ⟨e,he,rfl⟩
    obtain⟨⟨k,a,st⟩,m1,m2⟩:=List.mem_map.1 this
    have:st=e.2.2:=congrArg Prod.snd m2
    subst this
    exact⟨k,a,m1⟩
   refine(E6 (pre:=[]) (post:=ops.toList.drop 1) (o:=o) (rS ho) o2 o1 hblt sd.op (sd.ok 0).2 sd.gs hnt (sl1:=sl) (h1:=h) rfl (Gs o3 o5 o4 sd.gs (hh.ev e1) (by rw[bW g2];exact g4) (by rw[bW b2];exact b4) g1 (fun p hp=>?_) hsc (fun hdone=>?_) fun p hp hns=>?_)).run hw hctx
   ·obtain⟨k,a,st,m1,rfl⟩:=tU hp
    obtain⟨v,m2,_⟩:=Au w1 w2 m1
    exact hold _ m2
   ·exact mG sd hpq hh re s (Ext.refl _ _ _) (.bn _ _ (.cons _ _ _ _ (.bool false) .nil)) (done fun e he=>by
      obtain⟨k,a,m⟩:=hst e he
      exact hdone _ (Gu (ky:=mF 1) m))
   ·obtain⟨k,a,st,m1,rfl⟩:=tU hp
    obtain⟨v,m2,m3⟩:=Au w1 w2 m1
    obtain⟨s1,x1⟩:=s.put hS (fun q=>by cases q) (RB.iter (h:=h) (F:=F) mid since ck (seen++[st]))
    exact mG sd hpq hh (re.mono fun id z=>s.keep x1 id z) s1 x1 (.bn _ _ (.cons _ _ _ _ (.bool true) (.cons _ _ _ _ (.int _ _) (.cons _ _ _ _ (s.Pn x1 m3) .nil)))) (more k v st m2 hns)⟩⟩
theorem sP {κ:Type}{k:κ}{a:AV}{st:Nat}{seen:List Nat}: ∀{l:List (κ×AV×Nat)},(l.map fun p=>p.2.2).Nodup->(k,a,st)∈l->st∉seen->(l.filter fun e=>!seen.contains e.2.2).length=(l.filter fun e=>!(seen++[st]).contains e.2.2).length+1
 |[],_,h,_=>by cases h
 |p::l,hn,h,hs=>by
  rw[List.map_cons,List.nodup_cons]at hn
  rcases List.mem_cons.1 h with q|q
  ·subst q
   rw[List.filter_cons_of_pos (by simpa using hs),List.filter_cons_of_neg (by simp),List.length_cons]
   congr 2
   refine List.filter_congr fun x hx=>?_
   have:x.2.2≠st:=fun w=>hn.1 (by rw[<-w];exact List.mem_map.2 ⟨x,hx,rfl⟩)
   simp[this]
  ·have ih:=sP hn.2 q hs
   have:p.2.2≠st:=fun w=>hn.1 (by rw[w];exact List.mem_map.2 ⟨_,q,rfl⟩)
   by_cases z:p.2.2∈seen
   ·rw[List.filter_cons_of_neg (by simpa using z),List.filter_cons_of_neg (by simp[z]),ih]
   ·rw[List.filter_cons_of_pos (by simpa using z),List.filter_cons_of_pos (by simp[z,this]),List.length_cons,List.length_cons,ih]
theorem LW (l2:List SR){id d p iid t n:Nat}{x:XV}{ops:Array Oper}{f:KT t->Option PV}{o:Option (KT t)}(sd:Sd dr P ng X M)(hnt:nt<=1000000)
    (done:n=0->PG P X M nt l2 ((d,.bn [.bool false])::G) S fun G S=>Q .normal G S)
    (more: ∀k v m,n=m+1->f k=some v->PG P X M nt l2 ((d,.bn [.bool true,Ui t k,v])::G) ((p,some iid,.D1 t f m (some k))::S) fun G S=>Q .normal G S)
    (hS:aC S p=some (some iid,.D1 t f n o))
    (hn:rR P ops=some (d,x):=by kernel_rfl) (hx:bx G x=some (.ptr p iid 0):=by exact rfl) (hd:Nat.blt d nt=true:=by exact rfl) (hpq:(ops.toList.drop 1).map (cR P ops 0)=l2.map SR.den:=by kernel_rfl):PA dr P ng nt (.region id ops false) G S Q:=⟨fun c h F env sl s re hh=>⟨fun hw hctx=>by
 obtain⟨o,y,ho,o1,o2,o3,o4,o5⟩:=yy hn
 have hblt:d<nt:=by simpa[Nat.blt_eq]using hd
 obtain⟨a,e1,q1⟩:=re.ev hx
 cases q1
 obtain⟨g1,g2,g3,ab,g4,g5⟩:=s.at_ hS (fun q=>by cases q)
 cases g5 with
 |D1 _ _ _ _ mid ck seen l w1 w2 w3 w4 w5 w6 w7=>
  have hf:=s.fr mid w1
  refine(E6 (pre:=[]) (post:=ops.toList.drop 1) (o:=o) (rS ho) o2 o1 hblt sd.op (sd.ok 0).2 sd.gs hnt (sl1:=sl) (h1:=h) rfl (Gs o3 o5 o4 sd.gs (hh.ev e1) (by rw[bW g2];exact g4) (by rw[bW hf.2];exact w2) g1 (fun p hp=>?_) (Nat.le_refl _) (fun hdone=>?_) fun p hp hns=>?_)).run hw hctx
  ·obtain⟨k,a,st,m1,rfl⟩:=tU hp
   exact w3.2.2 _ m1
  ·refine mG sd hpq hh re s (Ext.refl _ _ _) (.bn _ _ (.cons _ _ _ _ (.bool false) .nil)) (done ?_)
   rw[w6,List.length_eq_zero_iff,List.filter_eq_nil_iff]
   intro e he
   have:=hdone _ (Gu (ky:=mF t) (k:=e.1) (a:=e.2.1) (st:=e.2.2) he)
   simpa using this
  ·obtain⟨k,a,st,m1,rfl⟩:=tU hp
   obtain⟨i,hi⟩:=kL w3.1 m1
   have hr:=w5 k i a hi
   cases hfk:f k with
   |none=>rw[(w4 k).2 hfk]at hi;cases hi
   |some v=>
    rw[hfk]at hr
    have hlen:=sP w3.2.1 m1 hns
    obtain⟨s1,x1⟩:=s.put hS (fun q=>by cases q) (RB.D1 (h:=h) (F:=F) t f (l.filter fun e=>!(seen++[st]).contains e.2.2).length (some k) mid ck (seen++[st]) l w1 w2 w3 w4 w5 rfl (fun k' e=>by cases e;exact⟨a,st,m1,by simp⟩))
    exact mG sd hpq hh (re.mono fun id z=>s.keep x1 id z) s1 x1 (.bn _ _ (.cons _ _ _ _ (.bool true) (.cons _ _ _ _ (Pm _ _ t k) (.cons _ _ _ _ (s.Pn x1 hr) .nil)))) (more k v _ (w6.trans hlen) hfk)⟩⟩
theorem Ra {f:Nat}{fn:Func}{b:Code}{rs:List (Nat×Option (Option Nat))}{args:List PV}(sd:Sd dr P ng X M)(h1:P.funcs[f]? =some fn)(w:PA dr P ng nt b (Et args 0 []) S fun e G S=>(e= .normal\/e= .ret)/\zJ G S rs/\ ∃vs,u7 G S rs=some vs/\K (zK vs) S)(h4:fn.ntmps=nt:=by kernel_rfl)(h2:fn.body=some b:=by kernel_rfl)(h3:fn.results.toList.mapM (Ac P)=some rs:=by kernel_rfl)(hnt:nt<=1000000:=by decide)(hle:args.length<=nt:=by simp):tB dr P ng f args S K:=⟨fun c h F azs st r=>by
 subst h4
 refine Ts (sd.go f fn h1) h1 h2 h3 hnt (by rw[r.len];exact hle) ((w.run c h F _ _ st (LX r ⟨fun t p e=>(by cases e),st.gl⟩) (v8 azs 0 .nil [] (Has.nil _) (by rw[r.len];omega))).mono fun e sl1 h1 ⟨env1,hh1,G',S',F',a1,a2,a3,a4,a5,vs,a6,a7⟩=>?_)
 obtain⟨bs,e1,q⟩:=LY a2 a3 a6 a5
 exact⟨a4,LZ bs,by rw[mH hh1 e1,rT],_,S',F',a1,a2,Po q,a7⟩⟩
theorem ly {f:Nat}{args:List PV}(w:tB dr P ng f args S fun v S1=> ∃Z r S2 v2,ZS Z r S1 S2/\Zf Z v v2/\K v2 S2):tB dr P ng f args S K:=⟨fun c h F azs s r=>
 (w.run c h F azs s r).mono fun v h' ⟨p,S',F',a1,a2,a3,Z,r2,S2,v2,z1,z2,hk⟩=>by
  obtain⟨s1,x1⟩:=z1.lay a2
  exact⟨v2,S2,_,a1.trans x1,s1,z2.lay a2 z1.sub v a3,hk⟩⟩
theorem Jr {f:Nat}{args args':List PV}{Z S':aJ}{r:Nat->Nat}(hz:dH Z args args')(hS:ZS Z r S S')(w:tB dr P ng f args' S' K):tB dr P ng f args S K:=⟨fun c h F azs s q=>by
 obtain⟨s1,x1⟩:=hS.lay s
 exact(w.run c h _ azs s1 (hz.lay s hS.sub q)).mono fun v h' ⟨p,S2,F',a1,a2,a3,hk⟩=>⟨p,S2,F',x1.trans a1,a2,a3,hk⟩⟩
end
inductive s7 (Z S:aJ)(r:Nat->Nat):aJ->Prop
 |nil:s7 Z S r []
 |cons {q:Nat} {aT:Option Nat} {b d:PB} {S':aJ}:aC Z (r q)=none->aC S (r q)=some (aT,b)->Dr Z b d->s7 Z S r S'->s7 Z S r ((q,aT,d)::S')
 |kR {q:Nat} {d:PB} {S':aJ}:s7 Z S r S'->s7 Z S r ((q,none,d)::S')
theorem s7.get {Z S:aJ}{r:Nat->Nat}{S':aJ}(s:s7 Z S r S'): ∀p id d,aC S' p=some (some id,d)->aC Z (r p)=none/\ ∃b,aC S (r p)=some (some id,b)/\Dr Z b d:=by
 induction s with
 |nil=>intro p id d e;cases e
 | @cons k aT b u S' h0 h1 h2 _ ih=>
  intro p id d e
  rw[aH]at e
  by_cases hb:k=p
  ·rw[if_pos hb]at e;cases e;rw[<-hb];exact⟨h0,b,h1,h2⟩
  ·rw[if_neg hb]at e;exact ih p id d e
 | @kR k u S' _ ih=>
  intro p id d e
  rw[aH]at e
  by_cases hb:k=p
  ·rw[if_pos hb]at e;cases e
  ·rw[if_neg hb]at e;exact ih p id d e
theorem mh {S:aJ}: ∀{p:Nat} {x:Option Nat×PB},aC S p=some x->p∈S.map (·.1):=by
 induction S with
 |nil=>intro p x e;cases e
 |cons y S ih=>
  intro p x e
  obtain⟨k,v⟩:=y
  rw[aH]at e
  by_cases hb:k=p
  ·subst hb;simp
  ·rw[if_neg hb]at e;exact List.mem_cons_of_mem _ (ih e)
theorem s7.zs {Z S:aJ}{r:Nat->Nat}{S':aJ}(hz:C6 S Z)(s:s7 Z S r S')(ks:List Nat)(hk:S'.map (·.1)=ks)(hr: ∀p∈ks,∀q∈ks,r p=r q->p=q):ZS Z r S S':=⟨hz.get,fun p id d e _=>s.get p id d e,fun p q id b d e1 e2 _ _ e=>hr p (hk▸mh e1) q (hk▸mh e2) e⟩
section
variable {P:Program}{X:cj}{M:Mf}{G:aK}{S:aJ}{d:Nat}{K:PV->aJ->Prop}{nt:Nat}
theorem Ht {i al fm p:Nat}{wr fz m b ok:Bool}{S0:aJ}{z:AV}{zp:PV}{x key:XV}{k1 k2:Int}{f:Int×Int->Option PV}{g:Option (Nat×Bool)}{ops:List SR}{Q:aK->aJ->Prop}(h1: ∀v,f (k1,k2)=some v->PD P X M nt ops (i+1) al fm wr fz S0 ((d,bY ok v true)::G) S Q)(h0:f (k1,k2)=none->PD P X M nt ops (i+1) al fm wr fz S0 ((d,bY ok zp false)::G) S Q)(ho:(Nat.beq (al|||p) p||(!wr&&fz))=true:=by exact rfl)(hg:cH G g=some true:=by exact rfl)(hd:Nat.blt d nt=true:=by exact rfl)(hx:bx G x=some (.nC 2 f):=by exact rfl)(hkey:bx G key=some (.agg [.int .i64 k1,.int .i64 k2]):=by exact rfl)(hz:dO z=some zp:=by exact rfl)(hnt:nt<=1000000:=by assumption):PD P X M nt (⟨some d,.lookup (.st [.int,.int]) z x key ok,g,p,m,b,some x⟩::ops) i al fm wr fz S0 G S Q:=wa (t:=2) (k:=(k1,k2)) rfl ho hnt hg hd hx (L3 hkey) hz h1 h0
theorem uG {K0:PV->Prop}{n j:Nat}{x i:XV}{k:IntKind}{z:Int}{p id i0 off e:Nat}(hk:K0 (.gu p id i0 (off+j) e))(hx:bx G x=some (.gu p id i0 off e):=by exact rfl)(hi:bx G i=some (.int k z):=by exact rfl)(hz:z=(j:Int):=by exact rfl)(h1:j<n:=by decide):kM P X M (.rf n 1 x i) G K0:=
 ez (p:= .gu p id i0 (off+j) e) (fun c h F env r K k=>by
  obtain⟨a,e1,q1⟩:=r.ev hx
  obtain⟨b,e2,q2⟩:=r.ev hi
  cases q1
  cases q2
  subst hz
  have hb:Nat.blt j n=true:=by simp[Nat.blt_eq];omega
  refine bd (fun sl hs call k'=>?_) (k (.ptr id (i0*e+off+j*1)) ?_)
  ·simp only[SO.den,mr,hs.ev e1,hs.ev e2]
   show(match AV.ptr id (i0*e+off),some j with| .ptr id off,some i=>_|_,_=>none)=_
   simp only[hb,cond,aZ];rfl
  ·rw[show i0*e+off+j*1=i0*e+(off+j)by omega]
   exact .gu _ _ _ _ _) hk
theorem PY {K0:PV->Prop}{x y:XV}{a b c e:List Nat}(ht:(a=c/\b=e)->K0 (.bool true))(hf: ¬(a=c/\b=e)->K0 (.bool false))(hx:bx G x=some (.agg [.str a,.str b]):=by exact rfl)(hy:bx G y=some (.agg [.str c,.str e]):=by exact rfl):kM P X M (.eql (.st [.str,.str]) false x y) G K0:=⟨fun _ h F env r K' k=>by
 obtain⟨u,e1,q1⟩:=r.ev hx
 obtain⟨v,e2,q2⟩:=r.ev hy
 cases q1 with
 |agg _ _ q1=>cases q1 with
  |cons _ _ _ _ q3 q4=>cases q3;cases q4 with
   |cons _ _ _ _ q3 q4=>cases q3;cases q4;cases q2 with
    |agg _ _ q2=>cases q2 with
     |cons _ _ _ _ q3 q4=>cases q3;cases q4 with
      |cons _ _ _ _ q3 q4=>
       cases q3;cases q4
       have hq:SQ.den (.st [.str,.str]) (.agg [.str a,.str b]) (.agg [.str c,.str e])=some (decide (a=c/\b=e)):=by
        by_cases q:a=c<;>by_cases r:b=e<;>simp_all [SQ.den,SB.den,pM,fu,eqStr,kC]
       refine oB e1 e2 hq (k _ _ (.bool _) ?_)
       by_cases w:a=c/\b=e
       ·rw[decide_eq_true w];exact ht w
       ·rw[decide_eq_false w];exact hf w⟩
theorem PS {α:Type} [Inhabited α] {e by_:Nat}{f:α->List PV}{m:List α}(y:α){s x:XV}{p id:Nat}{r:Nat->List PV}(hk: ∀aT,K (oL p aT e (y::m)) ((p,aT,aL e f (y::m))::S))(hs:bx G s=some (.own p (some id) 1 e):=by exact rfl)(hx:bx G x=some (pL e f m):=by exact rfl)(hS:aC S p=some (some id,.arr e 1 r):=by exact rfl)(hr:r 0=f y:=by exact rfl)(ho: ∀y,PV.cy (f y)=true:=by exact fun _=>rfl)(hb:(1+m.length)*by_<=140737488355328:=by omega)(hby:0<by_:=by decide):PO P X M d (.append e by_ s x) G S K:=by
 refine PO.JP (jF (k:=1) (fun aT _=>⟨_,_,Zf.eq ?_,wb (.arr _ _ (m.length+1) _ _ (by omega) fun i hi=>dH.of_eq (show oC 1 r (fun i=>f (el m i)) i=f (el (y::m) i)from ?_)),hk aT⟩) hs hx (.own _ _ _ _ _ hS (Nat.le_refl _)) (.tr _ _) (fun i _=>ho _) hb hby)
 ·unfold oL;rw[List.length_cons,Nat.add_comm]
 ·unfold oC
  cases i with
  |zero=>rw[if_pos (by decide)];exact hr
  |succ i=>rw[if_neg (by omega)];rfl
end
end
end Go.Proofs.YtemehfgkfidgjaaGreatDoor.Ev
