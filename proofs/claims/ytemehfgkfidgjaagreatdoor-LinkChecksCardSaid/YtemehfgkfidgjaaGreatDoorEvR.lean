/- CoverStates, part 6 -/
import Derived.Test.YtemehfgkfidgjaaGreatDoorEvN
import Derived.Maps.RangeRun
import Derived.Laws.Cover3
import Derived.Laws.Pointers
set_option linter.all false
namespace Go.Proofs.YtemehfgkfidgjaaGreatDoor.Ev
open Go
section
variable {dr:Prop}
def rL (F:Fence)(m:Nat)(P:Program)(x:Code)(Q:Exit->Act->World->Prop)(a:Act)(w:World):Prop:=
 ∀(b:Frame) (k:List Item) (cs:List Frame),b.roundOf=F.round->F.fn b.fn->F.room (cs.length+1+m)-> ∃e a' w',Q e a' w'/\ArrivesIn (Machine.fenced P F) P (lone (b.atR a (.code x:: .inLoop x::k)) cs w) b k cs e a' w'
theorem lX {F:Fence}{m:Nat}{P:Program}{x:Code}{Q:Exit->Act->World->Prop}{a:Act}{w:World}(h:x.wpIn F m P (Exit.then (rL F m P x Q) Q) a w):rL F m P x Q a w:=by
 intro b k cs hro hb hr
 obtain⟨e,a₁,w₁,hq,harr⟩:=h b (.inLoop x::k) cs hro hb hr
 cases e with
 |normal=>
  obtain⟨e₂,a₂,w₂,hq₂,harr₂⟩:=hq b k cs hro hb hr
  exact⟨e₂,a₂,w₂,hq₂,.of_steps (StepsIn.trans harr (.one (fenced_calm hb hr rfl) stepR_inLoop)) harr₂⟩
 |exit id=>exact⟨_,a₁,w₁,hq,.pass (x:= .inLoop x) rfl (fun _ _=> .inl (by simp)) harr⟩
 |goto l=>exact⟨_,a₁,w₁,hq,.pass (x:= .inLoop x) rfl (fun _ _=> .inl (by simp)) harr⟩
 |ret=>exact⟨_,a₁,w₁,hq,.pass (x:= .inLoop x) rfl (fun _ _=> .inl (by simp)) harr⟩
 |panic ch=>exact⟨_,a₁,w₁,hq,.pass (x:= .inLoop x) rfl (fun _ _=> .inl (by simp)) harr⟩
 |outgrown=>exact⟨_,a₁,w₁,hq,.pass (x:= .inLoop x) rfl (fun _ _=> .inl (by simp)) harr⟩
def wC (F:Fence)(m:Nat)(P:Program)(code:Code)(Q:Exit->Act->World->Prop)(a:Act)(w:World):Prop:=
 match code with
 | .loop x=>rL F m P x Q a w
 |x=>x.wpIn F m P Q a w
theorem wC.wp {F:Fence}{m:Nat}{P:Program}{code:Code}{Q:Exit->Act->World->Prop}{a:Act}{w:World}(h:wC F m P code Q a w):code.wpIn F m P Q a w:=by
 unfold wC at h
 split at h
 ·rename_i x
  intro b k cs hro hb hr
  obtain⟨e,a',w',hq,harr⟩:=h b k cs hro hb hr
  exact⟨e,a',w',hq,.of_steps (.one (fenced_calm hb hr rfl) stepR_loop) harr⟩
 ·exact h
def Ex.oq:Ex->Exit
 | .normal=> .normal
 | .exit id=> .exit id
 | .ret=> .ret
def QF (β:bS):List Nat->List Deferred->Prop
 |[],df=>df=[]
 |d::ds,df=> ∃D df',df={target:= .collected D.blk,args:= #[]}::df'/\β d=some D/\QF β ds df'
theorem QF.mono {β β':bS}(h:Sub β β'): ∀{ds:List Nat} {df:List Deferred},QF β ds df->QF β' ds df
 |[],df,e=>e
 |d::ds,df,⟨D,df',h1,h2,h3⟩=>⟨D,df',h1,h _ _ h2,h3.mono h⟩
def bT (dr:Prop)(P:Program)(ng nt:Nat)(rd:Bool)(code:Code)(c:C)(sl:Tr AV)(ds:List Nat)(h:H)(e:Ex)(sl':Tr AV)(ds':List Nat)(h':H):Prop:=
 Step c h h'/\ ∀β a w df,GB ng β->HR c.floor β (view c h) w->QF β ds df->qx nt df β sl a->(∀id,h.n<=id->id<h'.n->β id=none)-> ∀(r:Option Nat) (m:Nat),(rd=false->r=none)-> ∀Q:Exit->Act->World->Prop,
  (∀β' a' w' df',ca dr c.floor h.n h'.n β (view c h) w β' (view c h') w'->QF β' ds' df'->qx nt df' β' sl' a'->Q e.oq a' w')->wC (W r) m P code Q a w
section
variable {P:Program}{ng:Nat}{c:C}{call:dS}{nt:Nat}{ops:Array Oper}
theorem Iq {o:Oper}(h:kz o=true):Cw P o=none:=by
 unfold kz at h
 unfold Cw
 cases ho:o.op<;>rw[ho]at h<;>first|rfl|(cases h;done)|skip
 rename_i q
 obtain⟨cal,args,ts⟩:=q
 cases cal with
 |builtin b=>cases b<;>first|rfl|(cases h;done)
 |value f=>rfl
 |invoke y n=>rfl
theorem EH {rd:Bool}{ds:List Nat}{sl:Tr AV}{h:H}{r:Tr AV×H}{id:Nat}(hmx:P.follows .mixedOrders=true)(hO:Cz dr P ng)(hC:fN dr P ng call)(hng:P.globals.size<=ng)(hnt:nt<=1000000)(fX:Pb ops (Region.before ops)=true)(hw:WF h)(hc:Ctx c h)
    (e:cL c call nt (bw h.n c.cd) (KA P ops) 0 [] [] [] sl h=some r):bT dr P ng nt rd (.region id ops true) c sl ds h .normal r.1 ds r.2:=by
 obtain⟨T,t1,t2,t3,t4,t5⟩:=p7 (D:=DD dr P ng ops) (fun j c sl h v h' hd=>by obtain⟨o,_,hd,_⟩:=hd;exact hd.1) (KA P ops) 0 [] [] [] sl h r hw hc.low (fun j x hx c' sl h k r hctx hw' ex=>by
  obtain⟨hlt,rfl⟩:=QE hx
  obtain⟨o,ho⟩:=qg hlt
  rw[Nat.zero_add]
  have hop:(cD P ops (Region.before ops) j).op=(cR P ops ((Region.before ops).getD j 0) o).op:=by
   show(cR P ops _ (ops.getD j default)).op=_
   rw[eR ho]
  have hme:(cD P ops (Region.before ops) j).mem=kz o:=by
   show kz (ops.getD j default)=kz o
   rw[eR ho]
  have hfo:(cD P ops (Region.before ops) j).eI=(Cw P o).bind cV:=by
   show(Cw P (ops.getD j default)).bind cV=_
   rw[eR ho]
  have hctx':kz o=true->Ctx c' h:=fun q=>hctx (by rw[hme];exact q) (by rw[hfo,Iq q];rfl)
  rw[hop]at ex
  rcases Aj (P:=P) (ops:=ops) ((Region.before ops).getD j 0) o with q|⟨q1,q2⟩
  ·have q':=q
   obtain⟨xo,g,q1,q2,q3,q4⟩:=q
   rw[q4]at ex
   obtain⟨v,h',e1,e2⟩:=hO o xo q1 c' call sl h k r hctx' hw' hC ex
   exact⟨v,h',e1,o,ho,e2,q'⟩
  ·rw[q1]at ex;cases ex) e
 have hlen:(KA P ops).length=ops.size:=by simp[KA]
 rw[hlen]at t3 t4
 have F:=NL (ng:=ng) fX hnt hw t2 t5
 have hst:Step c h r.2:=by
  have:=NM F (fun j hj=>(t5 j _ (tR hj)).step)
  rw[t2,t4]at this;exact this
 refine⟨hst,fun β a w df hgb hr hdf hsl hfr ro m hro Q hQ=>?_⟩
 show(Code.region id ops true).wpIn (W ro) m P Q a w
 refine wpIn_region_any hmx ?_
 refine KY (β0:=β) (w0:={w with drawn:=w.drawn+1}) hng fX hnt hw t2 hc t5 F hgb (by rw[t2,t4];exact hfr) (fun β' a' w' hP hs=>?_) ops.size (Array.replicate ops.size false) β a _ (by simp) (by
     refine Nat.le_trans List.countP_le_length ?_
     simp) (Ip F (fun i hi=>by
      rcases Nat.lt_or_ge i ops.size with x|x
      ·simp[Array.getD_eq_getD_getElem?,x]at hi
      ·simp[Array.getD_eq_getD_getElem?,Nat.not_lt.2 x]at hi) (by show HR c.floor β (view c (T 0).h) _;rw[t2];exact hr.drew _) (by show qx nt df β (T 0).sl a;rw[t1];exact hsl))
 ·rw[t2,t4]at hP
  rw[t3]at hs
  exact hQ β' a' w' df hP.drew (hdf.mono hP.sub) hs
theorem H6 {rd:Bool}{ds:List Nat}{sl:Tr AV}{h:H}{r:Tr AV×H}{id:Nat}(hO:Cz dr P ng)(hC:fN dr P ng call)(hng:P.globals.size<=ng)(hnt:nt<=1000000)(hw:WF h)(hc:Ctx c h)
    (e:ic c call nt (VF P ops) sl h=some r):bT dr P ng nt rd (.region id ops false) c sl ds h .normal r.1 ds r.2:=by
 refine⟨(fk (df:=[]) (rd:=none) (m:=0) (c:=c) (ops:=ops) (js:=[]) hO hC hng hnt ops.toList 0 sl h r (by simp) hw hc e).1,fun β a w df hgb hr hdf hsl hfr ro m hro Q hQ=>?_⟩
 obtain⟨h1,h2⟩:=fk (df:=df) (rd:=ro) (m:=m) (c:=c) (ops:=ops) (js:=[]) hO hC hng hnt ops.toList 0 sl h r (by simp) hw hc e
 show(Code.region id ops false).wpIn (W ro) m P Q a w
 refine wpIn_region ?_
 have:=h2 β a w hgb hr hsl hfr Q fun β' a' w' hP hs=>hQ β' a' w' df hP (hdf.mono hP.sub) hs
 rw[List.range_eq_range']
 simpa using this
theorem vO {h h1 h2:H}{β β1:bS}{g g1:View}{w w1:World}{f:Nat}(hP:ca dr f h.n h1.n β g w β1 g1 w1)(hfr: ∀id,h.n<=id->id<h2.n->β id=none): ∀id,h1.n<=id->id<h2.n->β1 id=none:=fun id q1 q2=>by
 cases hb:β1 id with
 |none=>rfl
 |some L=>
  have h0:=hfr id (Nat.le_trans hP.le q1) q2
  have:=hP.fresh id L hb h0
  omega
/-! results -/
theorem nK {α β:Type}{f:α->Sem β}{w:World}: ∀(l:List α) (ys:List β),l.length=ys.length->(∀(i:Nat) (x:α) (y:β),l[i]? =some x->ys[i]? =some y->(f x).run P w= .ok y w)->(l.mapM f).run P w= .ok ys w
 |[],[],_,_=>by simp
 |[],_::_,h,_=>by simp at h
 |_::_,[],h,_=>by simp at h
 |x::l,y::ys,h,hh=>by
  have h1:=hh 0 x y (by simp) (by simp)
  have h2:=nK l ys (by simpa using h) fun i x y e1 e2=>hh (i+1) x y (by simpa using e1) (by simpa using e2)
  simp[List.mapM_cons,h1,h2]
def Ak (tmps:Array Value):ResultVar->Sem Value
 | .tmp t=>pure (tmps.getD t undef)
 | .cell a t=>do loadVar t (<-asAddr (tmps.getD a undef))
theorem iW {df:List Deferred}{sl:Tr AV}{h:H}{r:lh}(hr:r≠ .bad): ∀(l:List ResultVar) (rs:List (Nat×Option (Option Nat))) (k:List AV->lh),l.mapM (Ac P)=some rs->j5 c h sl rs k=r->
    ∃vs,k vs=r/\ ∀β a w,HR c.floor β (view c h) w->qx nt df β sl a-> ∃us,bh β vs us/\us.length=l.length/\ ∀(i:Nat) (x:ResultVar) (y:Value),l[i]? =some x->us[i]? =some y->(Ak a.tmps x).run P w= .ok y w
 |[],rs,k,hm,e=>by
  simp at hm;subst hm
  exact⟨[],e,fun β a w _ _=>⟨[],by simp[bh],rfl,fun i x y h1=>by simp at h1⟩⟩
 |x::l,rs,k,hm,e=>by
  simp only[List.mapM_cons,Option.bind_eq_bind,Option.bind_eq_some_iff,Option.pure_def,Option.some.injEq]at hm
  obtain⟨q,h1,rs',h2,rfl⟩:=hm
  have glue: ∀(v:AV),j5 c h sl rs' (fun vs=>k (v::vs))=r->(∀β a w,HR c.floor β (view c h) w->qx nt df β sl a-> ∃u,VR β v u/\(Ak a.tmps x).run P w= .ok u w)->
      ∃vs,k vs=r/\ ∀β a w,HR c.floor β (view c h) w->qx nt df β sl a-> ∃us,bh β vs us/\us.length=(x::l).length/\ ∀(i:Nat) (x':ResultVar) (y:Value),(x::l)[i]? =some x'->us[i]? =some y->(Ak a.tmps x').run P w= .ok y w:=fun v e' hv=>by
   obtain⟨vs,k1,k2⟩:=iW hr l rs' _ h2 e'
   refine⟨v::vs,k1,fun β a w hrr hsl=>?_⟩
   obtain⟨u,u1,u2⟩:=hv β a w hrr hsl
   obtain⟨us,w1,w2,w3⟩:=k2 β a w hrr hsl
   refine⟨u::us,by simp only[bh];exact⟨u,us,rfl,u1,w1⟩,by simp[w2],fun i x' y e1 e2=>?_⟩
   cases i with
   |zero=>simp at e1 e2;subst e1 e2;exact u2
   |succ i=>exact w3 i x' y (by simpa using e1) (by simpa using e2)
  cases x with
  |tmp t=>
   simp[Ac]at h1;subst h1
   simp only[j5]at e
   exact glue _ e fun β a w hrr hsl=>⟨_,hsl.at_ t,by simp[Ak]⟩
  |cell at_ t=>
   simp only[Ac,Option.bind_eq_bind,Option.bind_eq_some_iff,Option.pure_def,Option.some.injEq]at h1
   obtain⟨n,h3,rfl⟩:=h1
   simp only[j5]at e
   cases hs:slot sl at_<;>rw[hs]at e<;>try(exact absurd e.symm hr)
   rename_i id off
   simp only at e
   cases hg:cr c h id with
   |none=>rw[hg]at e;exact absurd e.symm hr
   |some b=>
    rw[hg]at e
    cases b with
    |map _ _=>exact absurd e.symm hr
    |iter _ _ _ _=>exact absurd e.symm hr
    |x8 _ _ _ _ _=>exact absurd e.symm hr
    |UD _ _ _=>exact absurd e.symm hr
    |UE _ _=>exact absurd e.symm hr
    |Qg _=>exact absurd e.symm hr
    |Nh=>exact absurd e.symm hr
    |loop _ _ _ _ _ _ _ _=>exact absurd e.symm hr
    |dead=>exact absurd e.symm hr
    |cells vs=>
     simp only at e
     have pt: ∀β a w,HR c.floor β (view c h) w->qx nt df β sl a-> ∃L,β id=some L/\a.tmps.getD at_ undef= .pointer (some ⟨L.blk,L.base+off,none⟩)/\BR β L w (.cells vs):=fun β a w hrr hsl=>by
      have:=hsl.at_ at_
      rw[hs]at this
      exact Ae hrr this hg
     cases n with
     |none=>
      simp only at e
      cases hn:nth off vs with
      |none=>rw[hn]at e;exact absurd e.symm hr
      |some v=>
       rw[hn]at e
       rw[gA]at hn
       refine glue v e fun β a w hrr hsl=>?_
       obtain⟨L,hL,hu,hb⟩:=pt β a w hrr hsl
       obtain⟨u,hc,hvr⟩:=vB hb hn
       exact⟨u,hvr,by simp only[Ak];rw[hu];simp[asAddr,loadVar,pY h3,hc]⟩
     |some n=>
      simp only at e
      cases hn:(iO off vs fun vs=>fI n vs fun vs=>some vs)with
      |none=>rw[hn]at e;exact absurd e.symm hr
      |some cs=>
       rw[hn]at e
       obtain⟨q1,hn⟩:=gx hn
       obtain⟨q2,hn⟩:=gy hn
       cases hn
       refine glue _ e fun β a w hrr hsl=>?_
       obtain⟨L,hL,hu,hb⟩:=pt β a w hrr hsl
       obtain⟨cs,hvr,hc⟩:=kB hb (off:=off) (n:=n) (by simp at q2;omega)
       have hl:cs.length=n:=by rw[<-hvr.length];simp;simp at q2;omega
       have hld:=run_loadCells_list (P:=P) w _ cs hc
       rw[hl]at hld
       refine⟨.agg cs.toArray,by simp only[VR];exact⟨_,rfl,by simpa using hvr⟩,?_⟩
       simp only[Ak];rw[hu]
       simp[asAddr,loadVar,(pZ h3 w).1,(pZ h3 w).2,hld]
def xB:List Value->Value
 |[u]=>u
 |us=> .tuple us.toArray
theorem sH {fn:Func}{tmps:Array Value}{w:World}{us:List Value}(hl:us.length=fn.results.toList.length)(h: ∀(i:Nat) (x:ResultVar) (y:Value),fn.results.toList[i]? =some x->us[i]? =some y->(Ak tmps x).run P w= .ok y w):
    (results fn tmps).run P w= .ok (xB us) w:=by
 have h1:=nK (P:=P) (f:=Ak tmps) fn.results.toList us hl.symm h
 have e:results fn tmps=(do
     let vs<-fn.results.mapM (Ak tmps)
     pure (if h:vs.size=1 then vs[0]else .tuple vs)):=by
  unfold results
  rfl
 rw[e,Array.mapM_eq_mapM_toList]
 simp only[Sem.run_bind,map_eq_pure_bind,bind_assoc,pure_bind,h1,Result.andThen_ok]
 cases us with
 |nil=>simp[xB]
 |cons u us=>
  cases us with
  |nil=>simp[xB]
  |cons u' us=>simp[xB]
end
def iV:List AV->Nat->Tr AV->Tr AV
 |[],_,sl=>sl
 |v::vs,i,sl=>iV vs (i+1) (Tr.set depth sl i v)
theorem ot: ∀(vs:List AV) (i:Nat) (sl:Tr AV) (k:Tr AV->lh),slotsOf vs i sl k=k (iV vs i sl)
 |[],_,_,_=>rfl
 |v::vs,i,sl,k=>by
  unfold slotsOf iV
  rw[Tr.kA]
  exact ot vs (i+1) _ k
theorem sL: ∀(vs:List AV) (i:Nat) (sl:Tr AV) (t:Nat),i+vs.length<=1000000->slot (iV vs i sl) t=if i<=t/\t<i+vs.length then vs.getD (t-i) (.bn [])else slot sl t
 |[],i,sl,t,_=>by
  unfold iV
  rw[if_neg];simp
 |v::vs,i,sl,t,h=>by
  unfold iV
  simp only[List.length_cons]at h⊢
  rw[sL vs (i+1) _ t (by omega),lS (by omega)]
  by_cases e:i=t
  ·subst e
   rw[if_neg (by omega),if_pos rfl,if_pos (by omega)];simp
  ·by_cases q:i+1<=t/\t<i+1+vs.length
   ·rw[if_pos q,if_pos (by omega),show t-i=(t-(i+1))+1 by omega];simp
   ·rw[if_neg q,if_neg e,if_neg (by omega)]
section
variable {P:Program}{ng:Nat}
theorem sG {β:bS}{args:List AV}{cargs:List Value}{nt:Nat}(hv:bh β args cargs)(hl:args.length<=nt)(hnt:nt<=1000000):
    qx nt [] β (iV args 0 .nil) {tmps:=cargs.toArray++Array.replicate (nt-cargs.toArray.size) undef,defers:=[]}:=by
 have hlen:=hv.length
 refine⟨by simp;omega,rfl,fun t=>?_⟩
 rw[sL args 0 _ t (by omega)]
 by_cases q:t<args.length
 ·rw[if_pos (by omega)]
  have e1:args[t]? =some args[t]:=by simp
  obtain⟨u,h1,h2⟩:=hv.get e1
  have hlt:=(List.getElem?_eq_some_iff.1 h1).1
  have e2:(cargs.toArray++Array.replicate (nt-cargs.toArray.size) undef).getD t undef=u:=by
   rw[Array.getD_eq_getD_getElem?,Array.getElem?_append_left (by simpa using hlt)]
   simp[h1]
  have e3:args.getD (t-0) (.bn [])=args[t]:=by simp[q]
  show VR β _ ((cargs.toArray++Array.replicate (nt-cargs.toArray.size) undef).getD t undef)
  rw[e2,e3];exact h2
 ·rw[if_neg (by omega)]
  have e2:(cargs.toArray++Array.replicate (nt-cargs.toArray.size) undef).getD t undef=undef:=by
   rw[Array.getD_eq_getD_getElem?,Array.getElem?_append_right (by simp;omega)]
   rw[Array.getElem?_replicate]
   split<;>rfl
  show VR β _ ((cargs.toArray++Array.replicate (nt-cargs.toArray.size) undef).getD t undef)
  rw[e2]
  have:slot (Tr.nil:Tr AV) t= .bn []:=by unfold slot;rw[Tr.get_nil]
  rw[this];exact p9
theorem sF {o:Out}{e:Ex}{ds ds':List Nat}{sl':Tr AV}{h':H}(x:rC ds o= .code e sl' ds' h'):e= .normal/\ds'=ds/\o=some (sl',h'):=by
 unfold rC at x
 split at x
 ·cases x;exact⟨rfl,rfl,rfl⟩
 ·cases x
theorem EP {x:Option lh}{r:lh}(hr:r≠ .bad)(e:Ky x=r):x=some r:=by
 unfold Ky at e
 split at e
 ·rw[e]
 ·exact absurd e.symm hr
def rE (dr:Prop)(P:Program)(ng:Nat)(ih:Runner):Prop:= ∀(c:C) (nt:Nat) (rd:Bool) (code:Code) (sl:Tr AV) (ds:List Nat) (h:H) (e:Ex) (sl':Tr AV) (ds':List Nat) (h':H),nt<=1000000->Ctx c h->WF h->ih c (.code nt rd (cC P code) sl ds) h= .code e sl' ds' h'->bT dr P ng nt rd code c sl ds h e sl' ds' h'
section
variable {c:C}{nt:Nat}{rd:Bool}{x y:Code}{sl sl1 sl2:Tr AV}{ds ds1 ds2:List Nat}{h h1 h2:H}{e:Ex}
theorem bT.seq (d1:bT dr P ng nt rd x c sl ds h .normal sl1 ds1 h1)(d2:bT dr P ng nt rd y c sl1 ds1 h1 e sl2 ds2 h2):bT dr P ng nt rd (.seq x y) c sl ds h e sl2 ds2 h2:=by
 refine⟨d1.1.trans d2.1,fun β a w df hgb hr hdf hsl hfr ro m hro Q hQ=>?_⟩
 show(Code.seq x y).wpIn (W ro) m P Q a w
 refine wpIn_seq (wC.wp (d1.2 β a w df hgb hr hdf hsl (fun id q1 q2=>hfr id q1 (Nat.lt_of_lt_of_le q2 d2.1.le)) ro m hro _ fun β1 a1 w1 df1 hP1 hd1 hs1=>?_))
 exact wC.wp (d2.2 β1 a1 w1 df1 (hgb.mono hP1.sub) hP1.hr hd1 hs1 (vO hP1 hfr) ro m hro Q fun β2 a2 w2 df2 hP2 hd2 hs2=>hQ β2 a2 w2 df2 (hP1.trans hP2) hd2 hs2)
theorem bT.KC (d1:bT dr P ng nt rd x c sl ds h e sl1 ds1 h1)(he:e≠ .normal):bT dr P ng nt rd (.seq x y) c sl ds h e sl1 ds1 h1:=by
 refine⟨d1.1,fun β a w df hgb hr hdf hsl hfr ro m hro Q hQ=>?_⟩
 show(Code.seq x y).wpIn (W ro) m P Q a w
 refine wpIn_seq (wC.wp (d1.2 β a w df hgb hr hdf hsl hfr ro m hro _ fun β1 a1 w1 df1 hP1 hd1 hs1=>?_))
 cases e with
 |normal=>exact absurd rfl he
 |exit id=>exact hQ β1 a1 w1 df1 hP1 hd1 hs1
 |ret=>exact hQ β1 a1 w1 df1 hP1 hd1 hs1
theorem bT.loop (d1:bT dr P ng nt rd x c sl ds h .normal sl1 ds1 h1)(d2:bT dr P ng nt rd (.loop x) c sl1 ds1 h1 e sl2 ds2 h2):bT dr P ng nt rd (.loop x) c sl ds h e sl2 ds2 h2:=by
 refine⟨d1.1.trans d2.1,fun β a w df hgb hr hdf hsl hfr ro m hro Q hQ=>?_⟩
 show rL (W ro) m P x Q a w
 refine lX (wC.wp (d1.2 β a w df hgb hr hdf hsl (fun id q1 q2=>hfr id q1 (Nat.lt_of_lt_of_le q2 d2.1.le)) ro m hro _ fun β1 a1 w1 df1 hP1 hd1 hs1=>?_))
 exact d2.2 β1 a1 w1 df1 (hgb.mono hP1.sub) hP1.hr hd1 hs1 (vO hP1 hfr) ro m hro Q fun β2 a2 w2 df2 hP2 hd2 hs2=>hQ β2 a2 w2 df2 (hP1.trans hP2) hd2 hs2
theorem bT.FZ (d1:bT dr P ng nt rd x c sl ds h e sl1 ds1 h1)(he:e≠ .normal):bT dr P ng nt rd (.loop x) c sl ds h e sl1 ds1 h1:=by
 refine⟨d1.1,fun β a w df hgb hr hdf hsl hfr ro m hro Q hQ=>?_⟩
 show rL (W ro) m P x Q a w
 refine lX (wC.wp (d1.2 β a w df hgb hr hdf hsl hfr ro m hro _ fun β1 a1 w1 df1 hP1 hd1 hs1=>?_))
 cases e with
 |normal=>exact absurd rfl he
 |exit id=>exact hQ β1 a1 w1 df1 hP1 hd1 hs1
 |ret=>exact hQ β1 a1 w1 df1 hP1 hd1 hs1
theorem bT.nothing (hw:WF h)(hx: ∀r m (Q:Exit->Act->World->Prop) a w,Q e.oq a w->wC (W r) m P x Q a w):bT dr P ng nt rd x c sl ds h e sl ds h:=
 ⟨Step.refl hw,fun β a w df hgb hr hdf hsl hfr ro m hro Q hQ=>hx ro m Q a w (hQ β a w df (ca.refl hr) hdf hsl)⟩
end
/-! writing a block that is no row of cells -/
theorem ES {c:C}{h:H}{id:Nat}{b:AB}{β:bS}{w:World}(hg:cr c h id=some b)(hb:b≠ .dead)(hr:HR c.floor β (view c h) w): ∃L,β id=some L/\L.blk<w.heap.size/\BR β L w b:=hr.at_ id b (fi hg hb)
theorem KZ {c:C}{h:H}{id:Nat}{b b':AB}{β:bS}{w:World}{L:Loc}{ob:Obj}(hw:WF h)(hg:cr c h id=some b)(hb:b≠ .dead)(hf:c.floor<=id)(hr:HR c.floor β (view c h) w)(hL:β id=some L)
    (hbr:BR β L {w with heap:=w.heap.setIfInBounds L.blk ob} b'):ca dr c.floor h.n h.n β (view c h) w β (view c ⟨Tr.set depth h.t id b',h.n⟩) {w with heap:=w.heap.setIfInBounds L.blk ob}:=by
 obtain⟨g1,g2⟩:=bN hg
 have hid:id<id+1:=Nat.lt_succ_self _
 exact gw (b:=b') hr (fi hg hb) hL hf (fun B hB=>by simp[Array.getElem?_setIfInBounds_ne (Ne.symm hB)]) (by simp) rfl ⟨rfl,fun _=>Nat.le_refl _⟩ rfl hbr (fun j d e=>fM hid e)
/-! the marks at a function's end -/
theorem ou {c:C}{r:lh}(hr:r≠ .bad): ∀(ds:List Nat) (h:H) (k:H->lh),WF h->sB c ds h k=r-> ∃h2,k h2=r/\Step c h h2/\h2.n=h.n/\ ∀β w df,HR c.floor β (view c h) w->QF β ds df-> ∀(n:Nat) (fn:Func) (tmps:Array Value) (R:Ending->World->Prop),
    (∀w2,ca dr c.floor h.n h2.n β (view c h) w β (view c h2) w2-> ∃v,(results fn tmps).run P w2= .ok v w2/\R (.returned v) w2)->LeavesInM (W none) n P fn tmps R df .returning w
 |[],h,k,hw,e=>⟨h,e,Step.refl hw,rfl,fun β w df hrr hdf n fn tmps R hR=>by
     have:df=[]:=hdf
     subst this
     exact hR w (ca.refl hrr)⟩
 |d::ds,h,k,hw,e=>by
  unfold sB at e
  split at e
  ·rename_i hg
   have e:=EP hr e
   obtain⟨hf,hs,e⟩:=dQ e
   have e:sB c ds ⟨Tr.set depth h.t d .dead,h.n⟩ k=r:=by simpa using e
   obtain⟨g1,g2⟩:=bN hg
   have st:=eJ (c:=c) (b:= .dead) hw g1 hf hs
   obtain⟨h2,k1,k2,k3,k4⟩:=ou hr ds _ k st.wf e
   refine⟨h2,k1,st.trans k2,k3,fun β w df hrr hdf n fn tmps R hR=>?_⟩
   obtain⟨D,df',rfl,hD,hdf'⟩:=hdf
   obtain⟨D',q1,q2,q3⟩:=ES hg (fun q=>by cases q) hrr
   rw[hD]at q1;cases q1
   have hP:=KZ (dr:=dr) (b':= .dead) (ob:= .deferred none) hw hg (fun q=>by cases q) hf hrr hD trivial
   refine⟨fun q=>(by cases q),Or.inl ⟨D.blk,{w with heap:=w.heap.setIfInBounds D.blk (.deferred none)},rfl,?_,?_⟩⟩
   ·have q3':w.heap[D.blk]? =some (.deferred (some [])):=q3
    simp[Instr.takeDeferred,getObj,setObj,Sem.run,q3']
   ·exact k4 β _ df' hP.hr hdf' n fn tmps R fun w2 hP2=>hR w2 (hP.trans hP2)
  ·exact absurd e.symm hr
end
section
variable {P:Program}{ng:Nat}{X:cj}
def yg (P:Program)(X:cj):Prop:= ∀(f:Nat) (g:List AV->Option AV),yf X f=some g-> ∀args v,g args=some v-> ∀β cargs (w:World),bh β args cargs-> ∃u,(callFunc f cargs.toArray).run P w= .ok (.value u) w/\VR β v u
end
section
variable {P:Program}{ng:Nat}{X:cj}
end
end
section
variable {dr:Prop}
section
variable {P:Program}{ng:Nat}{X:cj}{M:Mf}
def da (dr:Prop)(P:Program)(ng:Nat)(M:Mf):Prop:= ∀f args c h v h',M f args c h=some (v,h')->Ctx c h->WF h->vC dr P ng (.fn f) args c h v h'
theorem H5 {n:Nat}(hmx:P.follows .mixedOrders=true)(hO:Cz dr P ng)(hng:P.globals.size<=ng)(ihc:rE dr P ng (ev (cC P) (bJ P X) M n))(ihf:fN dr P ng (eC (ev (cC P) (bJ P X) M n))):rE dr P ng (ev (cC P) (bJ P X) M (n+1)):=by
 intro c nt rd code sl ds h e sl' ds' h' hnt hc hw hev
 have hev':iR (ev (cC P) (bJ P X) M n) c nt rd (cC P code) sl ds h= .code e sl' ds' h':=hev
 cases code with
 |skip=>
  simp only[cC,iR]at hev'
  cases hev'
  exact bT.nothing hw fun r m Q a w hQ=>wpIn_skip hQ
 |region id ops draws=>
  cases draws with
  |false=>
   simp only[cC,iR]at hev'
   obtain⟨rfl,rfl,e1⟩:=sF hev'
   exact H6 hO ihf hng hnt hw hc e1
  |true=>
   simp only[cC]at hev'
   cases fX:Pb ops (Region.before ops)with
   |false=>rw[fX]at hev';simp only[cond,iR]at hev';cases hev'
   |true=>
    rw[fX]at hev'
    simp only[cond,iR]at hev'
    obtain⟨rfl,rfl,e1⟩:=sF hev'
    exact EH hmx hO ihf hng hnt fX hw hc e1
 |seq x y=>
  simp only[cC,iR]at hev'
  cases hx:ev (cC P) (bJ P X) M n c (.code nt rd (cC P x) sl ds) h with
  |bad=>rw[hx]at hev';cases hev'
  |call _ _=>rw[hx]at hev';cases hev'
  |code e1 sl1 ds1 h1=>
   rw[hx]at hev'
   have d1:=ihc c nt rd x sl ds h e1 sl1 ds1 h1 hnt hc hw hx
   cases e1 with
   |normal=>
    simp only[dT]at hev'
    exact d1.seq (ihc c nt rd y sl1 ds1 h1 e sl' ds' h' hnt (hc.mono d1.1.le) d1.1.wf hev')
   |exit id=>simp only[dT]at hev';cases hev';exact d1.KC (fun q=>by cases q)
   |ret=>simp only[dT]at hev';cases hev';exact d1.KC (fun q=>by cases q)
 |cond v x y=>
  simp only[cC]at hev'
  cases hv:cV v with
  |none=>rw[hv]at hev';simp only[iR]at hev';cases hev'
  |some xv=>
   rw[hv]at hev'
   cases hg:Dp P v with
   |false=>rw[hg]at hev';simp only[iR]at hev';cases hev'
   |true=>
    rw[hg]at hev'
    simp only[iR]at hev'
    have key: ∀(β:bS) (a:Act) df,GB ng β->qx nt df β sl a->VR β (bG sl xv) (a.eval v):=fun β a df hgb hsl=>
     my (P:=P) (ys:=[v]) hng hgb (by simp[hg]) (fun t _=>hsl.at_ t) v (by simp) xv hv
    cases hs:bG sl xv<;>rw[hs]at hev'<;>first|(simp only[mw]at hev';cases hev';done)|skip
    rename_i b
    cases b with
    |true=>
     simp only[mw]at hev'
     have d:=ihc c nt rd x sl ds h e sl' ds' h' hnt hc hw hev'
     refine⟨d.1,fun β a w df hgb hr hdf hsl hfr ro m hro Q hQ=>?_⟩
     have k:=key β a df hgb hsl
     rw[hs]at k;simp only[VR]at k
     exact wpIn_cond_true k (wC.wp (d.2 β a w df hgb hr hdf hsl hfr ro m hro Q hQ))
    |false=>
     simp only[mw]at hev'
     have d:=ihc c nt rd y sl ds h e sl' ds' h' hnt hc hw hev'
     refine⟨d.1,fun β a w df hgb hr hdf hsl hfr ro m hro Q hQ=>?_⟩
     have k:=key β a df hgb hsl
     rw[hs]at k;simp only[VR]at k
     exact wpIn_cond_false k (wC.wp (d.2 β a w df hgb hr hdf hsl hfr ro m hro Q hQ))
 |block id x=>
  simp only[cC,iR]at hev'
  cases hx:ev (cC P) (bJ P X) M n c (.code nt rd (cC P x) sl ds) h with
  |bad=>rw[hx]at hev';cases hev'
  |call _ _=>rw[hx]at hev';cases hev'
  |code e1 sl1 ds1 h1=>
   rw[hx]at hev'
   have d1:=ihc c nt rd x sl ds h e1 sl1 ds1 h1 hnt hc hw hx
   have fin:e1≠ .exit id->e1=e->sl1=sl'->ds1=ds'->h1=h'->bT dr P ng nt rd (.block id x) c sl ds h e sl' ds' h':=fun hne q1 q2 q3 q4=>by
    subst q1 q2 q3 q4
    refine⟨d1.1,fun β a w df hgb hr hdf hsl hfr ro m hro Q hQ=>?_⟩
    show(Code.block id x).wpIn (W ro) m P Q a w
    refine wpIn_block (wC.wp (d1.2 β a w df hgb hr hdf hsl hfr ro m hro _ fun β1 a1 w1 df1 hP1 hd1 hs1=>?_))
    cases e1 with
    |normal=>exact hQ β1 a1 w1 df1 hP1 hd1 hs1
    |ret=>exact hQ β1 a1 w1 df1 hP1 hd1 hs1
    |exit id'=>
     have:id'≠id:=fun q=>hne (by rw[q])
     simp only[Ex.oq,Exit.inBlock,if_neg this]
     exact hQ β1 a1 w1 df1 hP1 hd1 hs1
   cases e1 with
   |normal=>simp only[ee]at hev';cases hev';exact fin (fun q=>by cases q) rfl rfl rfl rfl
   |ret=>simp only[ee]at hev';cases hev';exact fin (fun q=>by cases q) rfl rfl rfl rfl
   |exit id'=>
    simp only[ee]at hev'
    cases hb:Nat.beq id' id with
    |false=>
     rw[hb]at hev'
     simp only[cond]at hev'
     cases hev'
     exact fin (fun q=>by cases q;simp at hb) rfl rfl rfl rfl
    |true=>
     rw[hb]at hev'
     simp only[cond]at hev'
     cases hev'
     have hid:id'=id:=Nat.eq_of_beq_eq_true hb
     refine⟨d1.1,fun β a w df hgb hr hdf hsl hfr ro m hro Q hQ=>?_⟩
     show(Code.block id x).wpIn (W ro) m P Q a w
     refine wpIn_block (wC.wp (d1.2 β a w df hgb hr hdf hsl hfr ro m hro _ fun β1 a1 w1 df1 hP1 hd1 hs1=>?_))
     simp only[Ex.oq,Exit.inBlock,if_pos hid]
     exact hQ β1 a1 w1 df1 hP1 hd1 hs1
 |loop x=>
  have old:dT (ev (cC P) (bJ P X) M n) c nt rd (cC P (.loop x)) (ev (cC P) (bJ P X) M n c (.code nt rd (cC P x) sl ds) h)= .code e sl' ds' h'->bT dr P ng nt rd (.loop x) c sl ds h e sl' ds' h':=fun hev'=>by
   cases hx:ev (cC P) (bJ P X) M n c (.code nt rd (cC P x) sl ds) h with
   |bad=>rw[hx]at hev';cases hev'
   |call _ _=>rw[hx]at hev';cases hev'
   |code e1 sl1 ds1 h1=>
    rw[hx]at hev'
    have d1:=ihc c nt rd x sl ds h e1 sl1 ds1 h1 hnt hc hw hx
    cases e1 with
    |normal=>
     simp only[dT]at hev'
     exact d1.loop (ihc c nt rd (.loop x) sl1 ds1 h1 e sl' ds' h' hnt (hc.mono d1.1.le) d1.1.wf hev')
    |exit id=>simp only[dT]at hev';cases hev';exact d1.FZ (fun q=>by cases q)
    |ret=>simp only[dT]at hev';cases hev';exact d1.FZ (fun q=>by cases q)
  refine old (Eq.trans ?_ hev')
  simp only[cC];rfl
 |exit id=>
  simp only[cC,iR]at hev'
  cases hev'
  exact bT.nothing hw fun r m Q a w hQ=>wpIn_exit hQ
 |ret=>
  simp only[cC,iR]at hev'
  cases hev'
  exact bT.nothing hw fun r m Q a w hQ=>wpIn_ret hQ
 |label l=>
  simp only[cC,iR]at hev'
  cases hev'
  exact bT.nothing hw fun r m Q a w hQ=>wpIn_label hQ
 |_=>simp only[cC,iR]at hev';cases hev'
theorem EI {f:Nat}{x:XF}(h:ye P f=some x): ∃fn b rs,P.funcs[f]? =some fn/\fn.body=some b/\fn.results.toList.mapM (Ac P)=some rs/\fn.ntmps<=1000000/\x={nt:=fn.ntmps,res:=rs,body:=cC P b}:=by
 unfold ye at h
 rw[Option.bind_eq_some_iff]at h
 obtain⟨fn,h1,h2⟩:=h
 unfold cF at h2
 simp only[Option.bind_eq_bind,Option.bind_eq_some_iff]at h2
 obtain⟨b,h3,rs,h4,h5⟩:=h2
 split at h5
 ·rename_i hle
  simp at h5
  exact⟨fn,b,rs,h1,h3,h4,hle,h5.symm⟩
 ·cases h5
theorem F0 {ih:Runner}{c:C}{f:Nat}{x:XF}{args:List AV}{h:H}{v:AV}{h':H}(hNG: ∀(f:Nat) (fn:Func),P.funcs[f]? =some fn->(fn.name== "runtime.NumGoroutine")=false)(ihc:rE dr P ng ih)(hc:Ctx c h)(hw:WF h)(ht:ye P f=some x)
    (hev':jk ih c args h (some (.fn x))= .call v h'):kQ dr P ng f args c h v h':=by
 obtain⟨fn,b,rs,h1,h2,h3,h4,rfl⟩:=EI ht
 simp only[jk]at hev'
 cases hle:Nat.ble (gI args) fn.ntmps with
 |false=>rw[hle]at hev';cases hev'
 |true=>
  rw[hle]at hev'
  simp only[cond,ot]at hev'
  have hle':args.length<=fn.ntmps:=by have:=Nat.le_of_ble_eq_true hle;rwa [cX]at this
  cases hx:ih c (.code fn.ntmps false (cC P b) (iV args 0 .nil) []) h with
  |bad=>rw[hx]at hev';cases hev'
  |call _ _=>rw[hx]at hev';cases hev'
  |code e1 sl1 ds1 h1'=>
   rw[hx]at hev'
   have d:=ihc c fn.ntmps false b _ [] h e1 sl1 ds1 h1' h4 hc hw hx
   have main:sB c ds1 h1' (fun h=>j5 c h sl1 rs fun vs=>gv h vs)= .call v h'->(e1= .normal\/e1= .ret)->kQ dr P ng f args c h v h':=fun hres he=>by
    obtain⟨h2',hres,st2,hn2,hshut⟩:=ou (P:=P) (fun q=>by cases q) ds1 h1' _ d.1.wf hres
    obtain⟨vs,k1,_⟩:=iW (P:=P) (df:=[]) (nt:=fn.ntmps) (fun q=>by cases q) fn.results.toList rs _ h3 hres
    have hh:h2'=h':=by
     unfold gv at k1
     split at k1<;>(cases k1;rfl)
    subst hh
    refine⟨d.1.trans st2,⟨fn,h1,by rw[h2];rfl,hNG f fn h1⟩,fun β w cargs hgb hr hv hfr R hR=>?_⟩
    refine(j6 (r:=none) (n:=0)).1 (callsIn_of_wp_marks h1 h2 trivial (wC.wp (F:=W none) (d.2 β _ w [] hgb hr rfl (sG hv hle' h4) (fun id q1 q2=>hfr id q1 (by rw[hn2];exact q2)) none 0 (fun _=>rfl) _ fun β1 a1 w1 df1 hP1 hd1 hs1=>?_)))
    have leave:LeavesInM (W none) 0 P fn a1.tmps R a1.defers .returning w1:=by
     rw[hs1.defers]
     refine hshut β1 w1 df1 hP1.hr hd1 0 fn a1.tmps R fun w2 hP2=>?_
     obtain⟨vs',k1',k2⟩:=iW (P:=P) (df:=df1) (nt:=fn.ntmps) (fun q=>by cases q) fn.results.toList rs _ h3 hres
     obtain⟨us,u1,u2,u3⟩:=k2 β1 a1 w2 hP2.hr hs1
     have hrun:=sH (P:=P) u2 u3
     have hvr:VR β1 v (xB us):=by
      cases vs' with
      |nil=>
       simp only[gv]at k1'
       cases k1'
       simp only[bh]at u1;subst u1
       simp[VR,bh,xB]
      |cons v1 vs'=>
       cases vs' with
       |nil=>
        simp only[gv]at k1'
        cases k1'
        simp only[bh]at u1
        obtain⟨u,us',rfl,q1,rfl⟩:=u1
        exact q1
       |cons v2 vs'=>
        simp only[gv]at k1'
        cases k1'
        have u1':=u1
        simp only[bh]at u1
        obtain⟨u,us',rfl,q1,u2',us'',rfl,q2,q3⟩:=u1
        simp only[VR,xB]
        exact⟨_,rfl,by simpa using u1'⟩
     exact⟨_,hrun,hR β1 _ w2 (hP1.trans hP2) hvr⟩
    rcases he with rfl|rfl
    ·exact leave
    ·exact leave
   cases e1 with
   |normal=>exact main hev' (Or.inl rfl)
   |ret=>exact main hev' (Or.inr rfl)
   |exit id=>cases hev'
theorem H7 {n:Nat}(hNG: ∀(f:Nat) (fn:Func),P.funcs[f]? =some fn->(fn.name== "runtime.NumGoroutine")=false)(hX:yg P X)(hM:da dr P ng M)(ihc:rE dr P ng (ev (cC P) (bJ P X) M n)):fN dr P ng (eC (ev (cC P) (bJ P X) M (n+1))):=by
 intro f args c h v h' hc hw hcall
 unfold eC at hcall
 have hev:ev (cC P) (bJ P X) M (n+1) c (.call f args) h= .call v h':=by
  cases hx:ev (cC P) (bJ P X) M (n+1) c (.call f args) h with
  |bad=>rw[hx]at hcall;cases hcall
  |code _ _ _ _=>rw[hx]at hcall;cases hcall
  |call v1 h1=>rw[hx]at hcall;cases hcall;rfl
 cases f with
 |Dn id=>
  have hev':lh.bad= .call v h':=hev
  cases hev'
 |Jc f=>
  have hev':(match bJ P X f with|some (.fn x)=>jk (ev (cC P) (bJ P X) M n) c args h (some (.fn x))|_=> .bad)= .call v h':=hev
  split at hev'
  ·rename_i x ht
   unfold bJ at ht
   split at ht
   ·cases ht
   ·simp only[Option.map_eq_some_iff]at ht
    obtain⟨x',h1,h2⟩:=ht
    cases h2
    exact F0 hNG ihc hc hw h1 hev'
  ·cases hev'
 |fn f=>
  show vC dr P ng (.fn f) args c h v h'
  have hev0:(match M f args c h with|some r=>lh.call r.1 r.2|none=>jk (ev (cC P) (bJ P X) M n) c args h (bJ P X f))= .call v h':=hev
  cases hmm:M f args c h with
  |some r=>
   rw[hmm]at hev0
   cases hev0
   exact hM f args c h r.1 r.2 hmm hc hw
  |none=>
  rw[hmm]at hev0
  have hev':jk (ev (cC P) (bJ P X) M n) c args h (bJ P X f)= .call v h':=hev0
  cases hx:yf X f with
  |some g=>
   have ht:bJ P X f=some (.ext g):=by unfold bJ;rw[hx]
   rw[ht]at hev'
   simp only[jk]at hev'
   split at hev'
   ·rename_i v1 hg
    cases hev'
    refine⟨Step.refl hw,fun β w cargs hgb hr hv hfr S hS r n o a K Q hK=>?_⟩
    have hS':S=callFunc f cargs.toArray:=hS
    subst hS'
    obtain⟨u,q1,q2⟩:=hX f g hx args v hg β cargs w hv
    rw[q1,Oper.uponIn_value]
    exact hK β u w (ca.refl hr) q2
   ·cases hev'
  |none=>
   have ht:bJ P X f=(ye P f).map .fn:=by unfold bJ;rw[hx]
   rw[ht]at hev'
   cases hf:ye P f with
   |none=>rw[hf]at hev';cases hev'
   |some x=>
    rw[hf]at hev'
    exact(F0 hNG ihc hc hw hf hev').up
theorem oG (hmx:P.follows .mixedOrders=true)(hO:Cz dr P ng)(hng:P.globals.size<=ng)(hNG: ∀(f:Nat) (fn:Func),P.funcs[f]? =some fn->(fn.name== "runtime.NumGoroutine")=false)(hX:yg P X)(hM:da dr P ng M): ∀n,rE dr P ng (ev (cC P) (bJ P X) M n)/\fN dr P ng (eC (ev (cC P) (bJ P X) M n))
 |0=>⟨fun c nt rd code sl ds h e sl' ds' h' _ _ _ q=>(by cases q),fun f args c h v h' _ _ q=>(by cases q)⟩
 |n+1=>
  have ih:=oG hmx hO hng hNG hX hM n
  ⟨H5 hmx hO hng ih.1 ih.2,H7 hNG hX hM ih.1⟩
theorem da.nil:da dr P ng (yd []):=fun f args c h v h' q=>by cases q
theorem da.no:da dr P ng Vw:=fun f args c h v h' q=>by cases q
theorem da.cons {m:HV}{ms:List HV}(h1:da dr P ng (yd [m]))(h2:da dr P ng (yd ms)):da dr P ng (yd (m::ms)):=fun f args c h v h' q hc hw=>by
 unfold yd Ab at q
 cases hh:S9 m f args c h with
 |true=>
  rw[hh]at q
  exact h1 f args c h v h' (by unfold yd Ab;rw[hh];exact q) hc hw
 |false=>
  rw[hh]at q
  exact h2 f args c h v h' q hc hw
end
def cM (dr:Prop)(P:Program)(ng:Nat)(o:Oper)(c:C)(sl:Tr AV)(h:H)(k:dE)(r:Tr AV×H):Prop:= ∃v h',k v h'=some r/\oF dr P ng o c sl h v h'
section
variable {P:Program}{ng:Nat}{o:Oper}{c:C}{call:dS}{sl:Tr AV}{h:H}{k:dE}{r:Tr AV×H}
theorem vP {a b:IntKind}(h:eD a b=true):a=b:=by simpa[eD]using h
theorem yk {f:IntKind->Int->Int->H->dE->Out}{x y:XV}(e:ints f x y c call sl h k=some r): ∃p a b,bG sl x= .int p a/\bG sl y= .int p b/\f p a b h k=some r:=by
 unfold ints at e
 split at e
 ·rename_i p a q b h1 h2
  cases hb:eD p q with
  |false=>rw[hb]at e;cases e
  |true=>
   rw[hb]at e
   have:=vP hb
   subst this
   exact⟨p,a,b,h1,h2,e⟩
 ·cases e
def eQ (P:Program)(op:BinOp)(t:TypeId)(f:IntKind->Int->Int->H->dE->Out):Prop:= ∀p a b (h:H) (k:dE) (r:Tr AV×H),f p a b h k=some r-> ∃v,k v h=some r/\ ∀w:World,∃u,(binOp op t (.int p a) (.int p b)).run P w= .ok u w/\ ∀β,VR β v u
theorem fS {op:BinOp}{t t':TypeId}{y z:Operand}{xy xz:XV}{f:IntKind->Int->Int->H->dE->Out}(ho:o.op= .binOp op t y z t')(hy:cV y=some xy)(hz:cV z=some xz)(hg:op≠ .eql/\op≠ .neq)(hw:WF h)
    (hf:eQ P op t f) (e:ints f xy xz c call sl h k=some r):cM dr P ng o c sl h k r:=by
 obtain⟨p,a,b,h1,h2,e⟩:=yk e
 obtain⟨v,k1,k2⟩:=hf p a b h k r e
 exact⟨v,h,k1,KF ho hy hz h1 h2 hg hw k2⟩
theorem K2 {t:TypeId}:eQ P .add t Nj:=fun p a b h k r e=>by
 have h2:=rF e
 exact⟨.int p (p.wrap (a+b)),h2,fun w=>⟨.int p (p.wrap (a+b)),by simp[binOp,Op.intArith],fun β=>by simp[VR]⟩⟩
theorem K3 {t:TypeId}:eQ P .sub t Nk:=fun p a b h k r e=>by
 have h2:=rF e
 exact⟨.int p (p.wrap (a-b)),h2,fun w=>⟨.int p (p.wrap (a-b)),by simp[binOp,Op.intArith],fun β=>by simp[VR]⟩⟩
theorem K4 {t:TypeId}:eQ P .mul t Qr:=fun p a b h k r e=>by
 have h2:=rF e
 exact⟨.int p (p.wrap (a*b)),h2,fun w=>⟨.int p (p.wrap (a*b)),by simp[binOp,Op.intArith],fun β=>by simp[VR]⟩⟩
theorem K5 {t:TypeId}:eQ P .quo t Nl:=fun p a b h k r e=>by
 unfold Nl at e
 cases hb:Jg b 0 with
 |true=>rw[hb]at e;cases e
 |false=>
  rw[hb]at e
  rw[rJ,decide_eq_false_iff_not]at hb
  obtain⟨h1,h2⟩:=mz e
  exact⟨.int p (a.tdiv b),h2,fun w=>⟨.int p (a.tdiv b),by simp[binOp,Op.intDiv,hb,h1],fun β=>by simp[VR]⟩⟩
theorem K6 {t:TypeId}:eQ P .rem t Nn:=fun p a b h k r e=>by
 unfold Nn at e
 cases hb:Jg b 0 with
 |true=>rw[hb]at e;cases e
 |false=>
  rw[hb]at e
  rw[rJ,decide_eq_false_iff_not]at hb
  obtain⟨h1,h2⟩:=mz e
  exact⟨.int p (a.tmod b),h2,fun w=>⟨.int p (a.tmod b),by simp[binOp,Op.intDiv,hb],fun β=>by simp[VR]⟩⟩
theorem K7 {t:TypeId}:eQ P .lss t Kq:=fun p a b h k r e=>
 ⟨_,eW e,fun w=>⟨.bool (HP a b),by simp[binOp,Op.intCmp,fQ],fun β=>by simp[VR]⟩⟩
theorem K8 {t:TypeId}:eQ P .leq t Kr:=fun p a b h k r e=>
 ⟨_,eW e,fun w=>⟨.bool (!HP b a),by simp[binOp,Op.intCmp,fQ];rw[Bool.eq_iff_iff];simp,fun β=>by simp[VR]⟩⟩
theorem K9 {t:TypeId}:eQ P .gtr t Ks:=fun p a b h k r e=>
 ⟨_,eW e,fun w=>⟨.bool (HP b a),by simp[binOp,Op.intCmp,fQ],fun β=>by simp[VR]⟩⟩
theorem La {t:TypeId}:eQ P .geq t Kt:=fun p a b h k r e=>
 ⟨_,eW e,fun w=>⟨.bool (!HP a b),by simp[binOp,Op.intCmp,fQ];rw[Bool.eq_iff_iff];simp,fun β=>by simp[VR]⟩⟩
theorem Al {op:BinOp}{t t':TypeId}{y z:Operand}{xy xz:XV}{v:AV}(ho:o.op= .binOp op t y z t')(hy:cV y=some xy)(hz:cV z=some xz)(hw:WF h)
    (hrun: ∀β (w:World) u u',VR β (bG sl xy) u->VR β (bG sl xz) u'->(eqGuard op t y z u u').run P w= .ok () w/\ ∃q,(binOp op t u u').run P w= .ok q w/\VR β v q):oF dr P ng o c sl h v h:=by
 refine aV hw fun β a w hr hop=>?_
 obtain⟨h1,q,h2,h3⟩:=hrun β w (a.eval y) (a.eval z) (hop y (by simp[ho,Op.operands]) xy hy) (hop z (by simp[ho,Op.operands]) xz hz)
 exact⟨q,by simp[execOp,ho,h1,h2],h3⟩
/-! strings -/
theorem rM {op:BinOp}{t:TypeId}{y z:Operand}{a b:ByteArray}(w:World):(eqGuard op t y z (.string a) (.string b)).run P w= .ok () w:=by
 cases op<;>simp[eqGuard]
theorem toNat_inj: ∀(l m:List UInt8),l.map UInt8.toNat=m.map UInt8.toNat->l=m
 |[],[],_=>rfl
 |[],_::_,h=>by simp at h
 |_::_,[],h=>by simp at h
 |a::l,b::m,h=>by
  simp only[List.map_cons,List.cons.injEq]at h
  rw[UInt8.toNat_inj.1 h.1,toNat_inj l m h.2]
theorem j7 (l m:List UInt8):GU (l.map UInt8.toNat) (m.map UInt8.toNat)=(l==m):=by
 rw[kC,Bool.eq_iff_iff,decide_eq_true_eq,beq_iff_eq]
 exact⟨toNat_inj l m,fun e=>by rw[e]⟩
theorem mC: ∀(l m:List UInt8),Ji (l.map UInt8.toNat) (m.map UInt8.toNat)=Op.bytesLess l m
 |[],[]=>rfl
 |_::_,[]=>rfl
 |[],_::_=>rfl
 |a::l,b::m=>by
  simp only[List.map_cons,Ji,Op.bytesLess]
  rw[mC l m,mB]
  by_cases h1:a<b
  ·have:a.toNat<b.toNat:=UInt8.lt_iff_toNat_lt.1 h1
   simp[h1,this,Nat.blt_eq]
  ·have h2: ¬a.toNat<b.toNat:=fun x=>h1 (UInt8.lt_iff_toNat_lt.2 x)
   have h3:Nat.blt a.toNat b.toNat=false:=by
    cases hb:Nat.blt a.toNat b.toNat with
    |false=>rfl
    |true=>exact absurd (by simpa[Nat.blt_eq]using hb) h2
   rw[h3]
   by_cases h4:a=b
   ·subst h4;simp
   ·have h5:a.toNat≠b.toNat:=fun x=>h4 (UInt8.toNat_inj.1 x)
    simp[h1,h4,h5]
theorem QG {t t':TypeId}{y z:Operand}{xy xz:XV}(ho:o.op= .binOp .add t y z t')(hy:cV y=some xy)(hz:cV z=some xz)(hw:WF h)(e:Np xy xz c call sl h k=some r):cM dr P ng o c sl h k r:=by
 unfold Np at e
 split at e
 ·rename_i a b h1 h2
  cases hb:Nat.blt (Nat.add (gI a) (gI b)) 10000000 with
  |false=>rw[hb]at e;cases e
  |true=>
   rw[hb]at e
   simp only[cond,ep]at e
   have hlt:a.length+b.length<10000000:=by
    have:Nat.add (gI a) (gI b)<10000000:=by simpa[Nat.blt_eq]using hb
    rw[cX,cX]at this
    exact this
   refine⟨_,h,e,Al ho hy hz hw fun β w u u' k1 k2=>?_⟩
   rw[h1]at k1;rw[h2]at k2
   simp only[VR]at k1 k2
   obtain⟨x,rfl,hx⟩:=k1
   obtain⟨x',rfl,hx'⟩:=k2
   refine⟨rM w,.string (x++x'),?_,?_⟩
   ·have s1:a.length=x.size:=by rw[<-hx];simp
    have s2:b.length=x'.size:=by rw[<-hx'];simp
    have: ¬(((x.size+x'.size:Nat):Int)>IntKind.i64.max):=by
     have:IntKind.i64.max=9223372036854775807:=by decide
     rw[this];omega
    simp only[binOp,Op.stringOp,this,if_false,Sem.run_pure]
   ·simp only[VR]
    refine⟨_,rfl,?_⟩
    rw[<-hx,<-hx']
    simp[ByteArray.data_append]
 ·cases e
theorem Am {op:BinOp}{f:List Nat->List Nat->Bool}{t t':TypeId}{y z:Operand}{xy xz:XV}(ho:o.op= .binOp op t y z t')(hy:cV y=some xy)(hz:cV z=some xz)(hw:WF h)
    (hf: ∀(w:World) (a b:ByteArray),(binOp op t (.string a) (.string b)).run P w= .ok (.bool (f (a.data.toList.map UInt8.toNat) (b.data.toList.map UInt8.toNat))) w) (e:sA f xy xz c call sl h k=some r):cM dr P ng o c sl h k r:=by
 unfold sA at e
 split at e
 ·rename_i a b h1 h2
  refine⟨_,h,eW e,Al ho hy hz hw fun β w u u' k1 k2=>?_⟩
  rw[h1]at k1;rw[h2]at k2
  simp only[VR]at k1 k2
  obtain⟨x,rfl,hx⟩:=k1
  obtain⟨x',rfl,hx'⟩:=k2
  refine⟨rM w,_,hf w x x',?_⟩
  rw[hx,hx'];simp[VR]
 ·cases e
theorem NN {t:TypeId}(w:World)(a b:ByteArray):(binOp .lss t (.string a) (.string b)).run P w= .ok (.bool (AR (a.data.toList.map UInt8.toNat) (b.data.toList.map UInt8.toNat))) w:=by
 simp only[binOp,Op.stringOp,AR,mC,ByteArray.toList_eq,Sem.run_pure]
theorem NO {t:TypeId}(w:World)(a b:ByteArray):(binOp .gtr t (.string a) (.string b)).run P w= .ok (.bool (Nq (a.data.toList.map UInt8.toNat) (b.data.toList.map UInt8.toNat))) w:=by
 simp only[binOp,Op.stringOp,Nq,mC,j7,ByteArray.toList_eq,Sem.run_pure]
theorem NP {t:TypeId}(w:World)(a b:ByteArray):(binOp .geq t (.string a) (.string b)).run P w= .ok (.bool (Nr (a.data.toList.map UInt8.toNat) (b.data.toList.map UInt8.toNat))) w:=by
 simp only[binOp,Op.stringOp,Nr,mC,ByteArray.toList_eq,Sem.run_pure]
/-! equality -/
def QH (P:Program)(t:TypeId)(eq:hJ):Prop:= ∀β x y u u' b,eq x y=some b->VR β x u->VR β y u'-> ∀(w:World),(∀op a a',(eqGuard op t a a' u u').run P w= .ok () w)/\(binOp .eql t u u').run P w= .ok (.bool b) w/\(binOp .neq t u u').run P w= .ok (.bool (!b)) w
theorem kF {x y:AV}{b:Bool}(e:sy x y=some b): ∃p m n,x= .int p m/\y= .int p n/\b=(m==n):=by
 unfold sy at e
 split at e
 ·rename_i p m q n
  cases hb:eD p q with
  |false=>rw[hb]at e;cases e
  |true=>
   rw[hb]at e
   have:=vP hb
   subst this
   simp only[cond,Option.some.injEq]at e
   refine⟨p,m,n,rfl,rfl,?_⟩
   rw[<-e,rJ,Bool.eq_iff_iff];simp
 ·cases e
theorem kG {x y:AV}{b:Bool}(e:eqStr x y=some b): ∃s s',x= .str s/\y= .str s'/\b=GU s s':=by
 unfold eqStr at e
 split at e
 ·simp only[Option.some.injEq]at e
  exact⟨_,_,rfl,rfl,e.symm⟩
 ·cases e
theorem mD {x y:AV}{b:Bool}(e:Ko x y=some b): ∃s s',x= .bool s/\y= .bool s'/\b=(s==s'):=by
 unfold Ko at e
 split at e
 ·simp only[Option.some.injEq]at e
  exact⟨_,_,rfl,rfl,e.symm⟩
 ·cases e
theorem gB {t:TypeId}{eq:hJ}(h:Cu P t=some eq):(∃k,P.underlying t=some (.int k)/\eq=sy)\/(P.underlying t=some .string/\eq=eqStr)\/(P.underlying t=some .bool/\eq=Ko):=by
 unfold Cu at h
 split at h
 ·rename_i k hk;cases h;exact Or.inl ⟨k,hk,rfl⟩
 ·rename_i hk;cases h;exact Or.inr (Or.inl ⟨hk,rfl⟩)
 ·rename_i hk;cases h;exact Or.inr (Or.inr ⟨hk,rfl⟩)
 ·cases h
theorem vQ {t:TypeId}{eq:hJ}(h:Cu P t=some eq){β:bS}{x y:AV}{u u':Value}{b:Bool}(e:eq x y=some b)(hx:VR β x u)(hy:VR β y u')(d:Nat)(w:World):(Op.equalIn (d+1) t u u').run P w= .ok b w:=by
 rcases gB h with⟨k,hk,rfl⟩|⟨hk,rfl⟩|⟨hk,rfl⟩
 ·obtain⟨p,m,n,rfl,rfl,rfl⟩:=kF e
  simp only[VR]at hx hy;subst hx hy
  exact run_equalIn_int w d t p k m n hk
 ·obtain⟨s,s',rfl,rfl,rfl⟩:=kG e
  simp only[VR]at hx hy
  obtain⟨q,rfl,rfl⟩:=hx
  obtain⟨q',rfl,rfl⟩:=hy
  rw[run_equalIn_string w d t q q' hk,j7,ByteArray.toList_eq,ByteArray.toList_eq]
 ·obtain⟨s,s',rfl,rfl,rfl⟩:=mD e
  simp only[VR]at hx hy;subst hx hy
  exact run_equalIn_bool w d t s s' hk
theorem QI {t:TypeId}{eq:hJ}(h:Cu P t=some eq):QH P t eq:=fun β x y u u' b e hx hy w=>by
 have hin:=vQ h e hx hy 9999 w
 rcases gB h with⟨k,hk,rfl⟩|⟨hk,rfl⟩|⟨hk,rfl⟩
 ·obtain⟨p,m,n,rfl,rfl,rfl⟩:=kF e
  simp only[VR]at hx hy;subst hx hy
  exact⟨fun op a a'=>by cases op<;>simp[eqGuard],by simp[binOp,Op.intCmp],by simp[binOp,Op.intCmp,bne]⟩
 ·obtain⟨s,s',rfl,rfl,rfl⟩:=kG e
  simp only[VR]at hx hy
  obtain⟨q,rfl,rfl⟩:=hx
  obtain⟨q',rfl,rfl⟩:=hy
  refine⟨fun op a a'=>rM w,?_,?_⟩
  ·simp only[binOp,Op.stringOp,j7,ByteArray.toList_eq,Sem.run_pure]
  ·simp only[binOp,Op.stringOp,j7,ByteArray.toList_eq,Sem.run_pure]
 ·obtain⟨s,s',rfl,rfl,rfl⟩:=mD e
  simp only[VR]at hx hy;subst hx hy
  have hin':(Op.equal t (.bool s) (.bool s')).run P w= .ok (s==s') w:=hin
  exact⟨fun op a a'=>by cases op<;>simp[eqGuard],by simp[binOp,hin'],by simp[binOp,hin']⟩
theorem kH {t:TypeId}{eq:hJ}(h:Cu P t=some eq)(w:World):(isAgg t).run P w= .ok false w:=by
 rcases gB h with⟨k,hk,_⟩|⟨hk,_⟩|⟨hk,_⟩<;>simp[isAgg,run_underlying hk]
theorem drop_cons {α:Type}{l:List α}{i:Nat}{x:α}{m:List α}(h:l.drop i=x::m):l[i]? =some x/\l.drop (i+1)=m:=by
 have h1:(l.drop i)[0]? =some x:=by rw[h];rfl
 have h2:(l.drop i).drop 1=m:=by rw[h];rfl
 rw[List.getElem?_drop,Nat.add_zero]at h1
 rw[List.drop_drop]at h2
 exact⟨h1,h2⟩
theorem ow {β:bS}{xs ys:List AV}{cs ds:Array Value}(hx:bh β xs cs.toList)(hy:bh β ys ds.toList)(d:Nat)(w:World): ∀(fs:List Field) (i:Nat) (eqs:List hJ) (b:Bool),fL P i fs=some eqs->fu eqs (xs.drop i) (ys.drop i)=some b->
    (Op.eqFields (d+1) cs ds fs).run P w= .ok b w
 |[],i,eqs,b,h,e=>by
  simp only[fL,Option.some.injEq]at h
  subst h
  unfold fu at e
  split at e
  ·simp only[Option.some.injEq]at e;subst e;simp[Op.eqFields]
  ·rename_i hh _ _;cases hh
  ·cases e
 |f::fs,i,eqs,b,h,e=>by
  unfold fL at h
  split at h
  ·rename_i hf
   obtain⟨hoff,hname⟩:=hf
   simp only[Option.bind_eq_bind,Option.bind_eq_some_iff,Option.pure_def,Option.some.injEq]at h
   obtain⟨g,hg,gs,hgs,rfl⟩:=h
   cases hx1:xs.drop i with
   |nil=>rw[hx1]at e;simp[fu]at e
   |cons x xs'=>
    cases hy1:ys.drop i with
    |nil=>rw[hx1,hy1]at e;simp[fu]at e
    |cons y ys'=>
     rw[hx1,hy1]at e
     obtain⟨p1,p2⟩:=drop_cons hx1
     obtain⟨q1,q2⟩:=drop_cons hy1
     obtain⟨u,u1,u2⟩:=hx.get p1
     obtain⟨u',u1',u2'⟩:=hy.get q1
     have a1:cs[i]? =some u:=by simpa using u1
     have a2:ds[i]? =some u':=by simpa using u1'
     simp only[fu]at e
     cases hb:g x y with
     |none=>rw[hb]at e;cases e
     |some b1=>
      rw[hb]at e
      have hin:=vQ hg hb u2 u2' d w
      cases b1 with
      |false=>
       simp only[Option.some.injEq]at e;subst e
       simp[Op.eqFields,hname,part,kH hg,hoff,a1,a2,hin]
      |true=>
       simp only at e
       rw[<-p2,<-q2]at e
       have ih:=ow hx hy d w fs (i+1) gs b hgs e
       simp[Op.eqFields,hname,part,kH hg,hoff,a1,a2,hin,ih]
  ·cases h
theorem QJ {t:TypeId}{eq:hJ}(h:MJ P t=some eq):QH P t eq:=by
 unfold MJ at h
 split at h
 ·rename_i fs hu
  split at h
  ·rename_i hh
   simp only[Option.map_eq_some_iff]at h
   obtain⟨eqs,h1,rfl⟩:=h
   intro β x y u u' b e hx hy w
   unfold pM at e
   split at e
   ·rename_i xs ys
    simp only[VR]at hx hy
    obtain⟨cs,rfl,hcs⟩:=hx
    obtain⟨ds,rfl,hds⟩:=hy
    have hfo:P.fieldsOf t=fs:=by unfold Program.fieldsOf;rw[hu]
    have hrun:=ow hcs hds 9998 w fs.toList 0 eqs b h1 (by simpa using e)
    have hin:=run_equalIn_struct w 9999 t cs ds (by rw[hfo];exact hu) hh.1
    rw[hfo]at hin
    have hin':(Op.equalIn 10000 t (.agg cs) (.agg ds)).run P w= .ok b w:=hin.trans hrun
    exact⟨fun op a a'=>run_eqGuard_agg w op t a a' cs ds hh.2,by rw[run_eql_struct,hin'];rfl,by rw[run_neq_struct,hin'];rfl⟩
   ·cases e
  ·cases h
 ·exact QI h
theorem QK {op:BinOp}{neg:Bool}{eq:hJ}{t t':TypeId}{y z:Operand}{xy xz:XV}(ho:o.op= .binOp op t y z t')(hop:(op= .eql/\neg=false)\/(op= .neq/\neg=true))(hy:cV y=some xy)(hz:cV z=some xz)(hw:WF h)(heq:QH P t eq)
    (e:Ku eq neg xy xz c call sl h k=some r):cM dr P ng o c sl h k r:=by
 unfold Ku at e
 split at e
 ·rename_i b hb
  refine⟨_,h,eW e,Al ho hy hz hw fun β w u u' k1 k2=>?_⟩
  obtain⟨h1,h2,h3⟩:=heq β _ _ u u' b hb k1 k2 w
  rcases hop with⟨rfl,rfl⟩|⟨rfl,rfl⟩
  ·exact⟨h1 _ _ _,_,h2,by cases b<;>simp[VR]⟩
  ·exact⟨h1 _ _ _,_,h3,by cases b<;>simp[VR]⟩
 ·cases e
end
end
end Go.Proofs.YtemehfgkfidgjaaGreatDoor.Ev
