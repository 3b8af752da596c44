/- CoverStates, part 9 -/
import Derived.Test.YtemehfgkfidgjaaGreatDoorEvV
set_option linter.all false
namespace Go.Proofs.YtemehfgkfidgjaaGreatDoor.Ev
open Go
variable {dr:Prop}
section
variable {P:Program}{ng:Nat}{o:Oper}{c:C}{call:dS}{sl:Tr AV}{h:H}{k:dE}{r:Tr AV×H}
theorem IA {id:Nat}{vs:List AV}(hid:id<id+1)(hn:h.n<h.n+1){i:Nat}{b:AB}(e:view c ⟨Tr.set depth (Tr.set depth h.t id .dead) h.n (.cells vs),h.n+1⟩ i=some b):view c ⟨Tr.set depth h.t h.n (.cells vs),h.n+1⟩ i=some b:=by
 obtain⟨e1,e2⟩:=bN (dV e)
 rw[bM _ _ _ _ hn,bM _ _ _ _ hid]at e1
 have e3:Tr.get (Tr.set depth h.t h.n (.cells vs)) i=some b:=by
  rw[bM _ _ _ _ hn]
  by_cases q:h.n=i
  ·rw[if_pos q]at e1⊢;exact e1
  ·rw[if_neg q]at e1⊢
   by_cases q2:id=i
   ·rw[if_pos q2]at e1
    cases e1
    have hd:=dV e
    unfold view at e
    rw[hd]at e;cases e
   ·rw[if_neg q2]at e1;exact e1
 unfold view at e⊢
 have e4:cr c ⟨Tr.set depth h.t h.n (.cells vs),h.n+1⟩ i=some b:=by unfold cr;rw[e2];exact e3
 have e5:cr c ⟨Tr.set depth (Tr.set depth h.t id .dead) h.n (.cells vs),h.n+1⟩ i=some b:=by
  unfold cr;rw[e2]
  show Tr.get (Tr.set depth (Tr.set depth h.t id .dead) h.n (.cells vs)) i=some b
  rw[bM _ _ _ _ hn,bM _ _ _ _ hid];exact e1
 rw[e4];rw[e5]at e;exact e
theorem kW {w:World}{t t2 ty e0:TypeId}{i:TypeInfo}{base:Option Addr}{m cp:Nat}{x:Value}{cs:List Value}(ht:P.underlying t=some (.slice e0))(hi:P.info? e0=some i)(hs:Src P i.size t2 x 0 cs w)(hle:m<=cp):
    (Builtin.append_ #[t,t2] ty #[.slice base m cp,x]).run P w= .ok (.slice base m cp) w:=by
 have hcs:cs=[]:=by have:=hs.newsLen;simpa using this
 subst hcs
 have hc:=hs.cells
 rcases hs.kind with⟨e',hk⟩|hk<;>cases base<;>simp[Builtin.append_,run_underlying ht,run_underlying hk,sizeOf,typeInfo,hi,hs.len,hle,hc,storeCells]
theorem IB {y z:Operand}{t t2:TypeId}(ho:isApp o y z t t2):y∈o.op.operands.toList/\z∈o.op.operands.toList:=by
 unfold isApp at ho
 constructor<;>simp[ho,Op.operands,Call.operands]
theorem IC {y z:Operand}{t t2 e0 e2:TypeId}{s sb:Nat}{xy xz:XV}(ho:isApp o y z t t2)(ht:P.underlying t=some (.slice e0))(ht2:P.underlying t2=some (.slice e2))(ha:sD P e0=some s)(hsb:Nx P e0=some sb)(hy:cV y=some xy)(hz:cV z=some xz)(hw:WF h)
    (e:eo s sb xy xz c call sl h k=some r):cM dr P ng o c sl h k r:=by
 obtain⟨i,zv,i1,i2,i3,_,rfl⟩:=oA ha
 obtain⟨i4,rfl⟩:=Iu hsb i1
 obtain⟨oy,oz⟩:=IB ho
 unfold eo at e
 obtain⟨n,news,e,hnl,hsrc⟩:=Ig (P:=P) e
 cases hon:cy news with
 |false=>rw[hon]at e;cases e
 |true=>
  rw[hon]at e
  simp only[cond]at e
  unfold pV at e
  split at e
  ·rename_i hv
   cases hn0:Nat.beq n 0 with
   |true=>
    rw[hn0]at e
    have hn0':n=0:=Nat.eq_of_beq_eq_true hn0
    subst hn0'
    refine⟨_,h,e,aV hw fun β a w hr hop=>?_⟩
    have k1:=hop y oy xy hy
    rw[hv]at k1;simp only[VR]at k1
    obtain⟨cs,s1,s2⟩:=hsrc t2 e2 ht2 β w _ hr (hop z oz xz hz) hon
    refine⟨.slice none 0 0,tP ho a w ?_,by simp[VR]⟩
    rw[k1];exact kW ht i1 s1 (Nat.le_refl _)
   |false=>
    rw[hn0]at e
    simp only[cond]at e
    have hn0':0<n:=by
     rcases Nat.eq_zero_or_pos n with q|q
     ·subst q;simp at hn0
     ·exact q
    cases hbig:Nat.blt 140737488355328 (Nat.mul n i.bytes)with
    |true=>rw[hbig]at e;cases e
    |false=>
     rw[hbig]at e
     have hb:n*i.bytes<=140737488355328:=by
      rcases Nat.lt_or_ge 140737488355328 (n*i.bytes)with q|q
      ·have:Nat.blt 140737488355328 (Nat.mul n i.bytes)=true:=by simpa[Nat.blt_eq]using q
       rw[hbig]at this;cases this
      ·exact q
     obtain⟨hlt,e⟩:=dF e
     refine⟨_,_,e,ef hw hlt,fun β a w hgb hr hop hfr K Q hK=>?_⟩
     have hn:=hfr h.n (Nat.le_refl _) (by simp)
     have k1:=hop y oy xy hy
     rw[hv]at k1;simp only[VR]at k1
     obtain⟨cs,s1,s2⟩:=hsrc t2 e2 ht2 β w _ hr (hop z oz xz hz) hon
     obtain⟨val,w',β',q1,q2,q3⟩:=CF (P:=P) (f:=c.floor) (c:=c) (h:=h) (olds:=[]) (ovs:=[]) (base:=none) (m:=0) (cp:=0) ho ht i1 i2 rfl i3 i4 hr hlt hn k1 (by simp[Builtin.firstCells]) (by simp[bh]) (by simp) s1 s2 om (by rw[Nat.zero_add];exact hb)
     unfold Oper.wp
     rw[q1]
     rw[Nat.zero_add]at q2
     exact hK β' val w' q3 q2
  ·rename_i id off m es cap hv
   cases hes:Nat.beq es i.size with
   |false=>rw[hes]at e;cases e
   |true=>
    rw[hes]at e
    have hes':es=i.size:=Nat.eq_of_beq_eq_true hes
    subst hes'
    simp only[cond]at e
    cases hn0:Nat.beq n 0 with
    |true=>
     rw[hn0]at e
     have hn0':n=0:=Nat.eq_of_beq_eq_true hn0
     subst hn0'
     refine⟨_,h,e,aV hw fun β a w hr hop=>?_⟩
     have k1:=hop y oy xy hy
     have k2:=k1
     rw[hv]at k1;simp only[VR]at k1
     obtain⟨L,oo,cp,hL,hu,hle,_⟩:=k1
     obtain⟨cs,s1,s2⟩:=hsrc t2 e2 ht2 β w _ hr (hop z oz xz hz) hon
     refine⟨a.eval y,tP ho a w ?_,by rw[hv]at k2;exact k2⟩
     rw[hu];exact kW ht i1 s1 hle
    |false=>
     rw[hn0]at e
     simp only at e
     have hn0':0<n:=by
      rcases Nat.eq_zero_or_pos n with q|q
      ·subst q;simp at hn0
      ·exact q
     obtain⟨vs,hg,e⟩:=fO e
     obtain⟨d1,e⟩:=gx e
     obtain⟨d2,e⟩:=gy e
     rw[ep,aZ]at e
     have hm':Nat.mul m i.size=m*i.size:=rfl
     have hadd:Nat.add m n=m+n:=rfl
     rw[hm',hadd]at e
     rw[hm']at d2
     cases hbig:Nat.blt 140737488355328 (Nat.mul (m+n) i.bytes)with
     |true=>rw[hbig]at e;cases e
     |false=>
      rw[hbig]at e
      simp only at e
      have hb:(m+n)*i.bytes<=140737488355328:=by
       rcases Nat.lt_or_ge 140737488355328 ((m+n)*i.bytes)with q|q
       ·have:Nat.blt 140737488355328 (Nat.mul (m+n) i.bytes)=true:=by simpa[Nat.blt_eq]using q
        rw[hbig]at this;cases this
       ·exact q
      obtain⟨g1,g2⟩:=bN hg
      have hidn:=db hw g1
      have hid:id<id+1:=Nat.lt_succ_self _
      have hvl:off+m*i.size<=vs.length:=by simp at d2;omega
      have grow: ∀β (a:Act) (w:World) L oo cp,h.n<h.n+1->β h.n=none->HR c.floor β (view c h) w->tx β sl a o.op.operands.toList->β id=some L->a.eval y= .slice (some ⟨L.blk,oo,none⟩) m cp->(oo=L.base+off\/(m=0/\cp=0))->cp<m+n->
          ∃val w' β',(execOp a.eval o).run P w= .ok (.value val) w'/\VR β' (.sl h.n 0 (m+n) i.size none) val/\ca dr c.floor h.n (h.n+1) β (view c h) w β' (view c ⟨Tr.set depth h.t h.n (.cells ((vs.drop off).take (m*i.size)++news)),h.n+1⟩) w':=by
       intro β a w L oo cp hlt hn hr hop hL hu hoo hcp
       obtain⟨cs,s1,s2⟩:=hsrc t2 e2 ht2 β w _ hr (hop z oz xz hz) hon
       obtain⟨L',p1,_,p2⟩:=hr.at_ id _ (cG hg)
       rw[hL]at p1;cases p1
       obtain⟨olds,o1,o2⟩:=kB p2 hvl
       have hol:olds.length=m*i.size:=by rw[<-o1.length];simp;omega
       refine CF (P:=P) (f:=c.floor) (c:=c) (h:=h) (olds:=olds) (base:=some ⟨L.blk,oo,none⟩) ho ht i1 i2 rfl i3 i4 hr hlt hn hu ?_ o1 hol s1 s2 hcp hb
       simp only[Builtin.firstCells]
       rw[<-hol]
       refine run_loadCells_list w.drew _ olds fun j u hj=>?_
       rcases hoo with rfl|⟨z1,z2⟩
       ·exact o2 j u hj
       ·have:=(List.getElem?_eq_some_iff.1 hj).1
        rw[hol,z1]at this;simp at this
      cases hsg:fK cap (m+n)with
      |true=>
       rw[hsg]at e
       obtain⟨hlt,e⟩:=dF e
       refine⟨_,_,e,ef hw hlt,fun β a w hgb hr hop hfr K Q hK=>?_⟩
       have hn:=hfr h.n (Nat.le_refl _) (by simp)
       have k1:=hop y oy xy hy
       rw[hv]at k1;simp only[VR]at k1
       obtain⟨L,oo,cp,hL,hu,hle,hsz,hoo,hcap⟩:=k1
       have hcp:cp<m+n:=by
        cases cap with
        |none=>simp[fK]at hsg
        |some cp'=>
         have:=hcap cp' rfl
         subst this
         simpa[fK,Nat.blt_eq]using hsg
       obtain⟨val,w',β',q1,q2,q3⟩:=grow β a w L oo cp hlt hn hr hop hL hu hoo hcp
       unfold Oper.wp
       rw[q1]
       exact hK β' val w' q3 q2
      |false=>
       rw[hsg]at e
       simp only at e
       obtain⟨hf,hsn,e⟩:=dQ e
       obtain⟨hlt,e⟩:=dF e
       have hlt':h.n<h.n+1:=hlt
       have st1:Step c h ⟨Tr.set depth h.t id .dead,h.n⟩:=eJ hw g1 hf hsn
       refine⟨_,_,e,st1.trans (ef st1.wf hlt),fun β a w hgb hr hop hfr K Q hK=>?_⟩
       have hn:=hfr h.n (Nat.le_refl _) (by simp)
       have k1:=hop y oy xy hy
       rw[hv]at k1;simp only[VR]at k1
       obtain⟨L,oo,cp,hL,hu,hle,hsz,hoo,hcap⟩:=k1
       rcases Nat.lt_or_ge cp (m+n)with hcp|hcp
       ·obtain⟨val,w',β',q1,q2,q3⟩:=grow β a w L oo cp hlt' hn hr hop hL hu hoo hcp
        unfold Oper.wp
        rw[q1]
        exact hK β' val w' (q3.toSub fun j b ej=>IA hid hlt' ej) q2
       ·have hoo':oo=L.base+off:=by
          rcases hoo with q|⟨_,q⟩
          ·exact q
          ·omega
        obtain⟨cs,s1,s2⟩:=hsrc t2 e2 ht2 β w _ hr (hop z oz xz hz) hon
        obtain⟨val,w',β',q1,q2,q3⟩:=KJ (P:=P) (f:=c.floor) (c:=c) (h:=h) ho ht i1 rfl hw hr hlt' hn hg hL hf hu hoo' hsz hvl s1 s2 hcp
        unfold Oper.wp
        rw[q1]
        exact hK β' val w' q3 q2
  ·cases e
/-! calls -/
def Ge (dr:Prop)(P:Program)(ng:Nat)(o:Oper)(c:C)(sl:Tr AV)(h:H)(k:dE)(r:Tr AV×H):Prop:= ∃v h',k v h'=some r/\NC dr P ng o c sl h v h'
theorem cM.ja (hd: ∀q,o.op≠ .defer q)(s:cM dr P ng o c sl h k r):Ge dr P ng o c sl h k r:=by
 obtain⟨v,h',e,d⟩:=s
 exact⟨v,h',e,d.ja hd⟩
theorem NW {f:Operand}{ys:Array Operand}{ts:Array TypeId}{xf:XV}{xs:List XV}(ho:o.op= .call {callee:= .value f,args:=ys,argTypes:=ts})(hf:cV f=some xf)(hx:ys.toList.mapM cV=some xs)(hw:WF h)(hc:Ctx c h)(hC:fN dr P ng call)
    (e:Cr xf xs c call sl h k=some r):Ge dr P ng o c sl h k r:=by
 have nod: ∀q,o.op≠ .defer q:=fun q=>by rw[ho];exact fun e=>by cases e
 unfold Cr at e
 split at e
 ·rename_i fid first caps hv
  rw[kD,ep,ep]at e
  split at e
  ·rename_i v h' hcall
   refine⟨v,h',e,?_⟩
   have hcd:vC dr P ng (.fn fid) _ c h v h':=hC (.fn fid) _ c h v h' hc hw hcall
   obtain⟨hst,hd⟩:=hcd
   refine⟨hst,fun β a w hgb hr hop hfr ro n K Q hK=>⟨fun _ _=>trivial,?_⟩⟩
   have k1:=hop f (by simp[ho,Op.operands,Call.operands]) xf hf
   rw[hv]at k1;simp only[VR]at k1
   obtain⟨fs,ds,hu,hfs,hds⟩:=k1
   have k2:=p6 (sl:=sl) (β:=β) (a:=a) ys.toList xs hx fun y hy=>hop y (by simp[ho,Op.operands,Call.operands];right;simpa using hy)
   have earr:fs++ys.map a.eval++ds=(fs.toList++(ys.toList.map a.eval++ds.toList)).toArray:=by
    apply Array.ext';simp
   have hrun:(execOp a.eval o).run P w=(callFunc fid (fs.toList++(ys.toList.map a.eval++ds.toList)).toArray).run P w:=by
    rw[<-earr]
    simp[execOp,ho,resolve,Deferred.ofValue,hu,invoke]
   rw[Oper.semAt_eq _ _ _ nod,hrun]
   exact hd β w _ hgb hr (hfs.append (k2.append hds)) hfr _ rfl ro n o a K Q hK
  ·cases e
 ·rename_i fid caps hv
  rw[kD,ep]at e
  split at e
  ·rename_i v h' hcall
   refine⟨v,h',e,?_⟩
   have hcd:vC dr P ng (.fn fid) _ c h v h':=hC (.fn fid) _ c h v h' hc hw hcall
   obtain⟨hst,hd⟩:=hcd
   refine⟨hst,fun β a w hgb hr hop hfr ro n K Q hK=>⟨fun _ _=>trivial,?_⟩⟩
   have k1:=hop f (by simp[ho,Op.operands,Call.operands]) xf hf
   rw[hv]at k1;simp only[VR]at k1
   obtain⟨ds,hu,hds⟩:=k1
   have k2:=p6 (sl:=sl) (β:=β) (a:=a) ys.toList xs hx fun y hy=>hop y (by simp[ho,Op.operands,Call.operands];right;simpa using hy)
   have earr:ys.map a.eval++ds=(ys.toList.map a.eval++ds.toList).toArray:=by
    apply Array.ext';simp
   have hrun:(execOp a.eval o).run P w=(callFunc fid (ys.toList.map a.eval++ds.toList).toArray).run P w:=by
    rw[<-earr]
    simp[execOp,ho,resolve,Deferred.ofValue,hu,invoke]
   rw[Oper.semAt_eq _ _ _ nod,hrun]
   exact hd β w _ hgb hr (k2.append hds) hfr _ rfl ro n o a K Q hK
  ·cases e
 ·rename_i id hv
  rw[kD]at e
  split at e
  ·rename_i v h' hcall
   refine⟨v,h',e,?_⟩
   have hcd:vC dr P ng (.Dn id) _ c h v h':=hC (.Dn id) _ c h v h' hc hw hcall
   obtain⟨hst,hd⟩:=hcd
   refine⟨hst,fun β a w hgb hr hop hfr ro n K Q hK=>⟨fun _ _=>trivial,?_⟩⟩
   have k1:=hop f (by simp[ho,Op.operands,Call.operands]) xf hf
   rw[hv]at k1;simp only[VR]at k1
   obtain⟨L,hL,hu⟩:=k1
   have k2:=p6 (sl:=sl) (β:=β) (a:=a) ys.toList xs hx fun y hy=>hop y (by simp[ho,Op.operands,Call.operands];right;simpa using hy)
   have earr:ys.map a.eval=(ys.toList.map a.eval).toArray:=by
    apply Array.ext';simp
   have hrun:(execOp a.eval o).run P w=(Instr.yield L.blk (ys.toList.map a.eval).toArray).run P w:=by
    rw[<-earr]
    simp[execOp,ho,resolve,Deferred.ofValue,hu,invoke]
   rw[Oper.semAt_eq _ _ _ nod,hrun]
   exact hd β w _ hgb hr k2 hfr _ ⟨L,hL,rfl⟩ ro n o a K Q hK
  ·cases e
 ·cases e
/-! interfaces -/
theorem NX {t:TypeId}{d:TypeDesc}{y:Operand}{x:XV}(ho:o.op= .makeInterface t y)(ht:P.underlying t=some d)(hd: ∀ms,d≠ .interface ms)(hx:cV y=some x)(hw:WF h)(e:Kw t x c call sl h k=some r):cM dr P ng o c sl h k r:=by
 refine⟨_,h,e,aV hw fun β a w hr hop=>?_⟩
 have k1:=hop y (by simp[ho,Op.operands]) x hx
 refine⟨.iface t (a.eval y),?_,by simp only[VR];exact⟨_,rfl,k1⟩⟩
 have:(Instr.makeInterface t (a.eval y)).run P w= .ok (.iface t (a.eval y)) w:=by
  simp only[Instr.makeInterface,Sem.run_bind,run_underlying ht,Result.andThen_ok]
  cases d<;>first|rfl|exact absurd rfl (hd _)
 simp[execOp,ho,this]
theorem ID {t s:TypeId}{d:TypeDesc}{y:Operand}{x:XV}{z:AV}(ho:o.op= .typeAssert y s t true)(ht:P.underlying t=some d)(hd: ∀ms,d≠ .interface ms)(hz:ig P t=some z)(hx:cV y=some x)(hw:WF h)(e:z7 t z x c call sl h k=some r):cM dr P ng o c sl h k r:=by
 obtain⟨i,zv,i1,i2,i3⟩:=eX hz
 have hop0:y∈o.op.operands.toList:=by simp[ho,Op.operands]
 have hrun: ∀(w:World) (u:Value),(Instr.typeAssert u s t true).run P w=match u with
     | .nilIface=> .ok (.tuple #[zv,.bool false]) w
     | .iface t' v=>if t'=t then .ok (.tuple #[v,.bool true]) w else .ok (.tuple #[zv,.bool false]) w
     |_=>(Instr.typeAssert u s t true).run P w:=fun w u=>by
  cases u<;>first
   |rfl
   |(simp only[Instr.typeAssert,Sem.run_bind,run_underlying ht,Result.andThen_ok]
     cases d<;>first
      |exact absurd rfl (hd _)
      |(simp[zeroValue,run_typeInfo w i1,i2];done)
      |(split<;>simp[zeroValue,run_typeInfo w i1,i2];done))
 unfold z7 at e
 split at e
 ·rename_i t' v hv
  cases hb:Nat.beq t' t with
  |true=>
   rw[hb]at e
   have hb':=Nat.eq_of_beq_eq_true hb
   refine⟨_,h,e,aV hw fun β a w hr hop=>?_⟩
   have k1:=hop y hop0 x hx
   rw[hv]at k1
   simp only[VR]at k1
   obtain⟨u,hu,k2⟩:=k1
   refine⟨.tuple #[u,.bool true],?_,?_⟩
   ·have:=hrun w (.iface t' u)
    simp only[if_pos hb']at this
    simp[execOp,ho,hu,this]
   ·simp only[VR]
    exact⟨_,rfl,by simp only[bh];exact⟨_,_,rfl,k2,_,_,rfl,by simp[VR],rfl⟩⟩
  |false=>
   rw[hb]at e
   have hb': ¬t'=t:=fun q=>by rw[q]at hb;simp at hb
   refine⟨_,h,e,aV hw fun β a w hr hop=>?_⟩
   have k1:=hop y hop0 x hx
   rw[hv]at k1
   simp only[VR]at k1
   obtain⟨u,hu,k2⟩:=k1
   refine⟨.tuple #[zv,.bool false],?_,?_⟩
   ·have:=hrun w (.iface t' u)
    simp only[if_neg hb']at this
    simp[execOp,ho,hu,this]
   ·simp only[VR]
    exact⟨_,rfl,by simp only[bh];exact⟨_,_,rfl,i3 β,_,_,rfl,by simp[VR],rfl⟩⟩
 ·rename_i hv
  refine⟨_,h,e,aV hw fun β a w hr hop=>?_⟩
  have k1:=hop y hop0 x hx
  rw[hv]at k1
  simp only[VR]at k1
  refine⟨.tuple #[zv,.bool false],?_,?_⟩
  ·have:=hrun w .nilIface
   simp only at this
   simp[execOp,ho,k1,this]
  ·simp only[VR]
   exact⟨_,rfl,by simp only[bh];exact⟨_,_,rfl,i3 β,_,_,rfl,by simp[VR],rfl⟩⟩
 ·cases e
end
section
variable {P:Program}{ng:Nat}{o:Oper}{c:C}{call:dS}{sl:Tr AV}{h:H}{k:dE}{r:Tr AV×H}
/-! greater and smaller -/
def Il (o:Oper)(b:Builtin)(y z:Operand)(ts:Array TypeId):Prop:=o.op= .call {callee:= .builtin b,args:= #[y,z],argTypes:=ts}
theorem KN {b:Builtin}{y z:Operand}{ts:Array TypeId}(ho:Il o b y z ts):y∈o.op.operands.toList/\z∈o.op.operands.toList:=by
 unfold Il at ho
 constructor<;>simp[ho,Op.operands,Call.operands]
theorem QB {y z:Operand}{ts:Array TypeId}{xy xz:XV}(ho:Il o .min y z ts)(hy:cV y=some xy)(hz:cV z=some xz)(hw:WF h)(e:ints Nt xy xz c call sl h k=some r):cM dr P ng o c sl h k r:=by
 obtain⟨p,a,b,h1,h2,e⟩:=yk e
 obtain⟨oy,oz⟩:=KN ho
 have hv:k (.int p (if b<a then b else a)) h=some r:=by
  unfold Nt at e
  cases hb:HP b a with
  |true=>rw[hb]at e;rw[fQ,decide_eq_true_eq]at hb;rw[if_pos hb];exact e
  |false=>rw[hb]at e;rw[fQ,decide_eq_false_iff_not]at hb;rw[if_neg hb];exact e
 refine⟨_,h,hv,aV hw fun β A w hr hop=>?_⟩
 have k1:=hop y oy xy hy
 have k2:=hop z oz xz hz
 rw[h1]at k1;rw[h2]at k2
 simp only[VR]at k1 k2
 refine⟨.int p (if b<a then b else a),?_,by simp[VR]⟩
 unfold Il at ho
 simp[execOp,ho,resolve,invoke,builtin,Builtin.min_,Builtin.min2,k1,k2]
/-! bits -/
theorem KO {p:IntKind}{m:Nat}(h:zY p (.ofNat m)=true):m<2^p.bits:=by
 have e8:(2:Nat)^8=256:=by decide
 have e16:(2:Nat)^16=65536:=by decide
 have e32:(2:Nat)^32=4294967296:=by decide
 have e64:(2:Nat)^64=18446744073709551616:=by decide
 cases p<;>simp only[zY,IntKind.bits,Bool.false_eq_true]at h⊢ <;>have:=Nat.le_of_ble_eq_true h<;>omega
theorem Ai {w m:Nat}(h:m<2^w):(BitVec.ofInt w (Int.ofNat m)).toNat=m:=by
 rw[BitVec.toNat_ofInt]
 have h2:((2^w:Nat):Int)=(2:Int)^w:=by simp
 have:(Int.ofNat m) % ((2^w:Nat):Int)=Int.ofNat m:=Int.emod_eq_of_lt (Int.natCast_nonneg m) (Int.ofNat_lt.2 h)
 simp only[this]
 rfl
theorem vG {f:Nat->Nat->Nat}{p:IntKind}{a b:Int}(e:pW f p a b h k=some r): ∃m n,a= .ofNat m/\b= .ofNat n/\m<2^p.bits/\n<2^p.bits/\p.wrap (.ofNat (f m n))= .ofNat (f m n)/\k (.int p (.ofNat (f m n))) h=some r:=by
 unfold pW at e
 split at e
 ·rename_i m n
  cases hb:(zY p (.ofNat m)&&zY p (.ofNat n))with
  |false=>rw[hb]at e;cases e
  |true=>
   rw[hb]at e
   rw[Bool.and_eq_true]at hb
   obtain⟨h1,h2⟩:=mz e
   exact⟨m,n,rfl,rfl,KO hb.1,KO hb.2,h1,h2⟩
 ·cases e
theorem KP {t:TypeId}:eQ P .and t (pW Nat.land):=fun p a b h k r e=>by
 obtain⟨m,n,rfl,rfl,h1,h2,h3,h4⟩:=vG e
 refine⟨_,h4,fun w=>⟨.int p (.ofNat (Nat.land m n)),?_,fun β=>by simp[VR]⟩⟩
 have hbv:((BitVec.ofInt p.bits (Int.ofNat m))&&&(BitVec.ofInt p.bits (Int.ofNat n))).toNat=Nat.land m n:=by rw[BitVec.toNat_and,Ai h1,Ai h2];rfl
 simp only[binOp,Op.intBits,ne_eq,not_true_eq_false,if_false,hbv,Sem.run_pure]
 exact congrArg (fun z=>Result.ok (Value.int p z) w) h3
theorem KQ {t:TypeId}:eQ P .xor t (pW Nat.xor):=fun p a b h k r e=>by
 obtain⟨m,n,rfl,rfl,h1,h2,h3,h4⟩:=vG e
 refine⟨_,h4,fun w=>⟨.int p (.ofNat (Nat.xor m n)),?_,fun β=>by simp[VR]⟩⟩
 have hbv:((BitVec.ofInt p.bits (Int.ofNat m))^^^(BitVec.ofInt p.bits (Int.ofNat n))).toNat=Nat.xor m n:=by rw[BitVec.toNat_xor,Ai h1,Ai h2];rfl
 simp only[binOp,Op.intBits,ne_eq,not_true_eq_false,if_false,hbv,Sem.run_pure]
 exact congrArg (fun z=>Result.ok (Value.int p z) w) h3
/-! arrays -/
theorem ym {v:AV}{n:Nat}(hv:asNat v=some n): ∃p,v= .int p (.ofNat n):=by
 unfold asNat at hv
 split at hv
 ·cases hv;exact⟨_,rfl⟩
 ·cases hv
theorem NH {t e0:TypeId}{len:Nat}{y z:Operand}{xy xz:XV}(ho:o.op= .index t y z)(hy:cV y=some xy)(hz:cV z=some xz)(ht:P.underlying t=some (.array len e0))(ha:EF P e0=some none)(hs:tw P e0=some 1)(hw:WF h)
    (e:Cs len xy xz c call sl h k=some r):cM dr P ng o c sl h k r:=by
 unfold Cs at e
 split at e
 ·rename_i vs i h1 h2
  obtain⟨p,h2⟩:=ym h2
  have hlt:i<len:=by
   cases hb:Nat.blt i len with
   |false=>rw[hb]at e;cases e
   |true=>simpa[Nat.blt_eq]using hb
  have hb:Nat.blt i len=true:=by simpa[Nat.blt_eq]using hlt
  rw[hb]at e
  simp only[cond]at e
  split at e
  ·rename_i v hn
   rw[gA]at hn
   refine⟨_,h,e,aV hw fun β a w hr hop=>?_⟩
   have k1:=hop y (by simp[ho,Op.operands]) xy hy
   have k2:=hop z (by simp[ho,Op.operands]) xz hz
   rw[h1]at k1;rw[h2]at k2
   simp only[VR]at k1 k2
   obtain⟨cs,hu,hcs⟩:=k1
   obtain⟨u,q1,q2⟩:=hcs.get hn
   have q3:cs[i]? =some u:=by simpa using q1
   refine⟨u,?_,q2⟩
   have hi:((i:Nat):Int)<((len:Nat):Int):=by omega
   have k2':a.eval z= .int p ((i:Nat):Int):=k2
   simp[execOp,ho,Instr.index,asIntOf,k2',hu,run_underlying ht,iU hs,part,pY ha,hi,hlt,q3]
  ·cases e
 ·cases e
theorem Im {t e0:TypeId}{len esz:Nat}{y z:Operand}{xy xz:XV}(ho:o.op= .indexAddr t y z)(hy:cV y=some xy)(hz:cV z=some xz)(ht:P.underlying t=some (.array len e0))(hs:tw P e0=some esz)(hw:WF h)
    (e:mr len esz xy xz c call sl h k=some r):cM dr P ng o c sl h k r:=by
 unfold mr at e
 split at e
 ·rename_i id off i h1 h2
  obtain⟨p,h2⟩:=ym h2
  cases hb:Nat.blt i len with
  |false=>rw[hb]at e;cases e
  |true=>
   rw[hb]at e
   simp only[cond,aZ]at e
   have hlt:i<len:=by simpa[Nat.blt_eq]using hb
   refine⟨_,h,e,aV hw fun β a w hr hop=>?_⟩
   have k1:=hop y (by simp[ho,Op.operands]) xy hy
   have k2:=hop z (by simp[ho,Op.operands]) xz hz
   rw[h1]at k1;rw[h2]at k2
   simp only[VR]at k1 k2
   obtain⟨L,hL,hu⟩:=k1
   have hi:((i:Nat):Int)<((len:Nat):Int):=by omega
   have k2':a.eval z= .int p ((i:Nat):Int):=k2
   refine⟨.pointer (some ⟨L.blk,L.base+(off+i*esz),none⟩),?_,by simp only[VR];exact⟨L,hL,rfl⟩⟩
   simp[execOp,ho,Instr.indexAt,Instr.sureAddr,asIntOf,k2',hu,run_underlying ht,iU hs,hi,hlt,add_lit,Nat.add_assoc]
 ·cases e
theorem Io {t e0 e1:TypeId}{y:Operand}{x:XV}(ho:o.op= .makeMap t (some y))(ht:P.underlying t=some (.map e0 e1))(hx:cV y=some x)(hw:WF h)(e:pX x c call sl h k=some r):cM dr P ng o c sl h k r:=by
 unfold pX at e
 split at e
 ·rename_i p n hv
  obtain⟨hlt,e⟩:=dF e
  refine⟨_,_,e,ef hw hlt,fun β a w hgb hr hop hfr K Q hK=>?_⟩
  have hn:=hfr h.n (Nat.le_refl _) (by simp)
  have k1:=hop y (by simp[ho,Op.operands]) x hx
  rw[hv]at k1;simp only[VR]at k1
  unfold Oper.wp
  have hrun:(execOp a.eval o).run P w= .ok (.value (.map (some w.heap.size))) {w with heap:=w.heap.push (.map #[] 0)}:=by
   simp[execOp,ho,Instr.makeMap,k1,run_underlying ht,asInt,asIntOf]
  rw[hrun]
  refine hK _ _ _ (fj (L:=⟨w.heap.size,0,0,dv⟩) hr hlt hn rfl ⟨#[],by simp,by simp[ER]⟩) ?_
  simp only[VR]
  exact⟨_,cB _ _ _,rfl⟩
 ·cases e
/-! slices with three indexes -/
/-! copy -/
/-! ranges over maps -/
theorem KR {t e0 e1:TypeId}{y:Operand}{x:XV}(ho:o.op= .range t y)(ht:P.underlying t=some (.map e0 e1))(hx:cV y=some x)(hw:WF h)(e:ry x c call sl h k=some r):cM dr P ng o c sl h k r:=by
 unfold ry at e
 split at e
 ·rename_i hv
  obtain⟨hlt,e⟩:=dF e
  refine⟨_,_,e,ef hw hlt,fun β a w hgb hr hop hfr K Q hK=>?_⟩
  have hn:=hfr h.n (Nat.le_refl _) (by simp)
  have k1:=hop y (by simp[ho,Op.operands]) x hx
  rw[hv]at k1;simp only[VR]at k1
  have hrun:(execOp a.eval o).run P w= .ok (.value (.pointer (some ⟨w.heap.size,0,none⟩))) {w with heap:=w.heap.push (.mapIter none 0 #[] 0)}:=by
   simp[execOp,ho,Instr.range,k1,run_underlying ht]
  unfold Oper.wp
  rw[hrun]
  refine hK _ _ _ (fj (L:=⟨w.heap.size,0,0,dv⟩) hr hlt hn rfl ⟨none,by simp,rfl,fun _=>rfl,fun i hi=>by cases hi⟩) ?_
  simp only[VR]
  exact⟨_,cB _ _ _,rfl⟩
 ·rename_i m hv
  split at e
  ·rename_i es clock hg
   obtain⟨hlt,e⟩:=dF e
   refine⟨_,_,e,ef hw hlt,fun β a w hgb hr hop hfr K Q hK=>?_⟩
   have hn:=hfr h.n (Nat.le_refl _) (by simp)
   have k1:=hop y (by simp[ho,Op.operands]) x hx
   rw[hv]at k1;simp only[VR]at k1
   obtain⟨M,hM,hu⟩:=k1
   obtain⟨M',q1,_,ces,q2,q3⟩:=hr.at_ m _ (eK hg)
   rw[hM]at q1;cases q1
   have hrun:(execOp a.eval o).run P w= .ok (.value (.pointer (some ⟨w.heap.size,0,none⟩))) {w with heap:=w.heap.push (.mapIter (some M.blk) clock #[] clock)}:=by
    simp[execOp,ho,Instr.range,hu,run_underlying ht,get_map q2]
   unfold Oper.wp
   rw[hrun]
   refine hK _ _ _ (fj (L:=⟨w.heap.size,0,0,dv⟩) hr hlt hn rfl ⟨some M.blk,by simp,rfl,fun q=>(by cases q),fun i hi=>by cases hi;exact⟨M,iu _ hn _ _ hM,rfl⟩⟩) ?_
   simp only[VR]
   exact⟨_,cB _ _ _,rfl⟩
  ·cases e
 ·cases e
theorem tQ {β:bS}{w:World}{id:Nat}{u:Value}{m:Option Nat}{since last:Nat}{seen:List Nat}(hr:HR c.floor β (view c h) w)(hv:VR β (.ptr id 0) u)(hg:cr c h id=some (.iter m since seen last)):
    ∃L om,β id=some L/\L.blk<w.heap.size/\u= .pointer (some ⟨L.blk,0,none⟩)/\L.base=0/\w.heap[L.blk]? =some (.mapIter om since seen.toArray last)/\(m=none->om=none)/\ ∀i,m=some i-> ∃M,β i=some M/\om=some M.blk:=by
 simp only[VR]at hv
 obtain⟨L,h1,h2⟩:=hv
 obtain⟨L',h3,h3',om,h4,h5,h6,h7⟩:=hr.at_ id _ (fi hg (fun q=>by cases q))
 rw[h1]at h3;cases h3
 exact⟨L,om,h1,h3',by rw[h2,h5],h5,h4,h6,h7⟩
theorem lV {w:World}{b:Nat}{om:Option Nat}{since last:Nat}{seen:Array Nat}(hb:w.heap[b]? =some (.mapIter om since seen last)):(getObj b).run P w= .ok (.mapIter om since seen last) w:=by simp[getObj,Sem.run,hb]
theorem KS {w:World}{b:Nat}{om:Option Nat}{since last:Nat}{seen:Array Nat}(o':Obj)(hb:w.heap[b]? =some (.mapIter om since seen last)):(setObj b o').run P w= .ok () {w with heap:=w.heap.setIfInBounds b o'}:=by simp[setObj,Sem.run,hb]
theorem KU {β:bS}{e:AV×AV×Nat}{ces:List MapEntry}(h:ER β [e] ces): ∃ce,ces=[ce]/\VR β e.1 ce.key/\VR β e.2.1 ce.val/\ce.born=e.2.2:=by
 obtain⟨ce,ces',h1,h2,h3,h4,h5⟩:=h
 have:ces'=[]:=h5
 subst this
 exact⟨ce,h1,h2,h3,h4⟩
theorem F7 {α:Type}{a:Array α}{x:α}(h:a.toList=[x]):a= #[x]:=by apply Array.ext';simpa using h
theorem NI {y:Operand}{x:XV}(ho:o.op= .next y false)(hx:cV y=some x)(hw:WF h)(e:Kx x c call sl h k=some r):cM dr P ng o c sl h k r:=by
 unfold Kx at e
 split at e
 ·rename_i id hv
  split at e
  ·rename_i since seen last hg
   refine⟨_,h,e,aV hw fun β a w hr hop=>?_⟩
   have k1:=hop y (by simp[ho,Op.operands]) x hx
   rw[hv]at k1
   obtain⟨L,om,_,_,hu,_,q1,q2,_⟩:=tQ hr k1 hg
   have q2':=q2 rfl
   subst q2'
   exact⟨.tuple #[.bool false],by simp[execOp,ho,Instr.next,hu,lV q1],by simp[VR,bh]⟩
  ·rename_i m since seen last hg
   split at e
   ·rename_i es clock hgm
    have body: ∀β (a:Act) (w:World),HR c.floor β (view c h) w->tx β sl a o.op.operands.toList-> ∃L M ces,β id=some L/\L.blk<w.heap.size/\a.eval y= .pointer (some ⟨L.blk,0,none⟩)/\L.base=0/\w.heap[L.blk]? =some (.mapIter (some M.blk) since seen.toArray last)/\β m=some M/\w.heap[M.blk]? =some (.map ces clock)/\ER β es ces.toList:=fun β a w hr hop=>by
     have k1:=hop y (by simp[ho,Op.operands]) x hx
     rw[hv]at k1
     obtain⟨L,om,p1,p1',hu,p2,q1,_,q3⟩:=tQ hr k1 hg
     obtain⟨M,hM,rfl⟩:=q3 m rfl
     obtain⟨M',z1,_,ces,z2,z3⟩:=hr.at_ m _ (eK hgm)
     rw[hM]at z1;cases z1
     exact⟨L,M,ces,p1,p1',hu,p2,q1,hM,z2,z3⟩
    split at e
    ·refine⟨_,h,e,aV hw fun β a w hr hop=>?_⟩
     obtain⟨L,M,ces,_,_,hu,_,q1,_,z2,z3⟩:=body β a w hr hop
     have hces:ces= #[]:=by apply Array.ext';exact z3
     subst hces
     exact⟨.tuple #[.bool false],by simp[execOp,ho,Instr.next,hu,lV q1,get_map z2,Question.forced],by simp[VR,bh]⟩
    ·rename_i e0
     split at e
     ·cases hb:Nat.blt e0.2.2 since with
      |false=>rw[hb]at e;cases e
      |true=>
       rw[hb]at e
       have hlt:e0.2.2<since:=by simpa[Nat.blt_eq]using hb
       simp only[cond]at e
       obtain⟨hf,hsn,e⟩:=dQ e
       obtain⟨g1,g2⟩:=bN hg
       have hid:id<id+1:=Nat.lt_succ_self _
       refine⟨_,_,e,eJ hw g1 hf g2,fun β a w hgb hr hop hfr K Q hK=>?_⟩
       obtain⟨L,M,ces,hL,hLs,hu,hbase,q1,hM,z2,z3⟩:=body β a w hr hop
       obtain⟨ce,hce,v1,v2,v3⟩:=KU z3
       have hces:=F7 hce
       subst hces
       have hlt':ce.born<since:=by rw[v3];exact hlt
       have hnl: ¬since<=ce.born:=by omega
       have hrun:(execOp a.eval o).run P w= .ok (.value (.tuple #[.bool true,ce.key,ce.val])) {w with heap:=w.heap.setIfInBounds L.blk (.mapIter (some M.blk) since #[ce.born] clock)}:=by
        simp[execOp,ho,Instr.next,hu,lV q1,get_map z2,Question.forced,hlt',hnl,KS _ q1]
       unfold Oper.wp
       rw[hrun]
       have hs:=MapKept.heap_set (o':=Obj.mapIter (some M.blk) since #[ce.born] clock) q1
       refine hK β _ _ (gw (b:= .iter (some m) since [e0.2.2] clock) hr (fi hg (fun q=>by cases q)) hL hf (fun B hB=>hs.2 B hB) (by simp) rfl ⟨rfl,fun _=>Nat.le_refl _⟩ rfl ⟨some M.blk,by rw[<-v3];exact hs.1,hbase,fun q=>(by cases q),fun i hi=>by cases hi;exact⟨M,hM,rfl⟩⟩ (fun j d ej=>fM hid ej)) ?_
       simp only[VR]
       exact⟨_,rfl,by simp only[bh,VR];exact⟨_,_,rfl,rfl,_,_,rfl,v1,_,_,rfl,v2,rfl⟩⟩
     ·rename_i b
      cases hb:(Nat.beq b e0.2.2&&Nat.blt e0.2.2 last)with
      |false=>rw[hb]at e;cases e
      |true=>
       rw[hb]at e
       rw[Bool.and_eq_true]at hb
       have hbe:b=e0.2.2:=Nat.eq_of_beq_eq_true hb.1
       have hlt:e0.2.2<last:=by simpa[Nat.blt_eq]using hb.2
       refine⟨_,h,e,aV hw fun β a w hr hop=>?_⟩
       obtain⟨L,M,ces,_,_,hu,_,q1,_,z2,z3⟩:=body β a w hr hop
       obtain⟨ce,hce,v1,v2,v3⟩:=KU z3
       have hces:=F7 hce
       subst hces
       have hnl: ¬last<=ce.born:=by rw[v3];omega
       have hbb:b=ce.born:=by rw[v3];exact hbe
       subst hbb
       exact⟨.tuple #[.bool false],by simp[execOp,ho,Instr.next,hu,lV q1,get_map z2,Question.forced,hnl],by simp[VR,bh]⟩
     ·cases e
    ·cases e
   ·cases e
  ·cases e
 ·cases e
theorem p8: ∀l:List Nat,Ct l=l.getLast?
 |[]=>rfl
 |[x]=>rfl
 |x::y::l=>by
  unfold Ct
  simp only
  rw[p8 (y::l),List.getLast?_cons_cons]
theorem F8 {β:bS}{b:Nat}: ∀{es:List (AV×AV×Nat)} {ces:List MapEntry} {p:AV×AV},ER β es ces->yc b es=some p-> ∃ce,ces.find? (·.born==b)=some ce/\VR β p.1 ce.key/\VR β p.2 ce.val
 |[],ces,p,h,e=>by cases e
 |x::xs,ces,p,h,e=>by
  obtain⟨ce,ces',rfl,h1,h2,h3,h4⟩:=h
  unfold yc at e
  cases hb:Nat.beq x.2.2 b with
  |true=>
   rw[hb]at e
   cases e
   have:=Nat.eq_of_beq_eq_true hb
   exact⟨ce,by rw[List.find?_cons_of_pos (by simp[h3,this])],h1,h2⟩
  |false=>
   rw[hb]at e
   obtain⟨c',k1,k2,k3⟩:=F8 h4 e
   have hne: ¬ce.born=b:=fun q=>by rw[h3]at q;rw[q]at hb;simp at hb
   exact⟨c',by rw[List.find?_cons_of_neg (by simpa using hne)];exact k1,k2,k3⟩
theorem vH {y:Operand}{x:XV}{id m stepped b:Nat}(ho:o.op= .entry y)(hx:cV y=some x)(hw:WF h)(e:rz c h m stepped b k=some r)
    (hit: ∀β (a:Act) (w:World),HR c.floor β (view c h) w->tx β sl a o.op.operands.toList-> ∃(L M:Loc) (since:Nat) (seen:Array Nat),a.eval y= .pointer (some ⟨L.blk,0,none⟩)/\β m=some M/\w.heap[L.blk]? =some (.mapIter (some M.blk) since seen stepped)/\seen.back? =some b):cM dr P ng o c sl h k r:=by
 unfold rz at e
 split at e
 ·rename_i es clock hgm
  cases hb:Nat.beq clock stepped with
  |false=>rw[hb]at e;cases e
  |true=>
   rw[hb]at e
   have h1:clock=stepped:=Nat.eq_of_beq_eq_true hb
   simp only[cond]at e
   split at e
   ·rename_i p hp
    refine⟨_,h,e,aV hw fun β a w hr hop=>?_⟩
    obtain⟨L,M,since,seen,hu,hM,q1,hbk⟩:=hit β a w hr hop
    obtain⟨M',z1,_,ces,z2,z3⟩:=hr.at_ m _ (eK hgm)
    rw[hM]at z1;cases z1
    obtain⟨ce,f1,v1,v2⟩:=F8 z3 hp
    rw[Array.find?_toList]at f1
    subst h1
    refine⟨.tuple #[ce.key,ce.val],by simp[execOp,ho,Instr.entry,hu,lV q1,get_map z2,hbk,f1],?_⟩
    simp only[VR]
    exact⟨_,rfl,by simp only[bh];exact⟨_,_,rfl,v1,_,_,rfl,v2,rfl⟩⟩
   ·cases e
 ·cases e
theorem KV {y:Operand}{x:XV}(ho:o.op= .entry y)(hx:cV y=some x)(hw:WF h)(e:rA x c call sl h k=some r):cM dr P ng o c sl h k r:=by
 unfold rA at e
 split at e
 ·rename_i id hv
  split at e
  ·rename_i m since seen stepped hg
   split at e
   ·rename_i b hlast
    refine vH (id:=id) ho hx hw e fun β a w hr hop=>?_
    have k1:=hop y (by simp[ho,Op.operands]) x hx
    rw[hv]at k1
    obtain⟨L,om,p1,p1',hu,p2,q1,_,q3⟩:=tQ hr k1 hg
    obtain⟨M,hM,rfl⟩:=q3 m rfl
    rw[p8]at hlast
    exact⟨L,M,since,_,hu,hM,q1,by simpa using hlast⟩
   ·cases e
  ·rename_i m since b stepped v hg
   refine vH (id:=id) ho hx hw e fun β a w hr hop=>?_
   have k1:=hop y (by simp[ho,Op.operands]) x hx
   rw[hv]at k1
   simp only[VR]at k1
   obtain⟨L,h1,h2⟩:=k1
   obtain⟨L',h3,_,M,S,seen,q1,q2,q3,q4,q5,q6⟩:=hr.at_ id _ (fi hg (fun q=>by cases q))
   rw[h1]at h3;cases h3
   exact⟨L,M,since,seen,by rw[h2,q6],q1,q5,q4⟩
  ·cases e
 ·cases e
end
section
variable {P:Program}{ng:Nat}{o:Oper}{c:C}{call:dS}{sl:Tr AV}{h:H}{k:dE}{r:Tr AV×H}
/-! entries -/
end
end Go.Proofs.YtemehfgkfidgjaaGreatDoor.Ev
