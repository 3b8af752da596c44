/- CoverStates, part 8 -/
import Derived.Test.YtemehfgkfidgjaaGreatDoorEvU
import Derived.Great.BuildSlice
set_option linter.all false
namespace Go.Proofs.YtemehfgkfidgjaaGreatDoor.Ev
open Go
variable {dr:Prop}
section
variable {P:Program}{ng:Nat}{o:Oper}{c:C}{call:dS}{sl:Tr AV}{h:H}{k:dE}{r:Tr AV×H}
/-! literals -/
theorem CM (off:Nat): ∀(l:List Value) (j0:Nat) (cells:Array Value),((l.zipIdx j0).foldl (fun cs (q:Value×Nat)=>cs.setIfInBounds (off+q.2) q.1) cells).size=cells.size/\
    ∀i,((l.zipIdx j0).foldl (fun cs (q:Value×Nat)=>cs.setIfInBounds (off+q.2) q.1) cells)[i]? =if off+j0<=i/\i<off+j0+l.length/\i<cells.size then l[i-(off+j0)]? else cells[i]?
 |[],j0,cells=>⟨rfl,fun i=>by simp;intro h1 h2;omega⟩
 |v::l,j0,cells=>by
  obtain⟨h1,h2⟩:=CM off l (j0+1) (cells.setIfInBounds (off+j0) v)
  simp only[List.zipIdx_cons,List.foldl_cons]
  refine⟨h1.trans (by simp),fun i=>?_⟩
  rw[h2 i]
  simp only[Array.size_setIfInBounds,List.length_cons]
  by_cases c1:i=off+j0
  ·subst c1
   rw[if_neg (by omega),Array.getElem?_setIfInBounds]
   by_cases c2:off+j0<cells.size
   ·rw[if_pos rfl,if_pos c2,if_pos (by omega)];simp
   ·rw[if_pos rfl,if_neg c2,if_neg (by omega)]
    rw[Array.getElem?_eq_none (by omega)]
  ·rw[Array.getElem?_setIfInBounds_ne (by omega)]
   by_cases c2:off+(j0+1)<=i/\i<off+(j0+1)+l.length/\i<cells.size
   ·rw[if_pos c2,if_pos (by omega),show i-(off+j0)=(i-(off+(j0+1)))+1 by omega];simp
   ·rw[if_neg c2,if_neg (by omega)]
theorem ET {β:bS}{l us:List AV}{cells vs:Array Value}{off:Nat}(hl:bh β l cells.toList)(hu:bh β us vs.toList)(hn:off+us.length<=l.length):
    bh β (l.take off++(us++l.drop (off+us.length))) (vs.zipIdx.foldl (fun cs (q:Value×Nat)=>cs.setIfInBounds (off+q.2) q.1) cells).toList:=by
 have e:vs.zipIdx.foldl (fun cs (q:Value×Nat)=>cs.setIfInBounds (off+q.2) q.1) cells=(vs.toList.zipIdx 0).foldl (fun cs (q:Value×Nat)=>cs.setIfInBounds (off+q.2) q.1) cells:=by
  rw[<-Array.foldl_toList,Array.toList_zipIdx]
 rw[e]
 obtain⟨h1,h2⟩:=CM off vs.toList 0 cells
 have hlc:=hl.length
 have huc:=hu.length
 simp only[Array.length_toList]at hlc huc
 refine bh.of (by simp[h1];omega) fun i v u e1 e2=>?_
 rw[Array.getElem?_toList,h2 i]at e2
 simp only[Nat.add_zero,Array.length_toList]at e2
 have e0:(l.take off).length=off:=by simp;omega
 by_cases c1:i<off
 ·rw[List.getElem?_append_left (by omega),List.getElem?_take_of_lt c1]at e1
  rw[if_neg (by omega)]at e2
  obtain⟨u',q1,q2⟩:=hl.get e1
  rw[Array.getElem?_toList,e2]at q1;cases q1;exact q2
 ·rw[List.getElem?_append_right (by omega),e0]at e1
  by_cases c2:i-off<us.length
  ·rw[List.getElem?_append_left c2]at e1
   rw[if_pos (by omega)]at e2
   obtain⟨u',q1,q2⟩:=hu.get e1
   rw[e2]at q1;cases q1;exact q2
  ·rw[List.getElem?_append_right (by omega),List.getElem?_drop]at e1
   rw[if_neg (by omega)]at e2
   obtain⟨u',q1,q2⟩:=hl.get e1
   rw[show off+us.length+(i-off-us.length)=i by omega,Array.getElem?_toList,e2]at q1;cases q1;exact q2
def PM (β:bS)(sl:Tr AV)(place:Nat->Option (Nat×Nat)):List (Nat×Nat×XV)->List (Nat×Value)->Prop
 |[],qs=>qs=[]
 |p::ps,qs=> ∃q qs',qs=q::qs'/\place q.1=some (p.1,p.2.1)/\VR β (bG sl p.2.2) q.2/\PM β sl place ps qs'
theorem ox: ∀(ps:List (Nat×Nat×XV)) (l:List AV) {R:Type} (f:List AV->Option R) (q:R),ku sl ps l f=some q->
    ∃l',f l'=some q/\l'.length=l.length/\ ∀β place (qs:List (Nat×Value)) (cells:Array Value),PM β sl place ps qs->bh β l cells.toList-> ∃cells',Instr.fill place cells qs=some cells'/\bh β l' cells'.toList
 |[],l,R,f,q,e=>⟨l,e,rfl,fun β place qs cells hp hl=>by
     have:qs=[]:=hp
     subst this
     exact⟨cells,rfl,hl⟩⟩
 |p::ps,l,R,f,q,e=>by
  unfold ku at e
  simp only at e
  cases hb:(Nat.beq (gI (bG sl p.2.2).cells) p.2.1&&Cj (bG sl p.2.2))with
  |false=>rw[hb]at e;cases e
  |true=>
   rw[hb]at e
   simp only[cond]at e
   rw[Bool.and_eq_true]at hb
   have hlen:=Nat.eq_of_beq_eq_true hb.1
   rw[cX]at hlen
   obtain⟨h1,e⟩:=fR e
   obtain⟨l',h2,h3,h4⟩:=ox ps _ f q e
   refine⟨l',h2,by rw[h3];simp;omega,fun β place qs cells hp hl=>?_⟩
   obtain⟨⟨i0,v0⟩,qs',rfl,q1,q2,q3⟩:=hp
   have hcv:=q2.cells (EG hb.2)
   have hcl:(bG sl p.2.2).cells.length=v0.cells.size:=by have:=hcv.length;simpa using this
   have hll:l.length=cells.size:=by have:=hl.length;simpa using this
   obtain⟨cells',r1,r2⟩:=h4 β place qs' _ q3 (ET hl hcv h1)
   refine⟨cells',?_,r2⟩
   simp only[Instr.fill]
   simp only at q1
   rw[q1]
   simp only
   rw[if_neg]
   ·exact r1
   ·simp;omega
theorem Ld {β:bS}{a:Act}{place:Nat->Option (Nat×Nat)}: ∀(ps:List (Nat×Operand)) (xs:List (Nat×Nat×XV)),kx place ps=some xs->(∀p∈ps,∀x,cV p.2=some x->VR β (bG sl x) (a.eval p.2))->PM β sl place xs (ps.map fun p=>(p.1,a.eval p.2))
 |[],xs,h,_=>by simp only[kx,Option.some.injEq]at h;subst h;rfl
 |p::ps,xs,h,hv=>by
  simp only[kx,Option.bind_eq_bind,Option.bind_eq_some_iff,Option.pure_def,Option.some.injEq]at h
  obtain⟨q,h1,x,h2,ys,h3,rfl⟩:=h
  refine⟨_,_,rfl,h1,hv p (by simp) x h2,Ld ps ys h3 fun p' hp'=>hv p' (by simp[hp'])⟩
theorem eX {t:TypeId}{z:AV}(e:ig P t=some z): ∃i zv,P.info? t=some i/\i.zero=some zv/\ ∀β,VR β z zv:=by
 unfold ig at e
 simp only[Option.bind_eq_bind,Option.bind_eq_some_iff]at e
 obtain⟨i,h1,zv,h2,h3⟩:=e
 exact⟨i,zv,h1,h2,fun β=>KK h3⟩
theorem Le {v:Value}{z:AV}(e:sC v=some z):z≠ .top:=fun q=>by
 subst q
 unfold sC at e
 split at e<;>first|(cases e;done)|skip
 split at e<;>cases e
theorem QN {v:Value}{z:AV}(e:Qu v=some z):z≠ .top:=fun q=>by
 unfold Qu at e
 split at e
 ·rw[Option.map_eq_some_iff]at e;obtain⟨_,_,h⟩:=e;rw[q]at h;cases h
 ·rw[Option.map_eq_some_iff]at e;obtain⟨_,_,h⟩:=e;rw[q]at h;cases h
 ·exact Le e q
theorem j9 {t:TypeId}{z:AV}(e:ig P t=some z):z≠ .top:=by
 unfold ig at e
 simp only[Option.bind_eq_bind,Option.bind_eq_some_iff]at e
 obtain⟨i,h1,zv,h2,h3⟩:=e
 exact QN h3
theorem CN {t:TypeId}{ps:Array (Nat×Operand)}{z:AV}{zv:Value}{place:Nat->Option (Nat×Nat)}{xs:List (Nat×Nat×XV)}(ho:o.op= .build t ps)(hp:kx place ps.toList=some xs)(hz: ∀β,VR β z zv)(hzn:z≠ .top)
    (hb: ∀qs cells,Instr.fill place zv.cells qs=some cells->P.built t qs=some cells) (hw:WF h) (e:ru z.cells xs c call sl h k=some r):cM dr P ng o c sl h k r:=by
 unfold ru at e
 obtain⟨l',h1,h2,h3⟩:=ox xs _ _ r e
 refine⟨_,h,h1,aV hw fun β a w hr hop=>?_⟩
 have hpm:=Ld (β:=β) (sl:=sl) (a:=a) ps.toList xs hp fun p hpp x hx=>hop p.2 (by
  simp only[ho,Op.operands]
  simp only[Array.toList_map,List.mem_map]
  exact⟨p,hpp,rfl⟩) x hx
 obtain⟨cells,q1,q2⟩:=h3 β place _ zv.cells hpm ((hz β).cells hzn)
 refine⟨.agg cells,?_,by simp only[VR];exact⟨_,rfl,q2⟩⟩
 have hrun:=run_build w t (ps.map fun p=>(p.1,a.eval p.2)) cells (by rw[Array.toList_map];exact hb _ _ q1)
 simp[execOp,ho,hrun]
/-! rows of zeros -/
theorem flat_get (z:List AV): ∀(n i:Nat),i<n*z.length->((List.replicate n z).flatten)[i]? =z[i % z.length]?
 |0,i,h=>by simp at h
 |n+1,i,h=>by
  rw[List.replicate_succ,List.flatten_cons]
  rcases Nat.lt_or_ge i z.length with x|x
  ·rw[List.getElem?_append_left x,Nat.mod_eq_of_lt x]
  ·rw[List.getElem?_append_right x,flat_get z n (i-z.length) (by rw[Nat.add_mul]at h;omega)]
   rw[Nat.mod_eq_sub_mod x]
theorem CO (z:List AV)(n:Nat):((List.replicate n z).flatten).length=n*z.length:=by
 induction n with
 |zero=>simp
 |succ n ih=>rw[List.replicate_succ,List.flatten_cons,List.length_append,ih,Nat.add_mul];omega
theorem CP {β:bS}{z:List AV}{zc:Array Value}{n esz:Nat}(hz:bh β z zc.toList)(he:zc.size=esz):bh β (List.replicate n z).flatten ((Array.range (n*esz)).map (zc[· % zc.size]!)).toList:=by
 have hl:=hz.length
 simp only[Array.length_toList]at hl
 refine bh.of (by rw[CO];simp[hl,he]) fun i v u e1 e2=>?_
 have hi:i<n*esz:=by
  have:=(List.getElem?_eq_some_iff.1 e2).1
  simpa using this
 have hpos:0<esz:=by
  rcases Nat.eq_zero_or_pos esz with q|q
  ·subst q;simp at hi
  ·exact q
 rw[flat_get z n i (by rw[hl,he];exact hi)]at e1
 obtain⟨u',q1,q2⟩:=hz.get e1
 have hm:i % esz<zc.size:=by rw[he];exact Nat.mod_lt _ hpos
 have:u=u':=by
  simp[hi]at e2
  rw[Array.getElem?_toList,hl,he]at q1
  rw[he]at e2
  rw[getElem!_pos zc (i % esz) hm]at e2
  rw[Array.getElem?_eq_getElem hm]at q1
  cases q1;exact e2.symm
 rw[this];exact q2
theorem Iu {e0:TypeId}{s:Nat}{i:TypeInfo}(h:Nx P e0=some s)(hi:P.info? e0=some i):0<i.bytes/\s=i.bytes:=by
 unfold Nx at h
 rw[hi]at h
 simp only at h
 split at h
 ·cases h;exact⟨am,rfl⟩
 ·cases h
theorem oA {e0:TypeId}{s:Nat}(h:sD P e0=some s): ∃i zv,P.info? e0=some i/\i.zero=some zv/\zv.cells.size=i.size/\i.bytes<=1000000/\s=i.size:=by
 unfold sD at h
 split at h
 ·rename_i i hi
  split at h
  ·rename_i z hz
   split at h
   ·rename_i hh
    cases h
    exact⟨i,z,hi,hz,hh.1,hh.2,rfl⟩
   ·cases h
  ·cases h
 ·cases h
theorem Iv {t e0:TypeId}{n s:Nat}{ps:Array (Nat×Operand)}{z:AV}{xs:List (Nat×Nat×XV)}(ho:o.op= .buildSlice t n ps)(ht:P.underlying t=some (.slice e0))(ha:sD P e0=some s)(hz:ig P e0=some z)
    (hp:kx (fun i=>some (i*s,s)) ps.toList=some xs) (hs:0<s) (hns:n*s<=1000000) (hw:WF h) (e:pO n z.cells xs c call sl h k=some r):cM dr P ng o c sl h k r:=by
 unfold pO at e
 rw[qe]at e
 obtain⟨l',h1,h2,h3⟩:=ox xs _ _ r e
 obtain⟨hlt,h1⟩:=dF h1
 obtain⟨i,zv,i1,i2,i3,i4,rfl⟩:=oA ha
 obtain⟨i',zv',j1,j2,j3⟩:=eX hz
 rw[i1]at j1;cases j1
 rw[i2]at j2;cases j2
 have hzl:z.cells.length=i.size:=by have:=((j3 (fun _=>none)).cells (j9 hz)).length;simpa[i3]using this
 refine⟨_,_,h1,ef hw hlt,fun β a w hgb hr hop hfr K Q hK=>?_⟩
 have hn:=hfr h.n (Nat.le_refl _) (by simp)
 have hpm:=Ld (β:=β) (sl:=sl) (a:=a) ps.toList xs hp fun p hpp x hx=>hop p.2 (by
  simp only[ho,Op.operands]
  simp only[Array.toList_map,List.mem_map]
  exact⟨p,hpp,rfl⟩) x hx
 obtain⟨cells,q1,q2⟩:=h3 β _ _ _ hpm (CP (n:=n) ((j3 β).cells (j9 hz)) i3)
 have q1':Instr.fill (fun j=>some (j*i.size,i.size)) ((Array.range (n*i.size)).map (zv.cells[· % zv.cells.size]!)) (ps.map fun p=>(p.1,a.eval p.2)).toList=some cells:=by rw[Array.toList_map];exact q1
 have hrun:(execOp a.eval o).run P w= .ok (.value (.slice (some ⟨w.heap.size,0,none⟩) n n)) {w with heap:=w.heap.push (.cells cells e0)}:=by
  rcases Nat.eq_zero_or_pos n with z0|z0
  ·subst z0
   have r0:Array.range 0= #[]:=rfl
   have q3:Instr.fill (fun j=>some (j*i.size,i.size)) #[] (ps.map fun p=>(p.1,a.eval p.2)).toList=some cells:=by simpa[r0]using q1'
   have q4:Instr.fill (fun j=>some (j*i.size,i.size)) #[] (ps.toList.map fun p=>(p.1,a.eval p.2))=some cells:=by rw[<-Array.toList_map];exact q3
   simp[execOp,ho,Instr.buildSlice,run_underlying ht,sizeOf,typeInfo,zeroValue,i1,i2,q4,newRow,r0]
  ·have hpos: ¬n*i.size=0:=by
     intro q
     rcases Nat.mul_eq_zero.1 q with q|q<;>omega
   have hb:=run_buildSlice w t e0 n (ps.map fun p=>(p.1,a.eval p.2)) cells i zv ht i1 i2 om hpos q1'
   simp[execOp,ho,hb]
 unfold Oper.wp
 rw[hrun]
 have hcl:cells.toList.length=n*i.size:=by rw[<-q2.length,h2,CO,hzl]
 refine hK _ _ _ (fj (L:=⟨w.heap.size,0,cells.toList.length,dv⟩) hr hlt hn rfl (by
  have:=Ad (w:=w) (w':={w with heap:=w.heap.push (.cells cells e0)}) (e:=e0) q2 hn (by simp)
  exact this)) ?_
 simp only[VR]
 refine⟨_,0,n,cB _ _ _,rfl,Nat.le_refl _,?_,Or.inl rfl,fun d hd=>by cases hd;rfl⟩
 rw[cX,hzl,hcl];simp
theorem EU {t e0:TypeId}{s:Nat}{y1 y2:Operand}{x1 x2:XV}{z:AV}(ho:o.op= .makeSlice t y1 y2)(ht:P.underlying t=some (.slice e0))(ha:sD P e0=some s)(hz:ig P e0=some z)(hs:0<s)
    (h1:cV y1=some x1) (h2:cV y2=some x2) (hw:WF h) (e:lR z.cells x1 x2 c call sl h k=some r):cM dr P ng o c sl h k r:=by
 unfold lR at e
 split at e
 ·rename_i l cp v1 v2
  cases hb:(Nat.ble l cp&&Nat.blt cp 1000000)with
  |false=>rw[hb]at e;cases e
  |true=>
   rw[hb]at e
   simp only[Bool.and_eq_true]at hb
   have c1:=Nat.le_of_ble_eq_true hb.1
   have c2:cp<1000000:=by simpa[Nat.blt_eq]using hb.2
   simp only[cond,qe]at e
   obtain⟨hlt,e⟩:=dF e
   obtain⟨i,zv,i1,i2,i3,i4,rfl⟩:=oA ha
   obtain⟨i',zv',j1,j2,j3⟩:=eX hz
   rw[i1]at j1;cases j1
   rw[i2]at j2;cases j2
   have hzl:z.cells.length=i.size:=by have:=((j3 (fun _=>none)).cells (j9 hz)).length;simpa[i3]using this
   have asN: ∀(v:AV) (n:Nat),asNat v=some n-> ∃p,v= .int p (.ofNat n):=fun v n hv=>by
    unfold asNat at hv
    split at hv
    ·cases hv;exact⟨_,rfl⟩
    ·cases hv
   obtain⟨p1,w1⟩:=asN _ _ v1
   obtain⟨p2,w2⟩:=asN _ _ v2
   refine⟨_,_,e,ef hw hlt,fun β a w hgb hr hop hfr K Q hK=>?_⟩
   have hn:=hfr h.n (Nat.le_refl _) (by simp)
   have k1:=hop y1 (by simp[ho,Op.operands]) x1 h1
   have k2:=hop y2 (by simp[ho,Op.operands]) x2 h2
   rw[w1]at k1;rw[w2]at k2
   simp only[VR]at k1 k2
   have hby:((i.bytes:Nat):Int)*((cp:Nat):Int)<=281474976710656:=by
    have:i.bytes*cp<=1000000*1000000:=Nat.mul_le_mul i4 om
    have h3:((i.bytes*cp:Nat):Int)<=((1000000*1000000:Nat):Int):=Int.ofNat_le.2 this
    rw[Int.natCast_mul]at h3
    omega
   have hmk:=run_make w t e0 i zv ht i1 i2 p1 p2 (l:Int) (cp:Int) om om hby om
   simp only[Int.toNat_natCast]at hmk
   have hrun:(execOp a.eval o).run P w= .ok (.value (.slice (some ⟨w.heap.size,0,none⟩) l cp)) {w with heap:=w.heap.push (.cells (madeCells zv.cells (cp*i.size)) e0)}:=by
    have k1':a.eval y1= .int p1 (l:Int):=k1
    have k2':a.eval y2= .int p2 (cp:Int):=k2
    simp[execOp,ho,k1',k2',hmk]
   unfold Oper.wp
   rw[hrun]
   have hv:=CP (n:=cp) ((j3 β).cells (j9 hz)) i3
   have hcl:(madeCells zv.cells (cp*i.size)).toList.length=cp*i.size:=by simp[size_madeCells]
   refine hK _ _ _ (fj (L:=⟨w.heap.size,0,(madeCells zv.cells (cp*i.size)).toList.length,dv⟩) hr hlt hn rfl (by
    have:=Ad (w:=w) (w':={w with heap:=w.heap.push (.cells (madeCells zv.cells (cp*i.size)) e0)}) (e:=e0) (cs:=(madeCells zv.cells (cp*i.size)).toList) hv hn (by simp)
    exact this)) ?_
   simp only[VR]
   refine⟨_,0,cp,cB _ _ _,rfl,c1,?_,Or.inl rfl,fun d hd=>by cases hd;rfl⟩
   rw[cX,hzl,hcl];simp
 ·cases e
/-! maps -/
theorem Lf {q:TypeId}{d:TypeDesc}{eq:hJ}(hq:P.underlying q=some d)(h:Cu P q=some eq){β:bS}{x y:AV}{u u':Value}{b:Bool}(e:eq x y=some b)(hx:VR β x u)(hy:VR β y u'):Instr.sameNow d u u'=some b:=by
 rcases gB h with⟨k,hk,rfl⟩|⟨hk,rfl⟩|⟨hk,rfl⟩<;>(rw[hq]at hk;cases hk)
 ·obtain⟨p,m,n,rfl,rfl,rfl⟩:=kF e
  simp only[VR]at hx hy;subst hx hy
  simp[Instr.sameNow]
 ·obtain⟨s,s',rfl,rfl,rfl⟩:=kG e
  simp only[VR]at hx hy
  obtain⟨q,rfl,rfl⟩:=hx
  obtain⟨q',rfl,rfl⟩:=hy
  simp only[Instr.sameNow,j7,beq_toListBytes,ByteArray.toList_eq]
 ·obtain⟨s,s',rfl,rfl,rfl⟩:=mD e
  simp only[VR]at hx hy;subst hx hy
  simp[Instr.sameNow]
theorem CQ {q:TypeId}{d:TypeDesc}{eq:hJ}(hq:P.underlying q=some d)(h:Cu P q=some eq){β:bS}{key:AV}{u:Value}(hk:VR β key u): ∀(es:List (AV×AV×Nat)) (ces:List MapEntry) (i:Nat) (f:Option (Nat×AV)),fJ eq key es i=some f->ER β es ces->
    (f=none/\Instr.findNow d u ces i=some none)\/ ∃j v cv e ce,f=some (i+j,v)/\Instr.findNow d u ces i=some (some (i+j,cv))/\VR β v cv/\es[j]? =some e/\ces[j]? =some ce/\eq key e.1=some true/\v=e.2.1/\cv=ce.val
 |[],ces,i,f,hf,he=>by
  have:ces=[]:=he
  subst this
  simp only[fJ,Option.some.injEq]at hf
  exact Or.inl ⟨hf.symm,rfl⟩
 |e::es,ces,i,f,hf,he=>by
  obtain⟨ce,ces',rfl,h1,h2,h3,h4⟩:=he
  simp only[fJ]at hf
  cases hb:eq key e.1 with
  |none=>rw[hb]at hf;cases hf
  |some b=>
   rw[hb]at hf
   have hs:=Lf hq h hb hk h1
   cases b with
   |true=>
    simp only[Option.some.injEq]at hf
    exact Or.inr ⟨0,e.2.1,ce.val,e,ce,by rw[<-hf];rfl,by simp[Instr.findNow,hs],h2,rfl,rfl,hb,rfl,rfl⟩
   |false=>
    simp only at hf
    rcases CQ hq h hk es ces' (i+1) f hf h4 with⟨q1,q2⟩|⟨j,v,cv,e',ce',q1,q2,q3,q4,q5,q6⟩
    ·exact Or.inl ⟨q1,by simp[Instr.findNow,hs,q2]⟩
    ·refine Or.inr ⟨j+1,v,cv,e',ce',by rw[q1];congr 2;omega,?_,q3,by simpa using q4,by simpa using q5,q6⟩
     simp only[Instr.findNow,hs]
     rw[q2];congr 3;omega
theorem Lg {q:TypeId}{eq:hJ}(h:Cu P q=some eq): ∃d,P.underlying q=some d:=by
 rcases gB h with⟨k,hk,_⟩|⟨hk,_⟩|⟨hk,_⟩<;>exact⟨_,hk⟩
theorem lY {q:TypeId}{eq:hJ}(h:Cu P q=some eq)(em:Bool)(n:Nat)(u:Value)(w:World):(Instr.checkKey em (n+1) q u).run P w= .ok () w:=by
 unfold Instr.checkKey
 rcases gB h with⟨k,hk,_⟩|⟨hk,_⟩|⟨hk,_⟩<;>simp[run_underlying hk]
theorem lZ {t:TypeId}{eq:hJ}(heq:Cu P t=some eq){β:bS}{x y:AV}{u u':Value}(e:eq x y=some true)(hx:VR β x u)(hy:VR β y u'):u'=u/\ ∀n,Instr.sameBits n u u=true:=by
 rcases gB heq with⟨k,hk,rfl⟩|⟨hk,rfl⟩|⟨hk,rfl⟩
 ·obtain⟨p,m,n,rfl,rfl,hb⟩:=kF e
  have:m=n:=by simpa using hb.symm
  subst this
  simp only[VR]at hx hy;subst hx hy
  exact⟨rfl,fun n=>by simp[Instr.sameBits]⟩
 ·obtain⟨s,s',rfl,rfl,hb⟩:=kG e
  have hss:s=s':=by have:=hb.symm;rw[kC]at this;simpa using this
  subst hss
  simp only[VR]at hx hy
  obtain⟨q1,rfl,rfl⟩:=hx
  obtain⟨q2,rfl,h2⟩:=hy
  have:q2=q1:=by
   have:=toNat_inj _ _ h2
   obtain⟨⟨l1⟩⟩:=q1
   obtain⟨⟨l2⟩⟩:=q2
   simp at this;rw[this]
  subst this
  exact⟨rfl,fun n=>by simp[Instr.sameBits,MapKept.bytes_beq]⟩
 ·obtain⟨s,s',rfl,rfl,hb⟩:=mD e
  have:s=s':=by simpa using hb.symm
  subst this
  simp only[VR]at hx hy;subst hx hy
  exact⟨rfl,fun n=>by simp[Instr.sameBits]⟩
structure sM (P:Program)(q:TypeId)(eq:hJ):Prop where
 check: ∀β key u,eq key key=some true->VR β key u-> ∀em (w:World),(Instr.checkKey em 10000 q u).run P w= .ok () w
 find: ∀β key u,VR β key u-> ∀es ces f,fJ eq key es 0=some f->ER β es ces-> ∀(w:World),(f=none/\(Instr.findKey q u ces).run P w= .ok none w)\/
  ∃j v cv e ce,f=some (j,v)/\(Instr.findKey q u ces).run P w= .ok (some (j,cv)) w/\VR β v cv/\es[j]? =some e/\ces[j]? =some ce/\eq key e.1=some true/\v=e.2.1/\cv=ce.val
 same: ∀β x y u u',eq x y=some true->VR β x u->VR β y u'->u'=u/\Instr.sameBits 10000 u u=true
theorem Iw {q:TypeId}{eq:hJ}(heq:Cu P q=some eq):sM P q eq:=by
 obtain⟨d,hd⟩:=Lg heq
 refine⟨fun β key u _ _ em w=>lY heq em 9999 u w,fun β key u hk es ces f hf he w=>?_,fun β x y u u' e hx hy=>⟨(lZ heq e hx hy).1,(lZ heq e hx hy).2 _⟩⟩
 rcases CQ hd heq hk es ces 0 f hf he with⟨q1,q2⟩|⟨j,v,cv,e,ce,q1,q2,q3⟩
 ·exact Or.inl ⟨q1,MapKept.run_findKey hd q2⟩
 ·rw[Nat.zero_add]at q1 q2
  exact Or.inr ⟨j,v,cv,e,ce,q1,MapKept.run_findKey hd q2,q3⟩
/-! keys that are flat structs -/
theorem yp {β:bS}: ∀(fs:List Field) (i:Nat) (eqs:List hJ) (xs ys:List AV) (cs ds:List Value),fL P i fs=some eqs->fu eqs xs ys=some true->bh β xs cs->bh β ys ds->ds=cs/\ ∀c∈cs,∀n,Instr.sameBits n c c=true
 |[],i,eqs,xs,ys,cs,ds,h,e,hx,hy=>by
  simp only[fL,Option.some.injEq]at h
  subst h
  cases xs with
  |cons x xs=>simp[fu]at e
  |nil=>
   cases ys with
   |cons y ys=>simp[fu]at e
   |nil=>
    simp only[bh]at hx hy
    subst hx hy
    exact⟨rfl,fun c hc=>by cases hc⟩
 |f::fs,i,eqs,xs,ys,cs,ds,h,e,hx,hy=>by
  unfold fL at h
  split at h
  ·simp only[Option.bind_eq_bind,Option.bind_eq_some_iff,Option.pure_def,Option.some.injEq]at h
   obtain⟨g,hg,gs,hgs,rfl⟩:=h
   cases xs with
   |nil=>simp[fu]at e
   |cons x xs=>
    cases ys with
    |nil=>simp[fu]at e
    |cons y ys=>
     simp only[bh]at hx hy
     obtain⟨u,us,rfl,u1,u2⟩:=hx
     obtain⟨u',us',rfl,u1',u2'⟩:=hy
     simp only[fu]at e
     cases hb:g x y with
     |none=>rw[hb]at e;cases e
     |some b1=>
      rw[hb]at e
      cases b1 with
      |false=>cases e
      |true=>
       simp only at e
       obtain⟨s1,s2⟩:=lZ hg hb u1 u1'
       obtain⟨t1,t2⟩:=yp fs (i+1) gs xs ys us us' hgs e u2 u2'
       refine⟨by rw[s1,t1],fun c hc=>?_⟩
       rcases List.mem_cons.1 hc with rfl|hc
       ·exact s2
       ·exact t2 c hc
  ·cases h
theorem vR: ∀(fs:List Field) (i:Nat) (eqs:List hJ) (xs:List AV),fL P i fs=some eqs->fu eqs xs xs=some true->xs.length=fs.length
 |[],i,eqs,xs,h,e=>by
  simp only[fL,Option.some.injEq]at h
  subst h
  cases xs with
  |nil=>rfl
  |cons x xs=>simp[fu]at e
 |f::fs,i,eqs,xs,h,e=>by
  unfold fL at h
  split at h
  ·simp only[Option.bind_eq_bind,Option.bind_eq_some_iff,Option.pure_def,Option.some.injEq]at h
   obtain⟨g,hg,gs,hgs,rfl⟩:=h
   cases xs with
   |nil=>simp[fu]at e
   |cons x xs=>
    simp only[fu]at e
    cases hb:g x x with
    |none=>rw[hb]at e;cases e
    |some b1=>
     rw[hb]at e
     cases b1 with
     |false=>cases e
     |true=>
      simp only at e
      have:=vR fs (i+1) gs xs hgs e
      simp[this]
  ·cases h
theorem CR: ∀(fs:List Field) (i:Nat) (eqs:List hJ),fL P i fs=some eqs-> ∀f∈fs,∃j g,f.offset=i+j/\j<fs.length/\f.name≠ "_" /\Cu P f.type=some g
 |[],i,eqs,_,f,hf=>by cases hf
 |f0::fs,i,eqs,h,f,hf=>by
  unfold fL at h
  split at h
  ·rename_i hh
   obtain⟨hoff,hname⟩:=hh
   simp only[Option.bind_eq_bind,Option.bind_eq_some_iff,Option.pure_def,Option.some.injEq]at h
   obtain⟨g,hg,gs,hgs,rfl⟩:=h
   rcases List.mem_cons.1 hf with rfl|hf
   ·exact⟨0,g,om,by simp,hname,hg⟩
   ·obtain⟨j,g',q1,q2,q3,q4⟩:=CR fs (i+1) gs hgs f hf
    exact⟨j+1,g',om,by simp;omega,q3,q4⟩
  ·cases h
theorem CS {w:World}{g:Field->PUnit->Sem (ForInStep PUnit)}: ∀(fs:List Field),(∀f∈fs,(g f ⟨⟩).run P w= .ok (.yield ⟨⟩) w)->(forIn (m:=Sem) fs PUnit.unit g).run P w= .ok PUnit.unit w
 |[],_=>by simp
 |f::fs,h=>by
  have ih:=CS fs fun f hf=>h f (by simp[hf])
  rw[List.forIn_cons]
  simp only[Sem.run_bind,h f (by simp),Result.andThen_ok]
  exact ih
theorem EV {q:TypeId}{fs:Array Field}{eq:hJ}(hu:P.underlying q=some (.struct fs))(h:MJ P q=some eq): ∃eqs,fL P 0 fs.toList=some eqs/\eq=pM eqs/\P.stoodInHeld q=false:=by
 unfold MJ at h
 rw[hu]at h
 simp only at h
 split at h
 ·rename_i hh
  simp only[Option.map_eq_some_iff]at h
  obtain⟨eqs,h1,h2⟩:=h
  exact⟨eqs,h1,h2.symm,hh.1⟩
 ·cases h
theorem iB {eqs:List hJ}{x y:AV}{b:Bool}(e:pM eqs x y=some b): ∃xs ys,x= .agg xs/\y= .agg ys/\fu eqs xs ys=some b:=by
 unfold pM at e
 split at e
 ·exact⟨_,_,rfl,rfl,e⟩
 ·cases e
theorem EW {q:TypeId}{fs:Array Field}{eq:hJ}(hu:P.underlying q=some (.struct fs))(h:MJ P q=some eq):sM P q eq:=by
 obtain⟨eqs,h1,rfl,h3⟩:=EV hu h
 have equal: ∀β x y u u' b (w:World),pM eqs x y=some b->VR β x u->VR β y u'->(Op.equal q u u').run P w= .ok b w:=fun β x y u u' b w e hx hy=>by
  obtain⟨xs,ys,ex,ey,e1⟩:=iB e
  subst ex ey
  simp only[VR]at hx hy
  obtain⟨cs,rfl,hcs⟩:=hx
  obtain⟨ds,rfl,hds⟩:=hy
  have hfo:P.fieldsOf q=fs:=by unfold Program.fieldsOf;rw[hu]
  have hrun:=ow hcs hds 9998 w fs.toList 0 eqs b h1 (by simpa using e1)
  have hin:=run_equalIn_struct w 9999 q cs ds (by rw[hfo];exact hu) h3
  rw[hfo]at hin
  exact hin.trans hrun
 have ask: ∀β key u (w:World),VR β key u-> ∀(es:List (AV×AV×Nat)) (ces:List MapEntry) (i:Nat) (f:Option (Nat×AV)),fJ (pM eqs) key es i=some f->ER β es ces->
     (f=none/\(Instr.findAsking q u ces i).run P w= .ok none w)\/ ∃j v cv e ce,f=some (i+j,v)/\(Instr.findAsking q u ces i).run P w= .ok (some (i+j,cv)) w/\VR β v cv/\es[j]? =some e/\ces[j]? =some ce/\pM eqs key e.1=some true/\v=e.2.1/\cv=ce.val:=by
  intro β key u w hk es
  induction es with
  |nil=>
   intro ces i f hf he
   have:ces=[]:=he
   subst this
   simp only[fJ,Option.some.injEq]at hf
   exact Or.inl ⟨hf.symm,by simp[Instr.findAsking]⟩
  |cons e es ih=>
   intro ces i f hf he
   obtain⟨ce,ces',rfl,h1',h2,h3',h4⟩:=he
   simp only[fJ]at hf
   cases hb:pM eqs key e.1 with
   |none=>rw[hb]at hf;cases hf
   |some b=>
    rw[hb]at hf
    have hs:=equal β _ _ u ce.key b w hb hk h1'
    cases b with
    |true=>
     simp only[Option.some.injEq]at hf
     exact Or.inr ⟨0,e.2.1,ce.val,e,ce,by rw[<-hf];rfl,by simp[Instr.findAsking,hs],h2,rfl,rfl,hb,rfl,rfl⟩
    |false=>
     simp only at hf
     rcases ih ces' (i+1) f hf h4 with⟨q1,q2⟩|⟨j,v,cv,e',ce',q1,q2,q3,q4,q5,q6⟩
     ·exact Or.inl ⟨q1,by simp[Instr.findAsking,hs,q2]⟩
     ·refine Or.inr ⟨j+1,v,cv,e',ce',by rw[q1];congr 2;omega,?_,q3,by simpa using q4,by simpa using q5,q6⟩
      simp only[Instr.findAsking,Sem.run_bind,hs,Result.andThen_ok,Bool.false_eq_true,if_false]
      rw[q2];congr 3;omega
 refine⟨fun β key u e hk em w=>?_,fun β key u hk es ces f hf he w=>?_,fun β x y u u' e hx hy=>?_⟩
 ·obtain⟨xs,ys,rfl,hxy,e⟩:=iB e
  cases hxy
  simp only[VR]at hk
  obtain⟨cs,rfl,hcs⟩:=hk
  have hl:=vR fs.toList 0 eqs xs h1 e
  have hl2:=hcs.length
  have hsz:0+fs.toList.length<=cs.size:=by simp only[Array.length_toList]at hl hl2⊢;omega
  show(Instr.checkKey em (9999+1) q (.agg cs)).run P w= .ok () w
  unfold Instr.checkKey
  simp only[Sem.run_bind,run_underlying hu,Result.andThen_ok]
  rw[<-Array.forIn_toList]
  rw[CS (P:=P) (w:=w) fs.toList]
  ·rfl
  ·intro f hf
   obtain⟨j,g,q1,q2,q3,q4⟩:=CR fs.toList 0 eqs h1 f hf
   have hlt:j<cs.size:=by omega
   have hoff:f.offset=j:=by omega
   have hck: ∀u,(Instr.checkKey em 9999 f.type u).run P w= .ok () w:=fun u=>lY q4 em 9998 u w
   simp[q3,part,kH q4,hoff,hlt,hck]
 ·have hfk:(Instr.findKey q u ces).run P w=(Instr.findAsking q u ces 0).run P w:=by
    unfold Instr.findKey
    simp only[Sem.run_bind,run_underlying hu,Result.andThen_ok]
    cases ces with
    |nil=>simp[Instr.findNow,Instr.findAsking]
    |cons ce ces=>simp[Instr.findNow,Instr.sameNow]
  rw[hfk]
  have:=ask β key u w hk es ces 0 f hf he
  simpa using this
 ·obtain⟨xs,ys,rfl,rfl,e⟩:=iB e
  simp only[VR]at hx hy
  obtain⟨cs,rfl,hcs⟩:=hx
  obtain⟨ds,rfl,hds⟩:=hy
  obtain⟨s1,s2⟩:=yp fs.toList 0 eqs xs ys cs.toList ds.toList h1 e hcs hds
  have:ds=cs:=Array.ext' s1
  subst this
  refine⟨rfl,?_⟩
  show Instr.sameBits (9999+1) (.agg ds) (.agg ds)=true
  simp only[Instr.sameBits,beq_self_eq_true,Bool.true_and,List.all_eq_true]
  intro p hp
  obtain⟨i,hi⟩:=List.getElem?_of_mem hp
  rw[List.getElem?_zip_eq_some]at hi
  have he:p.1=p.2:=by
   have a1:=hi.1
   have a2:=hi.2
   exact Option.some.inj (a1.symm.trans a2)
  have hm:p.1∈ds.toList:=List.mem_of_getElem? hi.1
  rw[<-he]
  exact s2 p.1 hm 9999
theorem QO {q:TypeId}{eq:hJ}(h:MJ P q=some eq):sM P q eq:=by
 cases hu:P.underlying q with
 |none=>unfold MJ Cu at h;rw[hu]at h;cases h
 |some d=>
  cases d with
  |struct fs=>exact EW hu h
  |_=>exact Iw (by unfold MJ at h;rw[hu]at h;exact h)
/-! keys that are pairs -/
theorem Ao {g:hJ}{xs ys:List AV}{b:Bool}(e:fu [g,g] xs ys=some b): ∃x1 xs' y1 ys',xs=x1::xs'/\ys=y1::ys'/\((g x1 y1=some false/\b=false)\/(g x1 y1=some true/\ ∃x2 y2,xs'=[x2]/\ys'=[y2]/\g x2 y2=some b)\/(g x1 y1=some true/\b=false/\ ∃x2 xs2 y2 ys2,xs'=x2::xs2/\ys'=y2::ys2/\g x2 y2=some false)):=by
 cases xs with
 |nil=>simp[fu]at e
 |cons x1 xs'=>
  cases ys with
  |nil=>simp[fu]at e
  |cons y1 ys'=>
   refine⟨x1,xs',y1,ys',rfl,rfl,?_⟩
   simp only[fu]at e
   cases h1:g x1 y1 with
   |none=>rw[h1]at e;cases e
   |some b1=>
    rw[h1]at e
    cases b1 with
    |false=>simp only[Option.some.injEq]at e;exact Or.inl ⟨rfl,e.symm⟩
    |true=>
     simp only at e
     cases xs' with
     |nil=>simp[fu]at e
     |cons x2 xs2=>
      cases ys' with
      |nil=>simp[fu]at e
      |cons y2 ys2=>
       simp only[fu]at e
       cases h2:g x2 y2 with
       |none=>rw[h2]at e;cases e
       |some b2=>
        rw[h2]at e
        cases b2 with
        |false=>
         simp only[Option.some.injEq]at e
         exact Or.inr (Or.inr ⟨rfl,e.symm,x2,xs2,y2,ys2,rfl,rfl,h2⟩)
        |true=>
         simp only at e
         cases xs2 with
         |cons _ _=>simp[fu]at e
         |nil=>
          cases ys2 with
          |cons _ _=>simp[fu]at e
          |nil=>
           simp only[fu,Option.some.injEq]at e
           subst e
           exact Or.inr (Or.inl ⟨rfl,x2,y2,rfl,rfl,h2⟩)
theorem EX {q e0:TypeId}{g:hJ}(hu:P.underlying q=some (.array 2 e0))(hs:tw P e0=some 1)(hg:Cu P e0=some g){β:bS}{x y:AV}{u u':Value}{b:Bool}(w:World)(e:pM [g,g] x y=some b)(hx:VR β x u)(hy:VR β y u'):(Op.equal q u u').run P w= .ok b w:=by
 obtain⟨xs,ys,rfl,rfl,e1⟩:=iB e
 simp only[VR]at hx hy
 obtain⟨cs,rfl,hcs⟩:=hx
 obtain⟨ds,rfl,hds⟩:=hy
 unfold tw at hs
 simp only[Option.map_eq_some_iff]at hs
 obtain⟨i,hi,hsz⟩:=hs
 have hce:P.cellsOf e0=1:=by unfold Program.cellsOf;rw[hi];exact hsz
 have hr2:List.range 2=[0,1]:=rfl
 show(Op.equalIn (9999+1) q (.agg cs) (.agg ds)).run P w=_
 rw[run_equalIn_array w 9999 cs ds hu hi,hce,hr2]
 obtain⟨x1,xs',y1,ys',rfl,rfl,hh⟩:=Ao e1
 obtain⟨u1,p1,p2⟩:=hcs.get (i:=0) rfl
 obtain⟨v1,q1,q2⟩:=hds.get (i:=0) rfl
 have p1':cs[0]? =some u1:=by simpa using p1
 have q1':ds[0]? =some v1:=by simpa using q1
 rcases hh with⟨h1,rfl⟩|⟨h1,x2,y2,rfl,rfl,h2⟩|⟨h1,rfl,x2,xs2,y2,ys2,rfl,rfl,h2⟩
 ·have k1:=vQ hg h1 p2 q2 9998 w
  simp[Op.eqItems,part,kH hg,p1',q1',k1]
 all_goals
  obtain⟨u2,r1,r2⟩:=hcs.get (i:=1) rfl
  obtain⟨v2,s1,s2⟩:=hds.get (i:=1) rfl
  have r1':cs[1]? =some u2:=by simpa using r1
  have s1':ds[1]? =some v2:=by simpa using s1
  have k1:=vQ hg h1 p2 q2 9998 w
  have k2:=vQ hg h2 r2 s2 9998 w
  first
   |(simp[Op.eqItems,part,kH hg,p1',q1',k1,r1',s1',k2];done)
   |(cases b<;>simp[Op.eqItems,part,kH hg,p1',q1',k1,r1',s1',k2])
theorem QP {q:TypeId}{eq:hJ}(equal: ∀β x y u u' b (w:World),eq x y=some b->VR β x u->VR β y u'->(Op.equal q u u').run P w= .ok b w): ∀β key u (w:World),VR β key u-> ∀(es:List (AV×AV×Nat)) (ces:List MapEntry) (i:Nat) (f:Option (Nat×AV)),fJ eq key es i=some f->ER β es ces->
      (f=none/\(Instr.findAsking q u ces i).run P w= .ok none w)\/ ∃j v cv e ce,f=some (i+j,v)/\(Instr.findAsking q u ces i).run P w= .ok (some (i+j,cv)) w/\VR β v cv/\es[j]? =some e/\ces[j]? =some ce/\eq key e.1=some true/\v=e.2.1/\cv=ce.val:=by
 intro β key u w hk es
 induction es with
 |nil=>
  intro ces i f hf he
  have:ces=[]:=he
  subst this
  simp only[fJ,Option.some.injEq]at hf
  exact Or.inl ⟨hf.symm,by simp[Instr.findAsking]⟩
 |cons e es ih=>
  intro ces i f hf he
  obtain⟨ce,ces',rfl,h1',h2,h3',h4⟩:=he
  simp only[fJ]at hf
  cases hb:eq key e.1 with
  |none=>rw[hb]at hf;cases hf
  |some b=>
   rw[hb]at hf
   have hs:=equal β _ _ u ce.key b w hb hk h1'
   cases b with
   |true=>
    simp only[Option.some.injEq]at hf
    exact Or.inr ⟨0,e.2.1,ce.val,e,ce,by rw[<-hf];rfl,by simp[Instr.findAsking,hs],h2,rfl,rfl,hb,rfl,rfl⟩
   |false=>
    simp only at hf
    rcases ih ces' (i+1) f hf h4 with⟨q1,q2⟩|⟨j,v,cv,e',ce',q1,q2,q3,q4,q5,q6⟩
    ·exact Or.inl ⟨q1,by simp[Instr.findAsking,hs,q2]⟩
    ·refine Or.inr ⟨j+1,v,cv,e',ce',by rw[q1];congr 2;omega,?_,q3,by simpa using q4,by simpa using q5,q6⟩
     simp only[Instr.findAsking,Sem.run_bind,hs,Result.andThen_ok,Bool.false_eq_true,if_false]
     rw[q2];congr 3;omega
theorem Lh {q:TypeId}{eq:hJ}(h:Qv P q=some eq):sM P q eq:=by
 unfold Qv at h
 split at h
 ·rename_i e0 hu
  split at h
  ·rename_i hs
   simp only[Option.map_eq_some_iff]at h
   obtain⟨g,hg,rfl⟩:=h
   have hs':=hs
   unfold tw at hs'
   simp only[Option.map_eq_some_iff]at hs'
   obtain⟨i,hi,hsz⟩:=hs'
   refine⟨fun β key u e hk em w=>?_,fun β key u hk es ces f hf he w=>?_,fun β x y u u' e hx hy=>?_⟩
   ·obtain⟨xs,ys,rfl,hxy,e⟩:=iB e
    cases hxy
    simp only[VR]at hk
    obtain⟨cs,rfl,hcs⟩:=hk
    obtain⟨x1,xs',y1,ys',hx1,hy1,hh⟩:=Ao e
    rcases hh with⟨h1,hb⟩|⟨h1,x2,y2,hx2,hy2,h2⟩|⟨h1,hb,_⟩
    ·cases hb
    ·subst hx2
     subst hx1
     obtain⟨u1,p1,p2⟩:=hcs.get (i:=0) rfl
     obtain⟨u2,r1,r2⟩:=hcs.get (i:=1) rfl
     have p1':cs[0]? =some u1:=by simpa using p1
     have r1':cs[1]? =some u2:=by simpa using r1
     have hck: ∀u,(Instr.checkKey em 9999 e0 u).run P w= .ok () w:=fun u=>lY hg em 9998 u w
     have hso:(sizeOf e0).run P w= .ok 1 w:=by rw[run_sizeOf w hi];unfold Program.cellsOf;rw[hi];simp[hsz]
     show(Instr.checkKey em (9999+1) q (.agg cs)).run P w= .ok () w
     unfold Instr.checkKey
     simp only[Sem.run_bind,run_underlying hu,Result.andThen_ok]
     simp only[Std.Legacy.Range.forIn_eq_forIn_range',Std.Legacy.Range.size,Nat.sub_zero,Nat.add_one_sub_one,Nat.div_one]
     simp[List.range',hso,part,kH hg,p1',r1',hck]
    ·cases hb
   ·have hfk:(Instr.findKey q u ces).run P w=(Instr.findAsking q u ces 0).run P w:=by
      unfold Instr.findKey
      simp only[Sem.run_bind,run_underlying hu,Result.andThen_ok]
      cases ces with
      |nil=>simp[Instr.findNow,Instr.findAsking]
      |cons ce ces=>simp[Instr.findNow,Instr.sameNow]
    rw[hfk]
    have:=QP (fun β x y u u' b w e hx hy=>EX hu hs hg w e hx hy) β key u w hk es ces 0 f hf he
    simpa using this
   ·obtain⟨xs,ys,rfl,rfl,e⟩:=iB e
    simp only[VR]at hx hy
    obtain⟨cs,rfl,hcs⟩:=hx
    obtain⟨ds,rfl,hds⟩:=hy
    obtain⟨x1,xs',y1,ys',rfl,rfl,hh⟩:=Ao e
    rcases hh with⟨h1,hb⟩|⟨h1,x2,y2,rfl,rfl,h2⟩|⟨h1,hb,_⟩
    ·cases hb
    ·simp only[bh]at hcs hds
     obtain⟨u1,us,c1,c2,u2,us2,rfl,c3,rfl⟩:=hcs
     obtain⟨v1,vs,d1,d2,v2,vs2,rfl,d3,rfl⟩:=hds
     obtain⟨k1,k2⟩:=lZ hg h1 c2 d2
     obtain⟨k3,k4⟩:=lZ hg h2 c3 d3
     subst k1 k3
     have:ds=cs:=Array.ext' (by rw[c1,d1])
     subst this
     refine⟨rfl,?_⟩
     show Instr.sameBits (9999+1) (.agg ds) (.agg ds)=true
     have hds2:ds= #[v1,v2]:=Array.ext' (by rw[c1])
     subst hds2
     simp[Instr.sameBits,k2 9999,k4 9999]
    ·cases hb
  ·cases h
 ·cases h
theorem tT {q:TypeId}{eq:hJ}(h:Ta P q=some eq):sM P q eq:=by
 unfold Ta at h
 split at h
 ·rename_i e0 he
  cases h
  exact QO he
 ·exact Lh h
theorem rN {eq:hJ}{key:AV}{f:Unit->Out}(e:z6 eq key f=some r):eq key key=some true/\f ()=some r:=by
 unfold z6 at e
 split at e
 ·exact⟨am,e⟩
 ·cases e
theorem CT {e0:TypeId}{i:TypeInfo}{z:Value}(w:World)(h1:P.info? e0=some i)(h2:i.zero=some z):(zeroValue e0).run P w= .ok z w:=by
 simp[zeroValue,run_typeInfo w h1,h2]
theorem Ix {t q e0:TypeId}{y z:Operand}{ok:Bool}{xy xz:XV}{eq:hJ}{zz:AV}(ho:o.op= .lookup t y z ok)(ht:P.underlying t=some (.map q e0))(heq:sM P q eq)(hzz:ig P e0=some zz)(hy:cV y=some xy)(hz:cV z=some xz)(hw:WF h)
    (e:pT eq zz xy xz ok c call sl h k=some r):cM dr P ng o c sl h k r:=by
 obtain⟨i,zv,i1,i2,i3⟩:=eX hzz
 have out: ∀(v:AV) (b:Bool),mq ok v b h k=some r-> ∃q,k q h=some r/\ ∀β u,VR β v u->VR β q (if ok then .tuple #[u,.bool b]else u):=fun v b e'=>by
  unfold mq at e'
  cases ok with
  |true=>exact⟨_,e',fun β u hu=>by simp only[if_true,VR];exact⟨_,rfl,by simp only[bh,VR];exact⟨u,[.bool b],rfl,hu,.bool b,[],rfl,rfl,rfl⟩⟩⟩
  |false=>exact⟨_,e',fun β u hu=>by simpa using hu⟩
 unfold pT at e
 obtain⟨hfit,e⟩:=rN e
 split at e
 ·rename_i hv
  obtain⟨qv,k1,k2⟩:=out _ _ e
  refine⟨qv,h,k1,aV hw fun β a w hr hop=>?_⟩
  have a1:=hop y (by simp[ho,Op.operands]) xy hy
  rw[hv]at a1;simp only[VR]at a1
  refine⟨_,?_,k2 β zv (i3 β)⟩
  have a2:=hop z (by simp[ho,Op.operands]) xz hz
  have hf:(Instr.findKey q (a.eval z) []).run P w= .ok none w:=by
   rcases heq.find β _ _ a2 [] [] none rfl rfl w with⟨_,q2⟩|⟨_,_,_,_,_,q1,_⟩
   ·exact q2
   ·cases q1
  simp[execOp,ho,Instr.lookup,run_underlying ht,a1,heq.check β _ _ hfit a2,hf,CT w i1 i2]
 ·rename_i id hv
  split at e
  ·rename_i es clock hg
   have body: ∀β (a:Act) (w:World),HR c.floor β (view c h) w->tx β sl a o.op.operands.toList-> ∃L ces,β id=some L/\a.eval y= .map (some L.blk)/\w.heap[L.blk]? =some (.map ces clock)/\ER β es ces.toList/\VR β (bG sl xz) (a.eval z):=fun β a w hr hop=>by
    have a1:=hop y (by simp[ho,Op.operands]) xy hy
    rw[hv]at a1;simp only[VR]at a1
    obtain⟨L,hL,hu⟩:=a1
    obtain⟨L',q1,_,ces,q2,q3⟩:=hr.at_ id _ (eK hg)
    rw[hL]at q1;cases q1
    exact⟨L,ces,hL,hu,q2,q3,hop z (by simp[ho,Op.operands]) xz hz⟩
   split at e
   ·rename_i j v hf
    obtain⟨qv,k1,k2⟩:=out _ _ e
    refine⟨qv,h,k1,aV hw fun β a w hr hop=>?_⟩
    obtain⟨L,ces,b1,b2,b3,b4,b5⟩:=body β a w hr hop
    rcases heq.find β _ _ b5 es ces.toList _ hf b4 w with⟨q1,_⟩|⟨j',v',cv,e',ce',q1,q2,q3,_⟩
    ·cases q1
    ·simp only[Option.some.injEq,Prod.mk.injEq]at q1
     obtain⟨_,rfl⟩:=q1
     refine⟨_,?_,k2 β cv q3⟩
     simp[execOp,ho,Instr.lookup,run_underlying ht,b2,get_map b3,heq.check β _ _ hfit b5,q2]
   ·rename_i hf
    obtain⟨qv,k1,k2⟩:=out _ _ e
    refine⟨qv,h,k1,aV hw fun β a w hr hop=>?_⟩
    obtain⟨L,ces,b1,b2,b3,b4,b5⟩:=body β a w hr hop
    rcases heq.find β _ _ b5 es ces.toList _ hf b4 w with⟨_,q2⟩|⟨j',v',cv,e',ce',q1,_⟩
    ·refine⟨_,?_,k2 β zv (i3 β)⟩
     simp[execOp,ho,Instr.lookup,run_underlying ht,b2,get_map b3,heq.check β _ _ hfit b5,q2,CT w i1 i2]
    ·cases q1
   ·cases e
  ·cases e
 ·cases e
theorem yq {R:Type}{q:R}{v:AV}: ∀{i:Nat} {es:List (AV×AV×Nat)} {f:List (AV×AV×Nat)->Option R},HT v i es f=some q-> ∃es',f es'=some q/\ ∀β (ces:List MapEntry) (u:Value) (key:Value),ER β es ces->VR β v u->(∀e,es[i]? =some e->VR β e.1 key)->ER β es' (ces.modify i fun e=>{e with key:=key,val:=u})
 |i,[],f,e=>by cases i<;>cases e
 |0,e0::es,f,e=>⟨_,e,fun β ces u key he hv hk=>by
     obtain⟨ce,ces',rfl,h1,h2,h3,h4⟩:=he
     exact⟨_,_,rfl,hk e0 rfl,hv,h3,h4⟩⟩
 |i+1,e0::es,f,e=>by
  obtain⟨es',h1,h2⟩:=yq (i:=i) (es:=es) (f:=fun es=>f (e0::es)) e
  refine⟨e0::es',h1,fun β ces u key he hv hk=>?_⟩
  obtain⟨ce,ces',rfl,k1,k2,k3,k4⟩:=he
  exact⟨ce,_,by simp[List.modify_succ_cons],k1,k2,k3,h2 β ces' u key k4 hv fun e' he'=>hk e' (by simpa using he')⟩
theorem ER.append {β:bS}: ∀{xs ys:List (AV×AV×Nat)} {es fs:List MapEntry},ER β xs es->ER β ys fs->ER β (xs++ys) (es++fs)
 |[],ys,es,fs,h,h'=>by have:es=[]:=h;subst this;exact h'
 |x::xs,ys,es,fs,⟨e,es',h1,h2,h3,h4,h5⟩,h'=>by subst h1;exact⟨e,_,rfl,h2,h3,h4,h5.append h'⟩
theorem CU {β:bS}: ∀{es:List (AV×AV×Nat)} {ces:List MapEntry} (j:Nat),ER β es ces->ER β (es.eraseIdx j) (ces.eraseIdx j)
 |[],ces,j,h=>by
  have:ces=[]:=h
  subst this;exact h
 |x::es,ces,0,h=>by
  obtain⟨e,es',rfl,h1,h2,h3,h4⟩:=h
  exact h4
 |x::es,ces,j+1,h=>by
  obtain⟨e,es',rfl,h1,h2,h3,h4⟩:=h
  exact⟨e,es'.eraseIdx j,rfl,h1,h2,h3,CU j h4⟩
theorem Iy {α:Type}(a:Array α)(j:Nat):(a.eraseIdxIfInBounds j).toList=a.toList.eraseIdx j:=by
 unfold Array.eraseIdxIfInBounds
 split
 ·simp
 ·rename_i h
  rw[List.eraseIdx_of_length_le (by simpa using h)]
theorem Iz {t t2 q e0:TypeId}{y z:Operand}{xy xz:XV}{eq:hJ}(ho:o.op= .call {callee:= .builtin .delete,args:= #[y,z],argTypes:= #[t,t2]})(ht:P.underlying t=some (.map q e0))(heq:sM P q eq)(hy:cV y=some xy)(hz:cV z=some xz)(hw:WF h)
    (e:pU eq xy xz c call sl h k=some r):cM dr P ng o c sl h k r:=by
 unfold pU at e
 obtain⟨hfit,e⟩:=rN e
 split at e
 ·rename_i id hv
  split at e
  ·rename_i es clock hg
   obtain⟨g1,g2⟩:=bN hg
   have hid:id<id+1:=Nat.lt_succ_self _
   have body: ∀β (a:Act) (w:World),HR c.floor β (view c h) w->tx β sl a o.op.operands.toList-> ∃L ces,β id=some L/\a.eval y= .map (some L.blk)/\w.heap[L.blk]? =some (.map ces clock)/\ER β es ces.toList/\VR β (bG sl xz) (a.eval z):=fun β a w hr hop=>by
    have a1:=hop y (by simp[ho,Op.operands,Call.operands]) xy hy
    rw[hv]at a1;simp only[VR]at a1
    obtain⟨L,hL,hu⟩:=a1
    obtain⟨L',q1,_,ces,q2,q3⟩:=hr.at_ id _ (eK hg)
    rw[hL]at q1;cases q1
    exact⟨L,ces,hL,hu,q2,q3,hop z (by simp[ho,Op.operands,Call.operands]) xz hz⟩
   have wr: ∀(es':List (AV×AV×Nat)),c.floor<=id->(∀β (a:Act) (w:World),HR c.floor β (view c h) w->tx β sl a o.op.operands.toList-> ∃L ces,β id=some L/\(∃ob,w.heap[L.blk]? =some ob)/\(execOp a.eval o).run P w= .ok (.value (.tuple #[])) {w with heap:=w.heap.setIfInBounds L.blk (.map ces clock)}/\ER β es' ces.toList)->
       oF dr P ng o c sl h (.bn []) ⟨Tr.set depth h.t id (.map es' clock),h.n⟩:=fun es' hf hb=>by
    refine⟨eJ hw g1 hf g2,fun β a w hgb hr hop hfr K Q hK=>?_⟩
    obtain⟨L,ces,b1,⟨ob,b2⟩,b3,b5⟩:=hb β a w hr hop
    unfold Oper.wp
    rw[b3]
    have hs:=MapKept.heap_set (o':=Obj.map ces clock) b2
    refine hK β _ _ (gw (b:= .map es' clock) hr (eK hg) b1 hf (fun B hB=>hs.2 B hB) (by simp) rfl ⟨rfl,fun _=>Nat.le_refl _⟩ rfl ⟨ces,hs.1,b5⟩ (fun j d e=>fM hid e)) (by simp[VR,bh])
   split at e
   ·rename_i j v1 hf
    obtain⟨hfl,_,e⟩:=dQ e
    refine⟨_,_,e,wr _ hfl fun β a w hr hop=>?_⟩
    obtain⟨L,ces,b1,b2,b3,b4,b5⟩:=body β a w hr hop
    rcases heq.find β _ _ b5 es ces.toList _ hf b4 w with⟨q1,_⟩|⟨j',v',cv,e',ce',q1,q2,_⟩
    ·cases q1
    ·simp only[Option.some.injEq,Prod.mk.injEq]at q1
     obtain⟨rfl,rfl⟩:=q1
     refine⟨L,ces.eraseIdxIfInBounds j,b1,⟨_,b3⟩,?_,by rw[Iy];exact CU j b4⟩
     simp[execOp,ho,resolve,invoke,builtin,Builtin.delete_,b2,run_underlying ht,get_map b3,heq.check β _ _ hfit b5,q2,tS _ b3]
   ·rename_i hf
    obtain⟨hfl,_,e⟩:=dQ e
    refine⟨_,_,e,wr _ hfl fun β a w hr hop=>?_⟩
    obtain⟨L,ces,b1,b2,b3,b4,b5⟩:=body β a w hr hop
    rcases heq.find β _ _ b5 es ces.toList _ hf b4 w with⟨_,q2⟩|⟨j',v',cv,e',ce',q1,_⟩
    ·refine⟨L,ces,b1,⟨_,b3⟩,?_,b4⟩
     simp[execOp,ho,resolve,invoke,builtin,Builtin.delete_,b2,run_underlying ht,get_map b3,heq.check β _ _ hfit b5,q2,tS _ b3]
    ·cases q1
   ·cases e
  ·cases e
 ·cases e
theorem CV {t q e0:TypeId}{y z v:Operand}{xy xz xv:XV}{eq:hJ}(ho:o.op= .mapUpdate t y z v\/o.op= .insert t y z v)(ht:P.underlying t=some (.map q e0))(heq:sM P q eq)(hy:cV y=some xy)(hz:cV z=some xz)(hv0:cV v=some xv)(hw:WF h)
    (e:rv eq xy xz xv c call sl h k=some r):cM dr P ng o c sl h k r:=by
 unfold rv at e
 obtain⟨hfit,e⟩:=rN e
 split at e
 ·rename_i id hv
  split at e
  ·rename_i es clock hg
   obtain⟨g1,g2⟩:=bN hg
   have hid:id<id+1:=Nat.lt_succ_self _
   have body: ∀β (a:Act) (w:World),HR c.floor β (view c h) w->tx β sl a o.op.operands.toList-> ∃L ces,β id=some L/\a.eval y= .map (some L.blk)/\w.heap[L.blk]? =some (.map ces clock)/\ER β es ces.toList/\VR β (bG sl xz) (a.eval z)/\VR β (bG sl xv) (a.eval v):=fun β a w hr hop=>by
    have a1:=hop y (by rcases ho with ho|ho<;>simp[ho,Op.operands]) xy hy
    rw[hv]at a1;simp only[VR]at a1
    obtain⟨L,hL,hu⟩:=a1
    obtain⟨L',q1,_,ces,q2,q3⟩:=hr.at_ id _ (eK hg)
    rw[hL]at q1;cases q1
    exact⟨L,ces,hL,hu,q2,q3,hop z (by rcases ho with ho|ho<;>simp[ho,Op.operands]) xz hz,hop v (by rcases ho with ho|ho<;>simp[ho,Op.operands]) xv hv0⟩
   have wr: ∀(b:AB),c.floor<=id->(∀β (a:Act) (w:World),HR c.floor β (view c h) w->tx β sl a o.op.operands.toList-> ∃L ces clock',β id=some L/\(∃ob,w.heap[L.blk]? =some ob)/\(execOp a.eval o).run P w= .ok .skip {w with heap:=w.heap.setIfInBounds L.blk (.map ces clock')}/\ ∃es',b= .map es' clock'/\ER β es' ces.toList)->
       oF dr P ng o c sl h (.bn []) ⟨Tr.set depth h.t id b,h.n⟩:=fun b hf hb=>by
    refine⟨eJ hw g1 hf g2,fun β a w hgb hr hop hfr K Q hK=>?_⟩
    obtain⟨L,ces,clock',b1,⟨ob,b2⟩,b3,es',rfl,b5⟩:=hb β a w hr hop
    unfold Oper.wp
    rw[b3]
    have hs:=MapKept.heap_set (o':=Obj.map ces clock') b2
    refine hK β undef _ (gw (b:= .map es' clock') hr (eK hg) b1 hf (fun B hB=>hs.2 B hB) (by simp) rfl ⟨rfl,fun _=>Nat.le_refl _⟩ rfl ⟨ces,hs.1,b5⟩ (fun j d e=>fM hid e)) p9
   split at e
   ·rename_i j v1 hf
    obtain⟨es',e,h1⟩:=yq e
    obtain⟨hfl,_,e⟩:=dQ e
    refine⟨_,_,e,wr _ hfl fun β a w hr hop=>?_⟩
    obtain⟨L,ces,b1,b2,b3,b4,b5,b6⟩:=body β a w hr hop
    rcases heq.find β _ _ b5 es ces.toList _ hf b4 w with⟨q1,_⟩|⟨j',v',cv,e',ce',q1,q2,q3,q4,q5,q6,q7,q8⟩
    ·cases q1
    ·simp only[Option.some.injEq,Prod.mk.injEq]at q1
     obtain⟨rfl,rfl⟩:=q1
     have hER: ∀(es:List (AV×AV×Nat)) (ces:List MapEntry) (j:Nat) e ce,ER β es ces->es[j]? =some e->ces[j]? =some ce->VR β e.1 ce.key:=by
      intro es
      induction es with
      |nil=>intro ces j e ce _ h1;simp at h1
      |cons x xs ih=>
       intro ces j e ce he h1 h2
       obtain⟨y,ys,rfl,p1,p2,p3,p4⟩:=he
       cases j with
       |zero=>simp at h1 h2;subst h1 h2;exact p1
       |succ j=>exact ih ys j e ce p4 (by simpa using h1) (by simpa using h2)
     have hkey:=hER es ces.toList j e' ce' b4 q4 q5
     obtain⟨s1,s2⟩:=heq.same β _ _ _ _ q6 b5 hkey
     have q5':ces[j]? =some ce':=by simpa using q5
     have hstay:(Instr.keyThatStays ce'.key (a.eval z)).run P w= .ok (a.eval z) w:=by rw[s1];simp[Instr.keyThatStays,s2]
     refine⟨L,ces.modify j fun e=>{e with key:=a.eval z,val:=a.eval v},clock,b1,⟨_,b3⟩,?_,es',rfl,?_⟩
     ·have hrun:(Instr.mapUpdate t (.map (some L.blk)) (a.eval z) (a.eval v)).run P w= .ok () {w with heap:=w.heap.setIfInBounds L.blk (.map (ces.modify j fun e=>{e with key:=a.eval z,val:=a.eval v}) clock)}:=by
        simp[Instr.mapUpdate,run_underlying ht,get_map b3,heq.check β _ _ hfit b5,q2,q5',hstay,tS _ b3]
      rcases ho with ho|ho<;>simp[execOp,ho,b2,hrun]
     ·have:=h1 β ces.toList (a.eval v) (a.eval z) b4 b6 (fun e2 he2=>by
        rw[q4]at he2;cases he2;rw[<-s1];exact hkey)
      rw[Array.toList_modify];exact this
   ·rename_i hf
    rw[ep,aZ]at e
    obtain⟨hfl,_,e⟩:=dQ e
    refine⟨_,_,e,wr _ hfl fun β a w hr hop=>?_⟩
    obtain⟨L,ces,b1,b2,b3,b4,b5,b6⟩:=body β a w hr hop
    rcases heq.find β _ _ b5 es ces.toList _ hf b4 w with⟨_,q2⟩|⟨j',v',cv,e',ce',q1,_⟩
    ·refine⟨L,ces.push {key:=a.eval z,val:=a.eval v,born:=clock},clock+1,b1,⟨_,b3⟩,?_,_,rfl,?_⟩
     ·have hrun:(Instr.mapUpdate t (.map (some L.blk)) (a.eval z) (a.eval v)).run P w= .ok () {w with heap:=w.heap.setIfInBounds L.blk (.map (ces.push {key:=a.eval z,val:=a.eval v,born:=clock}) (clock+1))}:=by
        simp[Instr.mapUpdate,run_underlying ht,get_map b3,heq.check β _ _ hfit b5,q2,tS _ b3]
      rcases ho with ho|ho<;>simp[execOp,ho,b2,hrun]
     ·rw[Array.toList_push]
      exact b4.append ⟨_,[],rfl,b5,b6,rfl,rfl⟩
    ·cases q1
   ·cases e
  ·cases e
 ·cases e
end
end Go.Proofs.YtemehfgkfidgjaaGreatDoor.Ev
