/- CoverStates, part 3 -/
import Derived.Test.YtemehfgkfidgjaaGreatDoorEvB
import Derived.Laws.IdiomCopy
import Derived.ChangeKeysEq
set_option linter.all false
namespace Go.Proofs.YtemehfgkfidgjaaGreatDoor.Ev
open Go
variable {dr:Prop}
def tH (β:bS)(n:Nat)(L:Loc):bS:=fun id=>if id=n then some L else β id
theorem cB (β:bS)(n:Nat)(L:Loc):tH β n L n=some L:=by simp[tH]
theorem cT {β:bS}{n:Nat}{L:Loc}{id:Nat}(h:id≠n):tH β n L id=β id:=by simp[tH,h]
theorem iu {β:bS}{n:Nat}(L:Loc)(h:β n=none):Sub β (tH β n L):=fun id M e=>by
 by_cases x:id=n
 ·subst x;rw[h]at e;cases e
 ·rw[cT x];exact e
theorem vz {f n:Nat}{β:bS}{g g':View}{w w':World}{b:AB}{L:Loc}(h:HR f β g w)(hn:β n=none)
    (hblk:L.blk=w.heap.size) (hw: ∀B,B<w.heap.size->w'.heap[B]? =w.heap[B]?) (hs:w'.heap.size=w.heap.size+1) (hos:w'.os=w.os) (htp:w'.tape=w.tape/\(dr->w.drawn<=w'.drawn)) (hout:w'.output=w.output)
    (hb:BR (tH β n L) L w' b) (hg: ∀id d,g' id=some d->(id=n/\d=b)\/(id≠n/\g id=some d)):
    ca dr f n (n+1) β g w (tH β n L) g' w':=by
 refine⟨om,iu L hn,fun id M h1 h2=>?_,⟨fun id d e=>?_,fun i j d e M N h1 h2 h3 h4 h5=>?_⟩,hos,htp,hout,om,fun B hB _=>hw B hB,fun id M h1 h2=>?_,fun id d e=>?_⟩
 ·by_cases x:id=n
  ·omega
  ·rw[cT x,h2]at h1;cases h1
 ·rcases hg id d e with⟨rfl,rfl⟩|⟨x,e⟩
  ·exact⟨L,cB _ _ _,om,hb⟩
  ·obtain⟨M,h1,h2,h3⟩:=h.at_ id d e
   exact⟨M,by rw[cT x];exact h1,om,h3.mono (iu L hn) (hw _ h2)⟩
 ·have old: ∀i d M,i≠n->g i=some d->tH β n L i=some M->M.blk<w.heap.size:=fun i d M x e1 e2=>by
    rw[cT x]at e2
    obtain⟨M',h1,h2,_⟩:=h.at_ i d e1
    rw[h1]at e2;cases e2;exact h2
  rcases hg i d h1 with⟨rfl,rfl⟩|⟨x,e1⟩<;>rcases hg j e h2 with⟨rfl,rfl⟩|⟨y,e2⟩
  ·exact Or.inl rfl
  ·have:=old j e N y e2 h4
   rw[cB]at h3;cases h3;omega
  ·have:=old i d M x e1 h3
   rw[cB]at h4;cases h4;omega
  ·rw[cT x]at h3;rw[cT y]at h4
   exact h.inj i j d e M N e1 e2 h3 h4 h5
 ·by_cases x:id=n
  ·subst x;rw[cB]at h1;cases h1;exact Or.inl om
  ·rw[cT x,h2]at h1;cases h1
 ·rcases hg id d e with⟨rfl,rfl⟩|⟨_,e⟩
  ·exact Or.inr hn
  ·exact Or.inl ⟨d,e⟩
theorem gw {f n id:Nat}{β:bS}{g g':View}{w w':World}{b0 b:AB}{L:Loc}(h:HR f β g w)(h0:g id=some b0)(hL:β id=some L)(hf:f<=id)
    (hw: ∀B,B≠L.blk->w'.heap[B]? =w.heap[B]?) (hs:w'.heap.size=w.heap.size) (hos:w'.os=w.os) (htp:w'.tape=w.tape/\(dr->w.drawn<=w'.drawn)) (hout:w'.output=w.output)
    (hb:BR β L w' b) (hg: ∀j d,g' j=some d->(j=id/\d=b)\/(j≠id/\g j=some d)):
    ca dr f n n β g w β g' w':=by
 obtain⟨L',hL',hlt,_⟩:=h.at_ id b0 h0
 rw[hL]at hL';cases hL'
 refine⟨Nat.le_refl _,Sub.refl _,fun i M h1 h2=>by(rw[h2]at h1;cases h1),⟨fun j d e=>?_,fun i j d e M N h1 h2 h3 h4 h5=>?_⟩,hos,htp,hout,om,fun B hB hh=>hw B fun e=>hh id b0 L hf h0 hL e.symm,fun i M h1 h2=>by(rw[h2]at h1;cases h1),fun j d e=>?_⟩
 ·rcases hg j d e with⟨rfl,rfl⟩|⟨x,e⟩
  ·exact⟨L,hL,om,hb⟩
  ·obtain⟨M,h1,h2,h3⟩:=h.at_ j d e
   refine⟨M,h1,om,h3.mono (Sub.refl _) (hw _ fun e2=>x ((h.inj j id d b0 M L e h0 h1 hL e2).elim (fun q=>q) fun q=>by omega))⟩
 ·have lft: ∀i d,g' i=some d-> ∃d',g i=some d':=fun i d e=>by
    rcases hg i d e with⟨rfl,rfl⟩|⟨_,e⟩
    ·exact⟨b0,h0⟩
    ·exact⟨d,e⟩
  obtain⟨d',e1⟩:=lft i d h1
  obtain⟨e',e2⟩:=lft j e h2
  exact h.inj i j d' e' M N e1 e2 h3 h4 h5
 ·rcases hg j d e with⟨rfl,rfl⟩|⟨_,e⟩
  ·exact Or.inl ⟨b0,h0⟩
  ·exact Or.inl ⟨d,e⟩
theorem HW {f n id:Nat}{β:bS}{g g':View}{w w':World}{b0 b:AB}{L M:Loc}(h:HR f β g w)(h0:g id=some b0)(hL:β id=some L)(hf:f<=id)(hn:β n=none)
    (hM:M.blk=L.blk) (hw: ∀B,B≠L.blk->w'.heap[B]? =w.heap[B]?) (hs:w'.heap.size=w.heap.size) (hos:w'.os=w.os) (htp:w'.tape=w.tape/\(dr->w.drawn<=w'.drawn)) (hout:w'.output=w.output)
    (hb:BR (tH β n M) M w' b) (hg: ∀j d,g' j=some d->(j=n/\d=b)\/(j≠n/\j≠id/\g j=some d)):
    ca dr f n (n+1) β g w (tH β n M) g' w':=by
 obtain⟨L',hL',hlt,_⟩:=h.at_ id b0 h0
 rw[hL]at hL';cases hL'
 refine⟨om,iu M hn,fun i N h1 h2=>?_,⟨fun j d e=>?_,fun i j d e N N' h1 h2 h3 h4 h5=>?_⟩,hos,htp,hout,om,fun B hB hh=>hw B fun e=>hh id b0 L hf h0 hL e.symm,fun i N h1 h2=>?_,fun j d e=>?_⟩
 ·by_cases x:i=n
  ·omega
  ·rw[cT x,h2]at h1;cases h1
 ·rcases hg j d e with⟨rfl,rfl⟩|⟨x,y,e⟩
  ·exact⟨M,cB _ _ _,om,hb⟩
  ·obtain⟨N,h1,h2,h3⟩:=h.at_ j d e
   exact⟨N,by rw[cT x];exact h1,om,h3.mono (iu M hn) (hw _ fun e2=>y ((h.inj j id d b0 N L e h0 h1 hL e2).elim (fun q=>q) fun q=>by omega))⟩
 ·have oth: ∀i d N,i≠n->i≠id->g i=some d->tH β n M i=some N->N.blk≠M.blk:=fun i d N x y e1 e2 e3=>by
    rw[cT x]at e2
    exact y ((h.inj i id d b0 N L e1 h0 e2 hL (e3.trans hM)).elim (fun q=>q) fun q=>by omega)
  rcases hg i d h1 with⟨rfl,rfl⟩|⟨x,x',e1⟩<;>rcases hg j e h2 with⟨rfl,rfl⟩|⟨y,y',e2⟩
  ·exact Or.inl rfl
  ·rw[cB]at h3;cases h3;exact absurd h5.symm (oth j e N' y y' e2 h4)
  ·rw[cB]at h4;cases h4;exact absurd h5 (oth i d N x x' e1 h3)
  ·rw[cT x]at h3;rw[cT y]at h4
   exact h.inj i j d e N N' e1 e2 h3 h4 h5
 ·by_cases x:i=n
  ·subst x;rw[cB]at h1;cases h1;exact Or.inr ⟨id,b0,L,hf,h0,hL,hM.symm⟩
  ·rw[cT x,h2]at h1;cases h1
 ·rcases hg j d e with⟨rfl,rfl⟩|⟨_,_,e⟩
  ·exact Or.inr hn
  ·exact Or.inl ⟨d,e⟩
theorem ca.drew {f n n':Nat}{β β':bS}{g g':View}{w w':World}{k:Nat}(h:ca dr f n n' β g {w with drawn:=k} β' g' w')(hk:w.drawn<=k:=by exact Nat.le_succ _):ca dr f n n' β g w β' g' w':=
 ⟨h.le,h.sub,h.fresh,h.hr,h.os,⟨h.tape.1,fun q=>Nat.le_trans hk (h.tape.2 q)⟩,h.output,h.size,h.frame,h.news,h.old⟩
theorem HR.drew {f:Nat}{β:bS}{g:View}{w:World}(h:HR f β g w)(k:Nat):HR f β g {w with drawn:=k}:=
 ⟨fun id b e=>by
  obtain⟨L,h1,h2,h3⟩:=h.at_ id b e
  exact⟨L,h1,h2,h3.mono (Sub.refl _) rfl⟩,h.inj⟩
/-! the evaluator's primitives -/
structure WF (h:H):Prop where
 top: ∀id,h.n<=id->Tr.get h.t id=none
 small:h.n<=h.n
structure Step (c:C)(h h':H):Prop where
 le:h.n<=h'.n
 wf:WF h'
 sE: ∀id,id<h.n->Tr.get h'.t id=Tr.get h.t id\/(c.floor<=id/\seen c.cd id=true)
theorem Step.refl {c:C}{h:H}(hw:WF h):Step c h h:=⟨Nat.le_refl _,hw,fun _ _=>Or.inl rfl⟩
theorem Step.trans {c:C}{h h1 h2:H}(a:Step c h h1)(b:Step c h1 h2):Step c h h2:=
 ⟨Nat.le_trans a.le b.le,b.wf,fun id hid=>by
  rcases b.sE id (Nat.lt_of_lt_of_le hid a.le)with e|e
  ·rcases a.sE id hid with e2|e2
   ·exact Or.inl (e.trans e2)
   ·exact Or.inr e2
  ·exact Or.inr e⟩
theorem db {h:H}(hw:WF h){id:Nat}{b:AB}(e:Tr.get h.t id=some b):id<h.n:=by
 rcases Nat.lt_or_ge id h.n with x|x
 ·exact x
 ·rw[hw.top id x]at e;cases e
theorem bN {c:C}{h:H}{id:Nat}{b:AB}(e:cr c h id=some b):Tr.get h.t id=some b/\seen c.cd id=true:=by
 unfold cr at e
 cases hs:seen c.cd id with
 |true=>rw[hs]at e;exact⟨e,rfl⟩
 |false=>rw[hs]at e;cases e
theorem bM {α:Type}(t:Tr α)(i j:Nat)(a:α)(h:i<i+1):Tr.get (Tr.set depth t i a) j=if i=j then some a else Tr.get t j:=
 Tr.Nz depth t i j a
theorem dF {R:Type}{r:R}{h:H}{b:AB}{k:Nat->H->Option R}(e:pK h b k=some r):h.n<h.n+1/\k h.n ⟨Tr.set depth h.t h.n b,h.n+1⟩=some r:=by
 unfold pK at e
 simp only[Tr.kA,aZ]at e
 exact⟨Nat.lt_succ_self _,e⟩
theorem dQ {R:Type}{r:R}{c:C}{h:H}{id:Nat}{b:AB}{k:H->Option R}(e:pJ c h id b k=some r):c.floor<=id/\seen c.cd id=true/\k ⟨Tr.set depth h.t id b,h.n⟩=some r:=by
 unfold pJ at e
 cases hb:(Nat.ble c.floor id&&seen c.cd id)with
 |true=>
  rw[hb]at e
  simp only[cond,Tr.kA]at e
  rw[Bool.and_eq_true]at hb
  exact⟨Nat.le_of_ble_eq_true hb.1,hb.2,e⟩
 |false=>rw[hb]at e;cases e
theorem ef {c:C}{h:H}{b:AB}(hw:WF h)(hn:h.n<h.n+1):Step c h ⟨Tr.set depth h.t h.n b,h.n+1⟩:=
 ⟨by simp,⟨fun id hid=>by rw[bM _ _ _ _ hn,if_neg (by simp at hid;omega)];exact hw.top id (by simp at hid;omega),Nat.le_refl _⟩,fun id hid=>Or.inl (by rw[bM _ _ _ _ hn,if_neg (by omega)])⟩
theorem eJ {c:C}{h:H}{id:Nat}{b0 b:AB}(hw:WF h)(h0:Tr.get h.t id=some b0)(hf:c.floor<=id)(hs:seen c.cd id=true):Step c h ⟨Tr.set depth h.t id b,h.n⟩:=by
 have hlt:=db hw h0
 have hid:id<id+1:=Nat.lt_succ_self _
 refine⟨Nat.le_refl _,⟨fun j hj=>by rw[bM _ _ _ _ hid,if_neg (by simp at hj;omega)];exact hw.top j hj,hw.small⟩,fun j hj=>?_⟩
 rw[bM _ _ _ _ hid]
 by_cases e:id=j
 ·subst e;exact Or.inr ⟨hf,hs⟩
 ·rw[if_neg e];exact Or.inl rfl
theorem dV {c:C}{h:H}{id:Nat}{b:AB}(e:view c h id=some b):cr c h id=some b:=by
 unfold view at e
 split at e
 ·cases e
 ·exact e
theorem fi {c:C}{h:H}{id:Nat}{b:AB}(e:cr c h id=some b)(hb:b≠ .dead):view c h id=some b:=by
 unfold view;rw[e]
 cases b<;>first|rfl|exact absurd rfl hb
theorem cG {c:C}{h:H}{id:Nat}{vs:List AV}(e:cr c h id=some (.cells vs)):view c h id=some (.cells vs):=fi e (fun q=>by cases q)
theorem eK {c:C}{h:H}{id:Nat}{es:List (AV×AV×Nat)}{k:Nat}(e:cr c h id=some (.map es k)):view c h id=some (.map es k):=fi e (fun q=>by cases q)
theorem vA {c:C}{h:H}{b d:AB}{id:Nat}(hn:h.n<h.n+1)(e:view c ⟨Tr.set depth h.t h.n b,h.n+1⟩ id=some d):(id=h.n/\d=b)\/(id≠h.n/\view c h id=some d):=by
 have e1:=dV e
 obtain⟨e2,e3⟩:=bN e1
 rw[bM _ _ _ _ hn]at e2
 by_cases x:h.n=id
 ·rw[if_pos x]at e2;cases e2;exact Or.inl ⟨x.symm,rfl⟩
 ·refine Or.inr ⟨Ne.symm x,?_⟩
  have e4:cr c h id=cr c ⟨Tr.set depth h.t h.n b,h.n+1⟩ id:=by unfold cr;simp only[bM _ _ _ _ hn,if_neg x]
  unfold view at e⊢
  rw[e4];exact e
theorem fM {c:C}{h:H}{b d:AB}{id j:Nat}(hid:id<id+1)(e:view c ⟨Tr.set depth h.t id b,h.n⟩ j=some d):(j=id/\d=b)\/(j≠id/\view c h j=some d):=by
 have e1:=dV e
 obtain⟨e2,e3⟩:=bN e1
 rw[bM _ _ _ _ hid]at e2
 by_cases x:id=j
 ·rw[if_pos x]at e2;cases e2;exact Or.inl ⟨x.symm,rfl⟩
 ·refine Or.inr ⟨Ne.symm x,?_⟩
  have e4:cr c h j=cr c ⟨Tr.set depth h.t id b,h.n⟩ j:=by unfold cr;simp only[bM _ _ _ _ hid,if_neg x]
  unfold view at e⊢
  rw[e4];exact e
def tx (β:bS)(sl:Tr AV)(a:Act)(ys:List Operand):Prop:= ∀y∈ys,∀x,cV y=some x->VR β (bG sl x) (a.eval y)
def oF (dr:Prop)(P:Program)(ng:Nat)(o:Oper)(c:C)(sl:Tr AV)(h:H)(v:AV)(h':H):Prop:=
 Step c h h'/\ ∀β a w,GB ng β->HR c.floor β (view c h) w->tx β sl a o.op.operands.toList->(∀id,h.n<=id->id<h'.n->β id=none)-> ∀(K:Act->World->Prop) (Q:Exit->Act->World->Prop),
  (∀β' val w',ca dr c.floor h.n h'.n β (view c h) w β' (view c h') w'->VR β' v val->K (a.put o.dst val) w')->Oper.wp P o a w K Q
section
variable {P:Program}{ng:Nat}{o:Oper}{c:C}{sl:Tr AV}{h:H}
theorem aV {v:AV}(hw:WF h)(hrun: ∀β a w,HR c.floor β (view c h) w->tx β sl a o.op.operands.toList-> ∃val,(execOp a.eval o).run P w= .ok (.value val) w/\VR β v val):oF dr P ng o c sl h v h:=by
 refine⟨Step.refl hw,fun β a w _ hr ho _ K Q hK=>?_⟩
 obtain⟨val,h1,h2⟩:=hrun β a w hr ho
 unfold Oper.wp
 rw[h1]
 exact hK β val w (ca.refl hr) h2
theorem KB {y:Operand}{x:XV}(ho:o.op= .move y\/o.op= .assign y)(hx:cV y=some x)(hw:WF h):oF dr P ng o c sl h (bG sl x) h:=by
 refine aV hw fun β a w hr hop=>⟨a.eval y,?_,hop y ?_ x hx⟩
 ·rcases ho with ho|ho<;>simp[execOp,ho]
 ·rcases ho with ho|ho<;>simp[ho,Op.operands]
theorem Cy {b y z:Operand}{xb xy xz:XV}{t:Bool}(ho:o.op= .pick b y z)(hb:cV b=some xb)(hy:cV y=some xy)(hz:cV z=some xz)(ht:bG sl xb= .bool t)(hw:WF h):oF dr P ng o c sl h (if t then bG sl xy else bG sl xz) h:=by
 refine aV hw fun β a w hr hop=>?_
 have h1:=hop b (by simp[ho,Op.operands]) xb hb
 have h2:=hop y (by simp[ho,Op.operands]) xy hy
 have h3:=hop z (by simp[ho,Op.operands]) xz hz
 rw[ht]at h1
 simp only[VR]at h1
 refine⟨if t then a.eval y else a.eval z,?_,?_⟩
 ·simp[execOp,ho,h1,asBool]
 ·cases t
  ·exact h3
  ·exact h2
theorem EG {v:AV}(h:Cj v=true):v≠ .top:=fun q=>by rw[q]at h;cases h
theorem VR.cells {β:bS}{v:AV}{u:Value}(h:VR β v u)(hv:v≠ .top):bh β v.cells u.cells.toList:=by
 cases v with
 |agg vs=>
  simp only[VR]at h
  obtain⟨cs,rfl,h⟩:=h
  exact h
 |bool b=>simp only[VR]at h;subst h;simp[AV.cells,Value.cells,bh,VR]
 |int k n=>simp only[VR]at h;subst h;simp[AV.cells,Value.cells,bh,VR]
 |str s=>
  simp only[VR]at h
  obtain⟨b,rfl,h⟩:=h
  simp[AV.cells,Value.cells,bh,VR,h]
 |eG=>simp only[VR]at h;subst h;simp[AV.cells,Value.cells,bh,VR]
 |ptr id off=>
  have h':=h
  simp only[VR]at h
  obtain⟨L,_,rfl⟩:=h
  simp only[AV.cells,Value.cells,bh]
  exact⟨_,_,rfl,h',rfl⟩
 |aE=>simp only[VR]at h;subst h;simp[AV.cells,Value.cells,bh,VR]
 |sl id off len esz cap=>
  have h':=h
  simp only[VR]at h
  obtain⟨L,o,cp,_,rfl,_⟩:=h
  simp only[AV.cells,Value.cells,bh]
  exact⟨_,_,rfl,h',rfl⟩
 |dt=>simp only[VR]at h;subst h;simp[AV.cells,Value.cells,bh,VR]
 |mp id=>
  have h':=h
  simp only[VR]at h
  obtain⟨L,_,rfl⟩:=h
  simp only[AV.cells,Value.cells,bh]
  exact⟨_,_,rfl,h',rfl⟩
 |jb=>simp only[VR]at h;subst h;simp[AV.cells,Value.cells,bh,VR]
 |raw oa n cp=>simp only[VR]at h;subst h;simp[AV.cells,Value.cells,bh,VR]
 |fn f caps=>
  have h':=h
  simp only[VR]at h
  obtain⟨cs,rfl,_⟩:=h
  simp only[AV.cells,Value.cells,bh]
  exact⟨_,_,rfl,h',rfl⟩
 |sT=>simp only[VR]at h;subst h;simp[AV.cells,Value.cells,bh,VR]
 |iface t x=>
  have h':=h
  simp only[VR]at h
  obtain⟨c,rfl,_⟩:=h
  simp only[AV.cells,Value.cells,bh]
  exact⟨_,_,rfl,h',rfl⟩
 |Nc f fs caps=>
  have h':=h
  simp only[VR]at h
  obtain⟨_,_,rfl,_⟩:=h
  simp only[AV.cells,Value.cells,bh]
  exact⟨_,_,rfl,h',rfl⟩
 |Dn id=>
  have h':=h
  simp only[VR]at h
  obtain⟨L,_,rfl⟩:=h
  simp only[AV.cells,Value.cells,bh]
  exact⟨_,_,rfl,h',rfl⟩
 |bn vs=>
  have h':=h
  simp only[VR]at h
  obtain⟨cs,rfl,_⟩:=h
  simp only[AV.cells,Value.cells,bh]
  exact⟨_,_,rfl,h',rfl⟩
 |var id=>
  have h':=h
  simp only[VR]at h
  obtain⟨L,_,_,hc⟩:=h
  rw[hc]
  simp only[AV.cells,bh]
  exact⟨_,_,rfl,h',rfl⟩
 |top=>exact absurd rfl hv
/-! new blocks -/
theorem Ad {β:bS}{n:Nat}{w w':World}{vs:List AV}{cs:List Value}{e:TypeId}(hv:bh β vs cs)(hn:β n=none)(hw:w'.heap[w.heap.size]? =some (.cells cs.toArray e (0,0))):
    BR (tH β n ⟨w.heap.size,0,cs.length,dv⟩) ⟨w.heap.size,0,cs.length,dv⟩ w' (.cells vs):=
 ⟨cs.toArray,(e,(0,0)),hw,⟨by simp,by have:=hv.length;show 0+vs.length<=cs.length;omega,fun i _ _=>by simp⟩,fun i v hi=>by
  obtain⟨u,h1,h2⟩:=hv.get hi
  exact⟨u,by simpa using h1,VR.mono (iu _ hn) _ _ h2⟩⟩
theorem fj {f:Nat}{β:bS}{c:C}{h:H}{w:World}{b:AB}{L:Loc}{ob:Obj}(hr:HR f β (view c h) w)(hlt:h.n<h.n+1)(hn:β h.n=none)(hblk:L.blk=w.heap.size)
    (hb:BR (tH β h.n L) L {w with heap:=w.heap.push ob} b):
    ca dr f h.n (h.n+1) β (view c h) w (tH β h.n L) (view c ⟨Tr.set depth h.t h.n b,h.n+1⟩) {w with heap:=w.heap.push ob}:=
 vz hr hn hblk (fun B hB=>by simp[Array.getElem?_push,Nat.ne_of_lt hB]) (by simp) rfl ⟨rfl,fun _=>Nat.le_refl _⟩ rfl hb (fun id d e=>vA hlt e)
theorem NA {e:TypeId}{y:Operand}{x:XV}(ho:o.op= .box e y)(hx:cV y=some x)(fX:Cj (bG sl x)=true)(hw:WF h)(hlt:h.n<h.n+1):
    oF dr P ng o c sl h (.ptr h.n 0) ⟨Tr.set depth h.t h.n (.cells (bG sl x).cells),h.n+1⟩:=by
 refine⟨ef hw hlt,fun β a w hgb hr hop hfr K Q hK=>?_⟩
 have hv:=(hop y (by simp[ho,Op.operands]) x hx).cells (EG fX)
 have hn:=hfr h.n (Nat.le_refl _) (by simp)
 unfold Oper.wp
 have hrun:(execOp a.eval o).run P w= .ok (.value (.pointer (some ⟨w.heap.size,0,none⟩))) {w with heap:=w.heap.push (.cells (a.eval y).cells e)}:=by
  simp[execOp,ho,Instr.box,newVar,newRow]
 rw[hrun]
 refine hK _ _ _ (fj (L:=⟨w.heap.size,0,(a.eval y).cells.toList.length,dv⟩) hr hlt hn rfl (Ad (e:=e) hv hn (by simp))) ?_
 simp only[VR]
 exact⟨_,cB _ _ _,rfl⟩
theorem HX {e:TypeId}{z:Value}{az:AV}{i:TypeInfo}(ho:o.op= .alloc e)(hi:P.info? e=some i)(hz:i.zero=some z)(hv: ∀β,VR β az z)(fX:Cj az=true)(hw:WF h)(hlt:h.n<h.n+1):
    oF dr P ng o c sl h (.ptr h.n 0) ⟨Tr.set depth h.t h.n (.cells az.cells),h.n+1⟩:=by
 refine⟨ef hw hlt,fun β a w hgb hr hop hfr K Q hK=>?_⟩
 have hn:=hfr h.n (Nat.le_refl _) (by simp)
 unfold Oper.wp
 have hrun:(execOp a.eval o).run P w= .ok (.value (.pointer (some ⟨w.heap.size,0,none⟩))) {w with heap:=w.heap.push (.cells z.cells e)}:=by
  simp[execOp,ho,Instr.alloc,newVar,newRow,zeroValue,run_typeInfo w hi,hz]
 rw[hrun]
 refine hK _ _ _ (fj (L:=⟨w.heap.size,0,z.cells.toList.length,dv⟩) hr hlt hn rfl (Ad (e:=e) ((hv β).cells (EG fX)) hn (by simp))) ?_
 simp only[VR]
 exact⟨_,cB _ _ _,rfl⟩
/-! reading -/
theorem vB {β:bS}{L:Loc}{w:World}{vs:List AV}(hb:BR β L w (.cells vs)){i:Nat}{v:AV}(hi:vs[i]? =some v): ∃u,w.cell? ⟨L.blk,L.base+i,none⟩=some u/\VR β v u:=by
 obtain⟨cur,e,h1,h2,h3⟩:=hb
 obtain⟨u,h4,h5⟩:=h3 i v hi
 exact⟨u,by simp[World.cell?,h1,h4],h5⟩
theorem add_lit (b off n:Nat):(⟨b,off,none⟩:Addr).add n=⟨b,off+n,none⟩:=by unfold Addr.add;split<;>simp_all
theorem kB {β:bS}{L:Loc}{w:World}{vs:List AV}(hb:BR β L w (.cells vs)){off n:Nat}(hn:off+n<=vs.length):
    ∃cs:List Value,bh β ((vs.drop off).take n) cs/\ ∀j u,cs[j]? =some u->w.cell? ((⟨L.blk,L.base+off,none⟩:Addr).add j)=some u:=by
 obtain⟨cur,e,h1,h2,h3⟩:=hb
 have hc: ∀i,i<n-> ∃u,cur[L.base+(off+i)]? =some u/\ ∀v,vs[off+i]? =some v->VR β v u:=fun i hi=>by
  have e1:vs[off+i]? =some (vs[off+i]'om):=by simp
  obtain⟨u,a,b⟩:=h3 _ _ e1
  exact⟨u,a,fun v hv=>by rw[e1]at hv;cases hv;exact b⟩
 have hsz:0<n->L.base+(off+n)<=cur.size:=fun hp=>by
  obtain⟨u,a,_⟩:=hc (n-1) om
  have:=(Array.getElem?_eq_some_iff.1 a).1
  omega
 have hl:((cur.toList.drop (L.base+off)).take n).length=n:=by
  rcases Nat.eq_zero_or_pos n with z|z
  ·subst z;simp
  ·have:=hsz z;simp;omega
 have hget: ∀j,j<n->((cur.toList.drop (L.base+off)).take n)[j]? =cur[L.base+(off+j)]? :=fun j hj=>by
  rw[List.getElem?_take_of_lt hj,List.getElem?_drop,Array.getElem?_toList,Nat.add_assoc]
 refine⟨(cur.toList.drop (L.base+off)).take n,bh.of (by rw[hl];simp;omega) ?_,fun j u hj=>?_⟩
 ·intro i v u h4 h5
  have hi:i<n:=by
   have:=(List.getElem?_eq_some_iff.1 h5).1
   rwa [hl]at this
  rw[hget i hi]at h5
  rw[List.getElem?_take_of_lt hi,List.getElem?_drop]at h4
  obtain⟨u',a,b⟩:=hc i hi
  rw[a]at h5;cases h5
  exact b v h4
 ·have hi:j<n:=by
    have:=(List.getElem?_eq_some_iff.1 hj).1
    rwa [hl]at this
  rw[hget j hi]at hj
  rw[add_lit]
  simp only[World.cell?,h1,Option.isSome_none,Bool.false_eq_true,if_false]
  rw[Nat.add_assoc];exact hj
end
section
variable {P:Program}{ng:Nat}{o:Oper}{c:C}{sl:Tr AV}{h:H}
theorem pY {t:TypeId}(e:EF P t=some none)(w:World):(isAgg t).run P w= .ok false w:=by
 unfold EF at e
 split at e<;>try(cases e;done)
 rename_i d i h1 h2 hd hi
 simp only[isAgg,Sem.run_bind,run_underlying hd,Result.andThen_ok]
 cases d<;>first|rfl|exact absurd rfl (h1 _)|exact absurd rfl (h2 _ _)
theorem pZ {t:TypeId}{n:Nat}(e:EF P t=some (some n))(w:World):(isAgg t).run P w= .ok true w/\(sizeOf t).run P w= .ok n w:=by
 unfold EF at e
 split at e
 ·rename_i fs i h1 h2
  cases e
  exact⟨by simp[isAgg,run_underlying h1],by simp[sizeOf,run_typeInfo w h2]⟩
 ·rename_i a b i h1 h2
  cases e
  exact⟨by simp[isAgg,run_underlying h1],by simp[sizeOf,run_typeInfo w h2]⟩
 ·cases e
 ·cases e
theorem Ae {β:bS}{w:World}{id off:Nat}{u:Value}{vs:List AV}(hr:HR c.floor β (view c h) w)(hv:VR β (.ptr id off) u)(hg:cr c h id=some (.cells vs)):
    ∃L,β id=some L/\u= .pointer (some ⟨L.blk,L.base+off,none⟩)/\BR β L w (.cells vs):=by
 simp only[VR]at hv
 obtain⟨L,h1,h2⟩:=hv
 obtain⟨L',h3,_,h4⟩:=hr.at_ id _ (cG hg)
 rw[h1]at h3;cases h3
 exact⟨L,h1,h2,h4⟩
theorem HY {t:TypeId}{y:Operand}{x:XV}{id off:Nat}{vs:List AV}{v:AV}(ho:o.op= .load t y)(hx:cV y=some x)(ht:EF P t=some none)(hv:bG sl x= .ptr id off)
    (hg:cr c h id=some (.cells vs)) (hn:vs[off]? =some v) (hw:WF h):oF dr P ng o c sl h v h:=by
 refine aV hw fun β a w hr hop=>?_
 have h1:=hop y (by simp[ho,Op.operands]) x hx
 rw[hv]at h1
 obtain⟨L,hL,hu,hb⟩:=Ae hr h1 hg
 obtain⟨u,hc,hvr⟩:=vB hb hn
 refine⟨u,?_,hvr⟩
 simp[execOp,ho,Instr.loadAt,Instr.sureAddr,hu,loadVar,pY ht,hc]
theorem HZ {t:TypeId}{y:Operand}{x:XV}{id off n:Nat}{vs:List AV}(ho:o.op= .load t y)(hx:cV y=some x)(ht:EF P t=some (some n))(hv:bG sl x= .ptr id off)
    (hg:cr c h id=some (.cells vs)) (hn:off+n<=vs.length) (hw:WF h):oF dr P ng o c sl h (.agg ((vs.drop off).take n)) h:=by
 refine aV hw fun β a w hr hop=>?_
 have h1:=hop y (by simp[ho,Op.operands]) x hx
 rw[hv]at h1
 obtain⟨L,hL,hu,hb⟩:=Ae hr h1 hg
 obtain⟨cs,hvr,hc⟩:=kB hb hn
 have hl:cs.length=n:=by rw[<-hvr.length];simp;omega
 have hld:=run_loadCells_list (P:=P) w _ cs hc
 rw[hl]at hld
 refine⟨.agg cs.toArray,?_,?_⟩
 ·simp[execOp,ho,Instr.loadAt,Instr.sureAddr,hu,loadVar,(pZ ht w).1,(pZ ht w).2,hld]
 ·simp only[VR];exact⟨_,rfl,by simpa using hvr⟩
/-! writing -/
theorem iS (b:Nat)(e:TypeId)(fr:Nat×Nat): ∀(vs:List Value) (o:Nat) (w:World) (cur:Array Value),w.heap[b]? =some (.cells cur e fr)->o+vs.length<=cur.size->
    ∃cur',(w.setCells b o vs).heap[b]? =some (.cells cur' e fr)/\cur'.size=cur.size/\(∀i,i<o\/o+vs.length<=i->cur'[i]? =cur[i]?)/\ ∀j,j<vs.length->cur'[o+j]? =vs[j]?
 |[],o,w,cur,h,_=>⟨cur,h,rfl,fun _ _=>rfl,fun j hj=>by simp at hj⟩
 |v::vs,o,w,cur,h,hl=>by
  have hl':o+1+vs.length<=cur.size:=by simp at hl;omega
  have h1:(w.setCell ⟨b,o,none⟩ v).heap[b]? =some (.cells (cur.setIfInBounds o v) e fr):=by
   simp[World.setCell,Array.getElem?_modify,h]
  obtain⟨cur',a1,a2,a3,a4⟩:=iS b e fr vs (o+1) (w.setCell ⟨b,o,none⟩ v) (cur.setIfInBounds o v) h1 (by simpa using hl')
  refine⟨cur',a1,by simpa using a2,fun i hi=>?_,fun j hj=>?_⟩
  ·rw[a3 i (by simp at hi;omega)]
   rw[Array.getElem?_setIfInBounds_ne (by simp at hi;omega)]
  ·cases j with
   |zero=>
    have:=a3 o om
    rw[Nat.add_zero,this]
    simp[Array.getElem?_setIfInBounds];omega
   |succ j=>
    have:=a4 j (by simpa using hj)
    rw[show o+(j+1)=o+1+j by omega,this];simp
theorem iT (b k:Nat)(hk:k≠b): ∀(vs:List Value) (o:Nat) (w:World),(w.setCells b o vs).heap[k]? =w.heap[k]?
 |[],o,w=>rfl
 |v::vs,o,w=>by
  have:=iT b k hk vs (o+1) (w.setCell ⟨b,o,none⟩ v)
  refine Eq.trans this ?_
  simp[World.setCell,Array.getElem?_modify,Ne.symm hk]
theorem jo (b:Nat): ∀(vs:List Value) (o:Nat) (w:World),(w.setCells b o vs).heap.size=w.heap.size/\(w.setCells b o vs).os=w.os/\((w.setCells b o vs).tape=w.tape/\w.drawn<=(w.setCells b o vs).drawn)/\(w.setCells b o vs).output=w.output
 |[],o,w=>⟨rfl,rfl,⟨rfl,Nat.le_refl _⟩,rfl⟩
 |v::vs,o,w=>by
  obtain⟨h1,h2,h3,h4⟩:=jo b vs (o+1) (w.setCell ⟨b,o,none⟩ v)
  exact⟨Eq.trans h1 (by simp[World.setCell]),h2,h3,h4⟩
theorem Qy {β:bS}{v:AV}{u:Value}(h:VR β v u)(ho:one v=true):u.oneCell'=true:=by
 cases v<;>simp only[one,Bool.false_eq_true]at ho<;>simp only[VR]at h<;>first
  |(subst h;rfl)
  |(obtain⟨_,rfl,_⟩:=h;rfl)
  |(obtain⟨_,_,rfl⟩:=h;rfl)
  |(obtain⟨_,_,rfl,_⟩:=h;rfl)
  |(obtain⟨_,_,_,_,rfl,_⟩:=h;rfl)
theorem Af {β:bS}: ∀{vs:List AV} {cs:List Value},bh β vs cs->cy vs=true-> ∀u∈cs,u.oneCell'=true
 |[],cs,h,_,u,hu=>by simp only[bh]at h;subst h;cases hu
 |v::vs,cs,h,ho,u,hu=>by
  simp only[bh]at h
  obtain⟨c',cs',rfl,h1,h2⟩:=h
  have hh:one v=true/\cy vs=true:=by
   unfold cy at ho
   cases hv:one v with
   |true=>rw[hv]at ho;exact⟨rfl,ho⟩
   |false=>rw[hv]at ho;cases ho
  rcases List.mem_cons.1 hu with rfl|hu
  ·exact Qy h1 hh.1
  ·exact Af h2 hh.2 u hu
theorem H0 {β:bS}{L:Loc}{w:World}{vs us:List AV}{cs:List Value}{off:Nat}(hb:BR β L w (.cells vs))(hu:bh β us cs)(hn:off+us.length<=vs.length):
    BR β L (w.setCells L.blk (L.base+off) cs) (.cells (vs.take off++(us++vs.drop (off+us.length))))/\L.base+off+cs.length<=L.size\/us=[]:=by
 by_cases hz:us=[]
 ·exact Or.inr hz
 left
 obtain⟨cur,e,h1,h2,h3⟩:=hb
 have hlen:=hu.length
 have hpos:0<us.length:=List.length_pos_iff.2 hz
 have hsz:L.base+off+cs.length<=cur.size:=by
  have e1:vs[off+us.length-1]? =some (vs[off+us.length-1]'om):=by simp
  obtain⟨u,a,_⟩:=h3 _ _ e1
  have:=(Array.getElem?_eq_some_iff.1 a).1
  omega
 obtain⟨cur',a1,a2,a3,a4⟩:=iS L.blk e.1 e.2 cs (L.base+off) w cur h1 hsz
 have hfit:=h2.fit
 refine⟨⟨cur',e,a1,⟨by rw[a2];exact h2.le,by simp;omega,h2.nf⟩,fun i v hi=>?_⟩,om⟩
 by_cases x:i<off
 ·rw[List.getElem?_append_left (by simp;omega),List.getElem?_take_of_lt x]at hi
  obtain⟨u,b1,b2⟩:=h3 i v hi
  exact⟨u,by rw[a3 _ (by omega)];exact b1,b2⟩
 ·have e0:(vs.take off).length=off:=by simp;omega
  rw[List.getElem?_append_right (by omega),e0]at hi
  by_cases y:i-off<us.length
  ·rw[List.getElem?_append_left y]at hi
   obtain⟨u,b1,b2⟩:=hu.get hi
   refine⟨u,?_,b2⟩
   rw[show L.base+i=L.base+off+(i-off)by omega,a4 _ (by omega)];exact b1
  ·rw[List.getElem?_append_right (by omega),List.getElem?_drop]at hi
   obtain⟨u,b1,b2⟩:=h3 _ v hi
   refine⟨u,?_,b2⟩
   rw[a3 _ (by omega),<-b1];congr 1;omega
theorem iU {t:TypeId}{n:Nat}(e:tw P t=some n)(w:World):(sizeOf t).run P w= .ok n w:=by
 unfold tw at e
 cases hi:P.info? t with
 |none=>rw[hi]at e;cases e
 |some i=>rw[hi]at e;cases e;simp[sizeOf,run_typeInfo w hi]
theorem H4 {t:TypeId}{y z:Operand}{x xz:XV}{id off n:Nat}{vs:List AV}(ho:o.op= .store t y z)(hx:cV y=some x)(hxz:cV z=some xz)(ht:tw P t=some n)(hv:bG sl x= .ptr id off)
    (hg:cr c h id=some (.cells vs)) (hl:(bG sl xz).cells.length=n) (h1:cy (bG sl xz).cells=true) (hn:off+n<=vs.length) (hf:c.floor<=id) (hw:WF h):
    oF dr P ng o c sl h (.bn []) ⟨Tr.set depth h.t id (.cells (vs.take off++((bG sl xz).cells++vs.drop (off+(bG sl xz).cells.length)))),h.n⟩:=by
 obtain⟨g1,g2⟩:=bN hg
 have hid:id<id+1:=Nat.lt_succ_self _
 refine⟨eJ hw g1 hf g2,fun β a w hgb hr hop hfr K Q hK=>?_⟩
 have k1:=hop y (by simp[ho,Op.operands]) x hx
 have k2:=hop z (by simp[ho,Op.operands]) xz hxz
 rw[hv]at k1
 obtain⟨L,hL,hu,hb⟩:=Ae hr k1 hg
 have hcs:=k2.cells (fun q=>by rw[q]at h1;cases h1)
 have hlen:=hcs.length
 have hblk:L.blk<w.heap.size:=by
  obtain⟨L',h3,h4,_⟩:=hr.at_ id _ (cG hg)
  rw[hL]at h3;cases h3;exact h4
 have hrun:(execOp a.eval o).run P w= .ok .skip (w.setCells L.blk (L.base+off) (a.eval z).cells.toList):=by
  obtain⟨cur,e,b1,b2,b3⟩:=hb
  have hst:=run_storeCells_cells (P:=P) L.blk (L.base+off) (a.eval z).cells.toList 0 w (fun j hj=>by
      have e1:vs[off+j]? =some (vs[off+j]'om):=by simp
      obtain⟨u,d1,_⟩:=b3 _ _ e1
      simp[World.cell?,b1,Nat.add_assoc,d1]) (fun j hj=>by unfold World.frozen?;simp only[b1];exact b2.nf _ om (by have:=b2.fit;omega)) (Af hcs h1)
  simp only[Nat.add_zero]at hst
  have hsz:(a.eval z).cells.size=n:=by rw[<-hl,hlen];simp
  simp[execOp,ho,Instr.storeAt,Instr.sureAddr,hu,storeVar,iU ht,hsz,hst]
 unfold Oper.wp
 rw[hrun]
 obtain⟨r1,r2,r3,r4⟩:=jo L.blk (a.eval z).cells.toList (L.base+off) w
 refine hK β undef _ (gw hr (cG hg) hL hf (fun B hB=>iT L.blk B hB _ _ _) r1 r2 ⟨r3.1,fun _=>r3.2⟩ r4 ?_ (fun j d e=>fM hid e)) (by simp[VR,bh,undef])
 rcases H0 hb hcs (by rw[hl];exact hn)with h5|h5
 ·exact h5.1
 ·have e2:(a.eval z).cells.toList=[]:=by rw[<-List.length_eq_zero_iff,<-hlen,h5];rfl
  rw[h5,e2]
  simpa[World.setCells]using hb
end
section
variable {P:Program}{ng:Nat}{o:Oper}{c:C}{sl:Tr AV}{h:H}
theorem Ag {y:Operand}{x:XV}{id off:Nat}(ho:o.op= .nilCheck y)(hx:cV y=some x)(hv:bG sl x= .ptr id off)(hw:WF h):oF dr P ng o c sl h (.ptr id off) h:=by
 refine aV hw fun β a w hr hop=>?_
 have h1:=hop y (by simp[ho,Op.operands]) x hx
 rw[hv]at h1
 have h2:=h1
 simp only[VR]at h2
 obtain⟨L,hL,hu⟩:=h2
 exact⟨a.eval y,by simp[execOp,ho,hu],h1⟩
theorem CB {y:Operand}{x:XV}{f:Nat}{cs:List AV}(ho:o.op= .nilCheck y)(hx:cV y=some x)(hv:bG sl x= .fn f cs)(hw:WF h):oF dr P ng o c sl h (.fn f cs) h:=by
 refine aV hw fun β a w hr hop=>?_
 have h1:=hop y (by simp[ho,Op.operands]) x hx
 rw[hv]at h1
 have h2:=h1
 simp only[VR]at h2
 obtain⟨ds,hu,hd⟩:=h2
 exact⟨a.eval y,by simp[execOp,ho,hu],h1⟩
theorem H8 {s:TypeId}{y:Operand}{x:XV}{id off k:Nat}{fs:Array Field}{f:Field}(ho:o.op= .fieldAddr s y k)(hx:cV y=some x)(hs:P.underlying s=some (.struct fs))(hf:fs[k]? =some f){m:Nat}(hm:tw P f.type=some (m+1))(hv:bG sl x= .ptr id off)(hw:WF h):
    oF dr P ng o c sl h (.ptr id (off+f.offset)) h:=by
 refine aV hw fun β a w hr hop=>?_
 have h1:=hop y (by simp[ho,Op.operands]) x hx
 rw[hv]at h1
 simp only[VR]at h1
 obtain⟨L,hL,hu⟩:=h1
 refine⟨.pointer (some ⟨L.blk,L.base+(off+f.offset),none⟩),?_,by simp only[VR];exact⟨L,hL,rfl⟩⟩
 simp[execOp,ho,Instr.fieldAt,Instr.sureAddr,hu,run_underlying hs,hf,fieldPlace,iU hm,add_lit,Nat.add_assoc]
theorem KD {y:Operand}{x:XV}{i:Nat}{vs:List AV}{v:AV}(ho:o.op= .extract y i)(hx:cV y=some x)(hv:bG sl x= .bn vs)(hn:vs[i]? =some v)(hw:WF h):oF dr P ng o c sl h v h:=by
 refine aV hw fun β a w hr hop=>?_
 have h1:=hop y (by simp[ho,Op.operands]) x hx
 rw[hv]at h1
 simp only[VR]at h1
 obtain⟨cs,hu,hcs⟩:=h1
 obtain⟨u,k1,k2⟩:=hcs.get hn
 refine⟨u,?_,k2⟩
 have k3:cs[i]? =some u:=by simpa using k1
 simp[execOp,ho,Instr.extract,hu,k3]
theorem mz {k:IntKind}{n:Int}{K:dE}{r:Tr AV×H}(e:ED k n h K=some r):k.wrap n=n/\K (.int k n) h=some r:=by
 unfold ED at e
 cases hb:zY k n with
 |true=>rw[hb]at e;simp only[cond,fg]at e;exact⟨CC hb,e⟩
 |false=>rw[hb]at e;cases e
theorem rF {k:IntKind}{n:Int}{K:dE}{r:Tr AV×H}(e:EE k n h K=some r):K (.int k (k.wrap n)) h=some r:=by
 unfold EE at e
 cases hb:zY k n with
 |true=>rw[hb]at e;simp only[cond,fg]at e;rw[CC hb];exact e
 |false=>rw[hb]at e;exact e
theorem KE {m:Nat}(hm:m<=18446744073709551615):IntKind.wrap .u64 (Int.negSucc m)=Int.ofNat (Nat.sub 18446744073709551615 m):=by
 show(if(false&&decide (Int.negSucc m % (2^64:Int)>=2^63))=true then Int.negSucc m % (2^64:Int)-2^64 else Int.negSucc m % (2^64:Int))=Int.ofNat (18446744073709551615-m)
 rw[Bool.false_and,if_neg (by decide)]
 have h2:((2:Int)^64)=((18446744073709551616:Nat):Int):=by decide
 rw[h2]
 have e1:Int.negSucc m=((18446744073709551615-m:Nat):Int)+((18446744073709551616:Nat):Int)*(-1):=by
  rw[Int.negSucc_eq]
  omega
 rw[e1,Int.add_mul_emod_self_left]
 rw[Int.ofNat_eq_natCast]
 have h3:((18446744073709551615-m:Nat):Int) % ((18446744073709551616:Nat):Int)=((18446744073709551615-m:Nat):Int):=Int.emod_eq_of_lt om om
 exact h3
theorem yi {k:IntKind}{n:Int}{K:dE}{r:Tr AV×H}(e:Ns k n h K=some r):K (.int k (k.wrap n)) h=some r:=by
 unfold Ns at e
 split at e
 ·rename_i m
  cases hb:Nat.ble m 18446744073709551615 with
  |false=>rw[hb]at e;cases e
  |true=>
   rw[hb]at e
   simp only[cond,aZ]at e
   have hm:=Nat.le_of_ble_eq_true hb
   rw[KE hm];exact e
 ·obtain⟨h1,h2⟩:=mz e
  rw[h1];exact h2
theorem eW {b:Bool}{K:dE}{r:Tr AV×H}(e:eH b h K=some r):K (.bool b) h=some r:=by
 unfold eH at e;rw[bR]at e;exact e
theorem KF {op:BinOp}{t t':TypeId}{y z:Operand}{xy xz:XV}{k:IntKind}{a b:Int}{v:AV}(ho:o.op= .binOp op t y z t')(hy:cV y=some xy)(hz:cV z=some xz)(h1:bG sl xy= .int k a)(h2:bG sl xz= .int k b)
    (hg:op≠ .eql/\op≠ .neq) (hw:WF h) (hrun: ∀w:World,∃u,(binOp op t (.int k a) (.int k b)).run P w= .ok u w/\ ∀β,VR β v u):oF dr P ng o c sl h v h:=by
 refine aV hw fun β A w hr hop=>?_
 have k1:=hop y (by simp[ho,Op.operands]) xy hy
 have k2:=hop z (by simp[ho,Op.operands]) xz hz
 rw[h1]at k1
 rw[h2]at k2
 simp only[VR]at k1 k2
 obtain⟨u,hu,hv⟩:=hrun w
 refine⟨u,?_,hv β⟩
 have he:(eqGuard op t y z (.int k a) (.int k b)).run P w= .ok () w:=by
  unfold eqGuard
  cases op<;>first|rfl|(exact absurd rfl hg.1)|(exact absurd rfl hg.2)
 simp[execOp,ho,k1,k2,he,hu]
theorem KG {s:TypeId}{y:Operand}{x:XV}{k:Nat}{fs:Array Field}{f:Field}{vs:List AV}{v:AV}(ho:o.op= .field s y k)(hx:cV y=some x)(hs:P.underlying s=some (.struct fs))(hf:fs[k]? =some f)(ht:EF P f.type=some none)
    (hv:bG sl x= .agg vs) (hn:vs[f.offset]? =some v) (hw:WF h):oF dr P ng o c sl h v h:=by
 refine aV hw fun β a w hr hop=>?_
 have h1:=hop y (by simp[ho,Op.operands]) x hx
 rw[hv]at h1
 simp only[VR]at h1
 obtain⟨cs,hu,hcs⟩:=h1
 obtain⟨u,k1,k2⟩:=hcs.get hn
 have k3:cs[f.offset]? =some u:=by simpa using k1
 exact⟨u,by simp[execOp,ho,Instr.field,run_underlying hs,hf,hu,asAgg,part,pY ht,k3],k2⟩
theorem NB {t:TypeId}{y:Operand}{x:XV}{b:Bool}(ho:o.op= .unOp .not t y)(hx:cV y=some x)(hv:bG sl x= .bool b)(hw:WF h):oF dr P ng o c sl h (.bool (!b)) h:=by
 refine aV hw fun β a w hr hop=>?_
 have h1:=hop y (by simp[ho,Op.operands]) x hx
 rw[hv]at h1
 simp only[VR]at h1
 exact⟨.bool (!b),by simp[execOp,ho,Op.unary,h1],by simp[VR]⟩
end
section
variable {P:Program}{ng:Nat}{o:Oper}{c:C}{sl:Tr AV}{h:H}
theorem H9 {t e:TypeId}{y z:Operand}{xy xz:XV}{id off len es esz i:Nat}{cap:Option Nat}{k:IntKind}(ho:o.op= .indexAddr t y z)(hy:cV y=some xy)(hz:cV z=some xz)(ht:P.underlying t=some (.slice e))(hs:tw P e=some esz)
    (h1:bG sl xy= .sl id off len es cap) (h2:bG sl xz= .int k (.ofNat i)) (hi:i<len) (hw:WF h):oF dr P ng o c sl h (.ptr id (off+i*esz)) h:=by
 refine aV hw fun β a w hr hop=>?_
 have k1:=hop y (by simp[ho,Op.operands]) xy hy
 have k2:=hop z (by simp[ho,Op.operands]) xz hz
 rw[h1]at k1
 rw[h2]at k2
 simp only[VR]at k1 k2
 obtain⟨L,o',cp,hL,hu,hle,hsz,hoo,hcap⟩:=k1
 have ho':o'=L.base+off:=by
  rcases hoo with e|⟨e,_⟩
  ·exact e
  ·omega
 subst ho'
 have hi':((i:Nat):Int)<((len:Nat):Int):=by omega
 refine⟨.pointer (some ⟨L.blk,L.base+(off+i*esz),none⟩),?_,by simp only[VR];exact⟨L,hL,rfl⟩⟩
 simp[execOp,ho,Instr.indexAt,k2,hu,asIntOf,run_underlying ht,iU hs,hi',hi,add_lit,Nat.add_assoc]
theorem KH {t:TypeId}{y z:Operand}{xy xz:XV}{s:List Nat}{i b:Nat}{k:IntKind}(ho:o.op= .index t y z)(hy:cV y=some xy)(hz:cV z=some xz)(ht:P.underlying t=some .string)
    (h1:bG sl xy= .str s) (h2:bG sl xz= .int k (.ofNat i)) (hi:s[i]? =some b) (hw:WF h):oF dr P ng o c sl h (.int .u8 (.ofNat b)) h:=by
 refine aV hw fun β a w hr hop=>?_
 have k1:=hop y (by simp[ho,Op.operands]) xy hy
 have k2:=hop z (by simp[ho,Op.operands]) xz hz
 rw[h1]at k1
 rw[h2]at k2
 simp only[VR]at k1 k2
 obtain⟨bs,hu,hbs⟩:=k1
 subst hbs
 rw[List.getElem?_map]at hi
 obtain⟨c0,hc0,rfl⟩:=Option.map_eq_some_iff.1 hi
 have hc1:bs[i]? =some c0:=by
  have:bs.data[i]? =some c0:=by simpa using hc0
  obtain⟨hlt,he⟩:=Array.getElem?_eq_some_iff.1 this
  exact(getElem?_pos bs i hlt).trans (congrArg some he)
 refine⟨.int .u8 c0.toNat,?_,by simp[VR]⟩
 simp[execOp,ho,Instr.index,k2,hu,asIntOf,run_underlying ht,hc1]
theorem Ic {β:bS}{id off len esz l u cp:Nat}{cap:Option Nat}{L:Loc}{oo:Nat}(hL:β id=some L)(hle:len<=cp)(hsz:oo+cp*esz<=L.size)(hoo:oo=L.base+off\/(len=0/\cp=0))(hcap: ∀c,cap=some c->cp=c)
    (hlu:l<=u) (hun:u<=len):VR β (.sl id (off+l*esz) (u-l) esz (cap.map (· -l))) (.slice (if cp=l then some ⟨L.blk,oo,none⟩else(some (⟨L.blk,oo,none⟩:Addr)).map (·.add (l*esz))) (u-l) (cp-l)):=by
 simp only[VR]
 have hc: ∀d,cap.map (· -l)=some d->cp-l=d:=fun d hd=>by
  cases cap with
  |none=>cases hd
  |some c=>cases hd;rw[hcap c rfl]
 by_cases e:cp=l
 ·rw[if_pos e]
  refine⟨L,oo,cp-l,hL,rfl,om,?_,Or.inr ⟨om,om⟩,hc⟩
  have:cp-l=0:=by omega
  rw[this,Nat.zero_mul];omega
 ·rw[if_neg e]
  refine⟨L,oo+l*esz,cp-l,hL,by simp[add_lit],om,?_,Or.inl ?_,hc⟩
  ·have:oo+l*esz+(cp-l)*esz=oo+cp*esz:=by rw[Nat.add_assoc,<-Nat.add_mul];congr 2;omega
   omega
  ·rcases hoo with h1|⟨h1,h2⟩
   ·omega
   ·omega
theorem rG {β:bS}{a:Act}{d n:Nat}{y:Option Operand}{x:Option XV}(hx:rD y=some x)(hop: ∀z,y=some z-> ∀q,cV z=some q->VR β (bG sl q) (a.eval z))(hn:cQ sl d x=some n):
    (y=none/\n=d)\/ ∃z k,y=some z/\a.eval z= .int k (n:Int):=by
 cases y with
 |none=>simp[rD]at hx;subst hx;simp[cQ]at hn;exact Or.inl ⟨rfl,hn.symm⟩
 |some z=>
  simp only[rD,Option.map_eq_some_iff]at hx
  obtain⟨q,hq,rfl⟩:=hx
  have h1:=hop z rfl q hq
  simp only[cQ]at hn
  cases hv:bG sl q with
  |int k m=>
   rw[hv]at hn h1
   cases m with
   |ofNat m=>simp[asNat]at hn;subst hn;simp only[VR]at h1;exact Or.inr ⟨z,k,rfl,h1⟩
   |negSucc m=>simp[asNat]at hn
  |_=>rw[hv]at hn;simp[asNat]at hn
theorem Ie {t e:TypeId}{y:Operand}{lo hi:Option Operand}{xy:XV}{xl xh:Option XV}{id off len esz l u:Nat}{cap:Option Nat}(ho:o.op= .slice t y lo hi none)(hy:cV y=some xy)(hl:rD lo=some xl)(hh:rD hi=some xh)
    (ht:P.underlying t=some (.slice e)) (hs:tw P e=some esz) (h1:bG sl xy= .sl id off len esz cap) (h2:cQ sl 0 xl=some l) (h3:cQ sl len xh=some u) (hlu:l<=u) (hun:u<=len) (hw:WF h):
    oF dr P ng o c sl h (.sl id (off+l*esz) (u-l) esz (cap.map (· -l))) h:=by
 refine aV hw fun β a w hr hop=>?_
 have k1:=hop y (by simp[ho,Op.operands]) xy hy
 rw[h1]at k1
 simp only[VR]at k1
 obtain⟨L,oo,cp,hL,hu,hle,hsz,hoo,hcap⟩:=k1
 have b1:=rG (β:=β) (a:=a) hl (fun z hz q hq=>hop z (by subst hz;simp[ho,Op.operands]) q hq) h2
 have b2:=rG (β:=β) (a:=a) hh (fun z hz q hq=>hop z (by subst hz;simp[ho,Op.operands]) q hq) h3
 refine⟨_,?_,Ic hL hle hsz hoo hcap hlu hun⟩
 have hlz:((l:Nat):Int)<=((u:Nat):Int):=by omega
 have huz:((u:Nat):Int)<=((cp:Nat):Int):=by omega
 have hucp:u<=cp:=by omega
 have hnu: ¬cp<u:=by omega
 have hnl: ¬u<l:=by omega
 rcases b1 with⟨rfl,rfl⟩|⟨z1,q1,rfl,e1⟩<;>rcases b2 with⟨rfl,rfl⟩|⟨z2,q2,rfl,e2⟩<;>
  simp[execOp,ho,Instr.sliceAt,Instr.slice,Instr.sliceBounds,Instr.sliceBound,asIntOf,run_underlying ht,hu,iU hs, *]
end
section
variable {P:Program}{ng:Nat}{o:Oper}{c:C}{sl:Tr AV}{h:H}
theorem KI {f:Nat}{ys:Array Operand}{xs:List XV}(ho:o.op= .makeFunc (.func f) #[] ys)(hx:ys.toList.mapM cV=some xs)(hw:WF h):oF dr P ng o c sl h (.fn f (xs.map (bG sl))) h:=by
 refine aV hw fun β a w hr hop=>?_
 refine⟨.func (.func f) #[] (ys.map a.eval),by simp[execOp,ho,Instr.makeFunc],?_⟩
 simp only[VR]
 refine⟨_,rfl,?_⟩
 have key: ∀(l:List Operand) (xs:List XV),l.mapM cV=some xs->(∀y∈l,y∈o.op.operands.toList)->bh β (xs.map (bG sl)) (l.map a.eval):=by
  intro l
  induction l with
  |nil=>intro xs hxs _;simp at hxs;subst hxs;simp[bh]
  |cons y l ih=>
   intro xs hxs hm
   simp only[List.mapM_cons,Option.bind_eq_bind,Option.bind_eq_some_iff,Option.pure_def,Option.some.injEq]at hxs
   obtain⟨x,h1,xs',h2,rfl⟩:=hxs
   simp only[List.map_cons,bh]
   exact⟨_,_,rfl,hop y (hm y (by simp)) x h1,ih xs' h2 fun z hz=>hm z (by simp[hz])⟩
 have:=key ys.toList xs hx (fun y hy=>by simp[ho,Op.operands];simpa using hy)
 simpa using this
def isLen (o:Oper)(y:Operand)(t:TypeId):Prop:=o.op= .call {callee:= .builtin .len,args:= #[y],argTypes:= #[t]}
theorem mA {y:Operand}{t:TypeId}(ho:isLen o y t)(a:Act)(w:World){u:Value}(hr:(Builtin.len_ #[t] o.type #[a.eval y]).run P w= .ok u w):(execOp a.eval o).run P w= .ok (.value u) w:=by
 unfold isLen at ho
 simp[execOp,ho,resolve,invoke,builtin,hr]
theorem EJ {y:Operand}{x:XV}{t e:TypeId}{id off len es:Nat}{cap:Option Nat}(ho:isLen o y t)(hx:cV y=some x)(ht:P.underlying t=some (.slice e))(hv:bG sl x= .sl id off len es cap)(hw:WF h):
    oF dr P ng o c sl h (.int .i64 (.ofNat len)) h:=by
 refine aV hw fun β a w hr hop=>?_
 have h1:=hop y (by unfold isLen at ho;simp[ho,Op.operands,Call.operands]) x hx
 rw[hv]at h1
 simp only[VR]at h1
 obtain⟨L,oo,cp,hL,hu,_⟩:=h1
 exact⟨.int .i64 len,mA ho a w (by simp[Builtin.len_,hu,run_underlying ht,goInt]),by simp[VR]⟩
theorem Ah {y:Operand}{x:XV}{t e:TypeId}(ho:isLen o y t)(hx:cV y=some x)(ht:P.underlying t=some (.slice e))(hv:bG sl x= .aE)(hw:WF h):oF dr P ng o c sl h (.int .i64 (.ofNat 0)) h:=by
 refine aV hw fun β a w hr hop=>?_
 have h1:=hop y (by unfold isLen at ho;simp[ho,Op.operands,Call.operands]) x hx
 rw[hv]at h1
 simp only[VR]at h1
 exact⟨.int .i64 (0:Nat),mA ho a w (by simp[Builtin.len_,h1,run_underlying ht,goInt]),by simp[VR]⟩
theorem CD {y:Operand}{x:XV}{t e:TypeId}{oa:Option Addr}{len cp:Nat}(ho:isLen o y t)(hx:cV y=some x)(ht:P.underlying t=some (.slice e))(hv:bG sl x= .raw oa len cp)(hw:WF h):oF dr P ng o c sl h (.int .i64 (.ofNat len)) h:=by
 refine aV hw fun β a w hr hop=>?_
 have h1:=hop y (by unfold isLen at ho;simp[ho,Op.operands,Call.operands]) x hx
 rw[hv]at h1
 simp only[VR]at h1
 have hu:=h1
 exact⟨.int .i64 len,mA ho a w (by simp[Builtin.len_,hu,run_underlying ht,goInt]),by simp[VR]⟩
theorem CE {y:Operand}{x:XV}{t:TypeId}{s:List Nat}(ho:isLen o y t)(hx:cV y=some x)(ht:P.underlying t=some .string)(hv:bG sl x= .str s)(hw:WF h):oF dr P ng o c sl h (.int .i64 (.ofNat s.length)) h:=by
 refine aV hw fun β a w hr hop=>?_
 have h1:=hop y (by unfold isLen at ho;simp[ho,Op.operands,Call.operands]) x hx
 rw[hv]at h1
 simp only[VR]at h1
 obtain⟨b,hu,hb⟩:=h1
 have hl:s.length=b.size:=by rw[<-hb];simp
 exact⟨.int .i64 b.size,mA ho a w (by simp[Builtin.len_,hu,run_underlying ht,goInt]),by simp[VR,hl]⟩
end
end Go.Proofs.YtemehfgkfidgjaaGreatDoor.Ev
