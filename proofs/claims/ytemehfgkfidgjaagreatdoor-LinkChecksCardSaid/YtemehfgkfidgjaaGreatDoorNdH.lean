/- CoverStates, part 32 -/
import Derived.Test.YtemehfgkfidgjaaGreatDoorNdG
set_option linter.all false
namespace Go.Proofs.YtemehfgkfidgjaaGreatDoor.Ev
open Go
variable [Gb]
section
variable {P:Program}{X:cj}{M:Mf}{G:aK}{S:aJ}{d nt:Nat}{K:PV->aJ->Prop}
def Rb (S:aJ)(id t:Nat)(f:KT t->Option PV):Prop:= ∀c h F,St c h F S->seen c.cd id=true/\id<h.n/\ ∃l ck,h.get id=some (.map (lj (mF t) l) ck)/\(∀k,eY k l=none↔f k=none)/\ ∀k i v,eY k l=some (i,v)->R h F ((f k).getD .eG) v
theorem U8 {q id t:Nat}{f:KT t->Option PV}(hS:aC S q=some (some id,.map t f)):Rb S id t f:=fun c h F s=>by
 obtain⟨_,g2,g3,ab,g4,g5⟩:=s.at_ hS (fun q=>by cases q)
 cases g5 with
 |map _ _ l ck w0 w1 w2=>exact⟨g2,g3,l,ck,g4,w1,w2⟩
theorem Tv {q id ck:Nat}{l:List (Int×PV×Nat)}(hS:aC S q=some (some id,.dA l ck)):Rb S id 1 (dn l):=fun c h F s=>by
 obtain⟨_,g2,g3,ab,g4,g5⟩:=s.at_ hS (fun q=>by cases q)
 cases g5 with
 |dA _ la _ w0 w1 w2=>
  obtain⟨i1,i2⟩:=vZ w1 w2
  exact⟨g2,g3,la,ck,g4,i1,i2⟩
theorem C9 {i al fm p t:Nat}{wr fz m b ok:Bool}{S0:aJ}{z:AV}{zp:PV}{x key:XV}{q0 id:Nat}{k:KT t}{f:KT t->Option PV}{q:SQ}{g:Option (Nat×Bool)}{ops:List SR}{Q:aK->aJ->Prop}(hm:Rb S id t f)(hqt:q=Sc t)(ho:Nat.beq (al|||p) p=true)(hnt:nt<=1000000)(hg:cH G g=some true)(hd:Nat.blt d nt=true)(hx:bx G x=some (.gC q0 id))(hkey: ∀h F env,RE h F G env->dP env key=some (mF t k))(hz:dO z=some zp)
    (h1: ∀v,f k=some v->PD P X M nt ops (i+1) al (fm|||1<<<i) wr fz S0 ((d,bY ok v true)::G) S Q) (h0:f k=none->PD P X M nt ops (i+1) al (fm|||1<<<i) wr fz S0 ((d,bY ok zp false)::G) S Q):PD P X M nt (⟨some d,.lookup q z x key ok,g,p,m,b,some x⟩::ops) i al fm wr fz S0 G S Q:=⟨fun c n0 h F env rs bs fs di r=>by
 subst hqt
 obtain⟨a,e1,q1⟩:=r.ev hx
 have e2:=hkey h F env r
 cases q1
 obtain⟨hvis,hlt,l,ck,g2,w1,w2⟩:=hm c h F di.st
 have hp:al|||p=p:=Nat.eq_of_beq_eq_true ho
 have hun:jZ p id bs=true:=mI fun b y=>Or.inl (testBit_or hp (di.Gx b y))
 have e:eF i h.n h.n rs=rs:=by unfold eF;simp
 have go: ∀v a,R h F v a->PD P X M nt ops (i+1) al (fm|||1<<<i) wr fz S0 ((d,v)::G) S Q->WD P X M c nt (bw n0 c.cd) ops (i+1) (eF i h.n h.n rs) bs ((i,id)::fs) ((d,a)::env) h (fun env' h'=>Leaves c h F S env' h' Q):=fun v a y hk=>by
  rw[e]
  refine hk.run c n0 h F _ rs bs _ ⟨di.st,di.le,di.Oh,di.lo,di.Gx,di.Oi,fun f y=>?_,fun hw f y=>?_,di.fr,di.old⟩ (r.put y)
  ·rcases List.mem_cons.1 y with rfl|y
   ·refine Or.inl ?_
    rw[Nat.testBit_or];simp[Nat.testBit_shiftLeft]
   ·refine(di.Fb f y).imp (fun z=>?_) (fun z=>z)
    rw[Nat.testBit_or,z];rfl
  ·rcases List.mem_cons.1 y with rfl|y
   ·exact⟨hlt,Oj _ _,g2⟩
   ·exact di.Hx hw f y
 refine Av hnt (cY r hg) hd e1 rfl (di.all hp hvis hlt) hun ?_
 refine tV (ky:=mF t) (iw t) e1 e2 (fq hlt (mJ (Nat.le_refl _) (Nat.lt_succ_self _))) g2 (fun i v hf=>?_) fun hf=>?_
 ·have:=w2 k i v hf
  cases hfk:f k with
  |none=>rw[(w1 k).2 hfk]at hf;cases hf
  |some pv=>rw[hfk]at this;exact go _ _ (gK this ok true) (h1 pv hfk)
 ·exact go _ _ (gK (rW h F z zp hz) ok false) (h0 ((w1 k).1 hf))⟩
theorem HC {i al fm p:Nat}{wr fz m b ok:Bool}{S0:aJ}{z:AV}{zp:PV}{x key:XV}{q id ck:Nat}{k:Int}{l:List (Int×PV×Nat)}{g:Option (Nat×Bool)}{ops:List SR}{Q:aK->aJ->Prop}(hS:aC S q=some (some id,.dA l ck))(h1: ∀v,dn l k=some v->PD P X M nt ops (i+1) al (fm|||1<<<i) wr fz S0 ((d,bY ok v true)::G) S Q)(h0:dn l k=none->PD P X M nt ops (i+1) al (fm|||1<<<i) wr fz S0 ((d,bY ok zp false)::G) S Q)(ho:Nat.beq (al|||p) p=true:=by exact rfl)(hg:cH G g=some true:=by exact rfl)(hd:Nat.blt d nt=true:=by exact rfl)(hx:bx G x=some (.gC q id):=by exact rfl)(hkey:bx G key=some (.int .i64 k):=by exact rfl)(hz:dO z=some zp:=by exact rfl)(hnt:nt<=1000000:=by assumption):PD P X M nt (⟨some d,.lookup (.b .int) z x key ok,g,p,m,b,some x⟩::ops) i al fm wr fz S0 G S Q:=C9 (t:=1) (Tv hS) rfl ho hnt hg hd hx (E9 hkey) hz h1 h0
theorem HD {i al fm p:Nat}{wr fz m b ok:Bool}{S0:aJ}{z:AV}{zp:PV}{x key:XV}{q id:Nat}{k1 k2:Int}{f:Int×Int->Option PV}{g:Option (Nat×Bool)}{ops:List SR}{Q:aK->aJ->Prop}(hS:aC S q=some (some id,.map 2 f))(h1: ∀v,f (k1,k2)=some v->PD P X M nt ops (i+1) al (fm|||1<<<i) wr fz S0 ((d,bY ok v true)::G) S Q)(h0:f (k1,k2)=none->PD P X M nt ops (i+1) al (fm|||1<<<i) wr fz S0 ((d,bY ok zp false)::G) S Q)(ho:Nat.beq (al|||p) p=true:=by exact rfl)(hg:cH G g=some true:=by exact rfl)(hd:Nat.blt d nt=true:=by exact rfl)(hx:bx G x=some (.gC q id):=by exact rfl)(hkey:bx G key=some (.agg [.int .i64 k1,.int .i64 k2]):=by exact rfl)(hz:dO z=some zp:=by exact rfl)(hnt:nt<=1000000:=by assumption):PD P X M nt (⟨some d,.lookup (.st [.int,.int]) z x key ok,g,p,m,b,some x⟩::ops) i al fm wr fz S0 G S Q:=C9 (t:=2) (k:=(k1,k2)) (U8 hS) rfl ho hnt hg hd hx (L3 hkey) hz h1 h0
theorem Rs.flat {h h':H}{F F':Nat->Prop}: ∀{ps:List PV} {azs:List AV},Rs h F ps azs->PV.nL ps=true->Rs h' F' ps azs
 |_,_,.nil,_=> .nil
 |_,_,.cons p a ps azs r1 r2,q=>by
  simp only[PV.nL,Bool.and_eq_true]at q
  exact .cons _ _ _ _ (r1.flat q.1) (Rs.flat r2 q.2)
theorem HA (T:Nat){f:Nat}{args args':List PV}(hz:dH S args args')(w:sc P X M f args' [] fun v S1=> ∃aT m n e rows,S1=[(T,aT,.arr e n rows)]/\v= .own T aT m e/\(∀i,i<n->PV.nL (rows i)=true)/\K v ((T,aT,.arr e n rows)::S)):sc P X M f args S K:=fun c h F azs s r=>by
 have hr:=hz.lay s (fun _ _ e=>e) r
 have s0:St c h (l8 F S) []:=St.nil s.cx (s.gl.mono fun id q=>⟨Or.inl q,rfl⟩) fun id q=>by
  rcases q with q|⟨p,b,e,hb⟩
  ·exact s.fr id q
  ·obtain⟨g1,_,g3,_⟩:=s.own p id b e hb
   exact⟨g1,g3⟩
 refine(w c h _ azs s0 hr).mono fun v h' ⟨p,S1,F',a1,a2,a3,aT,m,n,e,rows,e1,e2,hfl,hk⟩=>?_
 subst e1
 subst e2
 have x:Ext h F [] h' F [(T,aT,.arr e n rows)]:=⟨a1.le,fun _ q=>q,fun id hid _=>a1.same id hid bQ,fun _ q=>Or.inl q,a1.rV⟩
 obtain⟨s1,x1⟩:=s.frame x a2.cx (fun id q=>⟨Nat.lt_of_lt_of_le (s.fr id q).1 a1.le,(s.fr id q).2⟩)
 have hnew: ∀id d,aC [(T,aT,PB.arr e n rows)] T=some (some id,d)->d≠ .dead->h.n<=id:=fun id d e hd=>by
  rcases a1.rV id ⟨T,d,e,hd⟩with y|y
  ·exact y
  ·exact(bQ y).elim
 have one: ∀q x,aC ((T,aT,PB.arr e n rows)::S) q=some x->(q=T/\aC [(T,aT,PB.arr e n rows)] T=some x)\/(q≠T/\aC S q=some x):=fun q x e=>by
  rw[aH]at e
  by_cases hq:T=q
  ·rw[if_pos hq]at e;refine Or.inl ⟨hq.symm,?_⟩;rw[aH,if_pos rfl];exact e
  ·rw[if_neg hq]at e;exact Or.inr ⟨fun w=>hq w.symm,e⟩
 refine⟨.own T aT m e,(T,aT,.arr e n rows)::S,F,⟨x1.le,x1.sub,x1.same,x1.rU,fun id ⟨q,d,e4,hd⟩=>?_⟩,⟨s1.cx,s1.gl,s1.fr,fun q id d e3 hd=>?_,fun q1 q2 id d1 d2 e1 e2 h1 h2=>?_⟩,?_,hk⟩
 ·rcases one q _ e4 with⟨rfl,y⟩|⟨_,y⟩
  ·exact Or.inl (hnew id d y hd)
  ·exact Or.inr ⟨q,d,y,hd⟩
 ·rcases one q _ e3 with⟨rfl,y⟩|⟨_,y⟩
  ·obtain⟨g1,g2,g3,g4,ab,g5,g6⟩:=a2.own _ id d y hd
   refine⟨g1,g2,g3,fun z=>g4 (a1.sub id (Or.inl z)),ab,g5,?_⟩
   rw[aH,if_pos rfl]at y
   cases y
   cases g6 with
   |arr _ _ _ azs w1 w2 w3=>exact .arr _ _ _ _ w1 w2 fun i hi=>(w3 i hi).flat (hfl i hi)
  ·exact s1.own q id d y hd
 ·rcases one q1 _ e1 with⟨w1,y1⟩|⟨_,y1⟩<;>rcases one q2 _ e2 with⟨w2,y2⟩|⟨_,y2⟩
  ·rw[w1,w2]
  ·have z1:=hnew id d1 y1 h1
   have z2:=(s.own q2 id d2 y2 h2).1
   omega
  ·have z1:=hnew id d2 y2 h2
   have z2:=(s.own q1 id d1 y1 h1).1
   omega
  ·exact s1.inj q1 q2 id d1 d2 y1 y2 h1 h2
 ·cases a3 with
  |own _ _ _ _ cap hb=>exact .own _ _ _ _ _ hb
  |hY=>exact .hY _ _
theorem P4 (p:Nat)(hk: ∀id,K (.gC p id) ((p,some id,.map 2 fun _=>none)::S)):PO P X M d .jG G S K:=⟨fun c h F env s r=>by
 obtain⟨s1,x1⟩:=s.new p (RB.map (h:=h) (F:=F) 2 (fun _=>none) [] 0 ⟨List.nodup_nil,List.nodup_nil,fun p hp=>by cases hp⟩ (fun k=>⟨fun _=>rfl,fun _=>rfl⟩) fun k i v e=>by cases e)
 exact rX .m r _ ⟨_,_,F,x1,s1,.gC _ _,hk h.n⟩⟩
end
end Go.Proofs.YtemehfgkfidgjaaGreatDoor.Ev
