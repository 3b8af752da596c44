/- CoverStates, part 34 -/
import Derived.Test.YtemehfgkfidgjaaGreatDoorNdH
set_option linter.all false
namespace Go.Proofs.YtemehfgkfidgjaaGreatDoor.Ev
open Go
variable [Gb]
def PV.fo:PV->Bool
 | .own _ _ _ _=>true
 | .agg vs=>vs.all fun p=>p.flat||(match p with| .own _ _ _ _=>true|_=>false)
 |p=>p.flat
theorem R.fo {h h':H}{F F':Nat->Prop}{p:PV}{a:AV}(r:R h F p a)(q:p.fo=true):R h' F' p a:=by
 have own: ∀{p:PV} {a:AV},R h F p a->(p.flat||(match p with| .own _ _ _ _=>true|_=>false))=true->R h' F' p a:=fun {p a} r q=>by
  rcases Bool.or_eq_true _ _▸q with w|w
  ·exact r.flat w
  ·cases p<;>first|(simp at w;done)|skip
   cases r with
   |own _ _ _ _ cap hb=>exact .own _ _ _ _ _ hb
   |hY=>exact .hY _ _
 have owns: ∀{ps:List PV} {azs:List AV},Rs h F ps azs->(ps.all fun p=>p.flat||(match p with| .own _ _ _ _=>true|_=>false))=true->Rs h' F' ps azs:=fun {ps azs} r=>by
  induction ps generalizing azs with
  |nil=>intro _;cases r;exact .nil
  |cons p ps ih=>
   intro q
   rw[List.all_cons,Bool.and_eq_true]at q
   cases r with
   |cons _ _ _ _ r1 r2=>exact .cons _ _ _ _ (own r1 q.1) (ih r2 q.2)
 cases p<;>first
  |(cases r with
   |own _ _ _ _ cap hb=>exact .own _ _ _ _ _ hb
   |hY=>exact .hY _ _)
  |(cases r with|agg _ azs w=>exact .agg _ _ (owns w q))
  |exact r.flat q
section
variable {P:Program}{X:cj}{M:Mf}{G:aK}{S:aJ}{d nt:Nat}{K:PV->aJ->Prop}
theorem VK {i al fm p:Nat}{wr fz b:Bool}{S S0:aJ}{f:XV}{args:List XV}{g:Option (Nat×Bool)}{ops:List SR}{Q:aK->aJ->Prop}{k T:Nat}{caps vs ws:List PV}(w:sc P X M k ws [] fun v S1=> ∃aT m n e,S1=[(T,aT,.arr e m n)]/\v.fo=true/\(∀i,i<m->PV.nL (n i)=true)/\PD P X M nt ops (i+1) (al|||1<<<i) fm wr fz S0 ((d,v)::G) ((T,aT,.arr e m n)::S) Q)
    (hg:cH G g=some true:=by exact rfl) (hf:bx G f=some (.fn k caps):=by exact rfl) (ha:tA G args=some vs:=by exact rfl) (hws:vs++caps=ws:=by exact rfl) (hp:al|||p=p:=by decide) (hw:wr=false\/fm|||p=p:=by first|exact Or.inl rfl|exact Or.inr (by decide)) (hd:Nat.blt d nt=true:=by exact rfl) (hnt:nt<=1000000:=by assumption):PD P X M nt (⟨some d,.call f args,g,p,true,b,none⟩::ops) i al fm wr fz S0 G S Q:=⟨fun c n0 h F env rs bs fs di r=>by
 obtain⟨a,e1,q1⟩:=r.ev hf
 obtain⟨azs,e2,q2⟩:=r.LU ha
 cases q1 with
 |fn _ _ cs q1=>
 subst hws
 have hle:=di.le
 have hfl: ∀fl,fl<=h.n->WO P X M ⟨fl,(h.n,gQ)::cI p (bw n0 c.cd) rs⟩ (.call f args) env h (fun v h'=> ∃q F' aT e,Ext h F [] h' F' [(T,aT,e)]/\(∀id,F' id->F id)/\R h' F' q v/\(∀id,aT=some id->e≠ .dead->h.n<=id/\id<h'.n/\ ¬F' id/\ ∃ab,h'.get id=some ab/\RB h' F' e ab)/\PD P X M nt ops (i+1) (al|||1<<<i) fm wr fz S0 ((d,q)::G) ((T,aT,e)::S) Q):=fun fl hfl=>by
  refine Aw e1 e2 ((w _ h F _ (St.nil (Cx.mem hfl) di.st.gl fun id q=>⟨(di.st.fr id q).1,di.all hp (di.st.fr id q).2 (di.st.fr id q).1⟩) (q2.app q1)).mono fun v h' ⟨q,S1,F1,a1,a2,a3,aT,m,n,e,z,f1,f2,a4⟩=>?_)
  subst z
  refine⟨q,F,aT,.arr e m n,⟨a1.le,fun _ q=>q,fun id hid _=>a1.same id hid bQ,fun _ q=>Or.inl q,a1.rV⟩,fun id x=>x,a3.fo f1,fun id z hd=>?_,a4⟩
  subst z
  have hl:aC [(T,some id,PB.arr e m n)] T=some (some id,.arr e m n):=by rw[aH,if_pos rfl]
  obtain⟨g1,_,_,g4,ab,g5,g6⟩:=a2.own T id _ hl hd
  refine⟨?_,g1,fun z=>g4 (a1.sub id z),ab,g5,by cases g6 with|arr _ _ _ azs w1 w2 w3=>exact .arr _ _ _ _ w1 w2 fun i hi=>(w3 i hi).flat (f2 i hi)⟩
  rcases a1.rV id ⟨T,_,hl,hd⟩with y|y
  ·exact y
  ·exact(bQ y).elim
 have next: ∀v h',(∃q F' aT e,Ext h F [] h' F' [(T,aT,e)]/\(∀id,F' id->F id)/\R h' F' q v/\(∀id,aT=some id->e≠ .dead->h.n<=id/\id<h'.n/\ ¬F' id/\ ∃ab,h'.get id=some ab/\RB h' F' e ab)/\PD P X M nt ops (i+1) (al|||1<<<i) fm wr fz S0 ((d,q)::G) ((T,aT,e)::S) Q)->iQ p h.t h'.t fs=true/\ ∀bs',(bs'=bs\/bs'=(i,h.t,h'.t)::bs)->WD P X M c nt (bw n0 c.cd) ops (i+1) (eF i h.n h'.n rs) bs' fs ((d,v)::env) h' (fun env' h'=>Leaves c h F S env' h' Q):=fun v h' ⟨q,F2,aT,e,a1,b2,b3,nw,a4⟩=>by
  have same: ∀id,id<h.n->h'.get id=h.get id:=fun id hid=>a1.same id hid bQ
  refine⟨kc fun f x=>?_,fun bs' hbs=>?_⟩
  ·rcases hw with y|y
   ·obtain⟨g1,us,g2⟩:=di.Hx y f x
    exact Or.inr ⟨us,g2,(same _ g1).trans g2⟩
   ·rcases di.Fb f x with z|⟨z,us,g2⟩
    ·exact Or.inl (testBit_or y z)
    ·exact Or.inr ⟨us,g2,(same _ (di.st.fr _ z).1).trans g2⟩
  ·have x2:Ext h F [] h' F2 []:=⟨a1.le,a1.sub,a1.same,fun id x=>Or.inl (b2 id x),fun _ x=>(bQ x).elim⟩
   obtain⟨s2,x3⟩:=di.st.frame x2 (di.st.cx.mono a1.le) (fun id x=>⟨Nat.lt_of_lt_of_le (di.st.fr id (b2 id x)).1 a1.le,(di.st.fr id (b2 id x)).2⟩)
   have one: ∀q x,aC ((T,aT,e)::S) q=some x->(q=T/\x=(aT,e))\/(q≠T/\aC S q=some x):=fun q x e=>by
    rw[aH]at e
    by_cases hq:T=q
    ·rw[if_pos hq]at e;cases e;exact Or.inl ⟨hq.symm,rfl⟩
    ·rw[if_neg hq]at e;exact Or.inr ⟨fun w=>hq w.symm,e⟩
   have s4:St c h' F2 ((T,aT,e)::S):=⟨s2.cx,s2.gl,s2.fr,fun q id d e hd=>by
    rcases one q _ e with⟨_,y⟩|⟨_,y⟩
    ·cases y
     obtain⟨g1,g2,g3,g4⟩:=nw id rfl hd
     exact⟨g2,Nat.le_trans di.st.cx.low g1,di.st.cx.cd id g1,g3,g4⟩
    ·exact s2.own q id d y hd,fun r1 r2 id d1 d2 e1 e2 h1 h2=>by
    rcases one r1 _ e1 with⟨w1,y1⟩|⟨_,y1⟩<;>rcases one r2 _ e2 with⟨w2,y2⟩|⟨_,y2⟩
    ·rw[w1,w2]
    ·cases y1
     have z1:=(nw id rfl h1).1
     have z2:=(di.st.own r2 id d2 y2 h2).1
     omega
    ·cases y2
     have z1:=(nw id rfl h2).1
     have z2:=(di.st.own r1 id d1 y1 h1).1
     omega
    ·exact di.st.inj r1 r2 id d1 d2 y1 y2 h1 h2⟩
   have x4:Ext h F S h' F2 ((T,aT,e)::S):=⟨x3.le,x3.sub,x3.same,x3.rU,fun id ⟨q,d,e,hd⟩=>by
    rcases one q _ e with⟨_,y⟩|⟨_,y⟩
    ·cases y;exact Or.inl (nw id rfl hd).1
    ·exact Or.inr ⟨q,d,y,hd⟩⟩
   have hle':=a1.le
   refine WD.mono (a4.run c n0 h' F2 _ _ _ fs ⟨s4,by omega,qm hle' di.Oh,fun r q=>?_,fun b q=>?_,fun hw b q id hid=>?_,fun f q=>(di.Fb f q).imp id fun⟨z,vs,e⟩=>⟨a1.sub _ z,vs,(same _ (di.st.fr _ z).1).trans e⟩,fun hw f q=>?_,fun x id y=>di.fr x id (b2 id y),di.old⟩ ((r.mono fun id q=>⟨a1.sub id q,same id (di.st.fr id q).1⟩).put b3)) fun _ _ l=>l.after x4
   ·rcases fP _ q with q|q
    ·exact di.lo r q
    ·subst q;exact hle
   ·rcases hbs with rfl|rfl
    ·rw[Nat.testBit_or,di.Gx b q];rfl
    ·rcases List.mem_cons.1 q with rfl|q
     ·rw[Nat.testBit_or];simp[Nat.testBit_shiftLeft]
     ·rw[Nat.testBit_or,di.Gx b q];rfl
   ·have e3:=same id (by omega)
    have old: ∀b∈bs,Tr.get b.2.1 id=h'.get id/\Tr.get b.2.2 id=h'.get id:=fun b q=>by
     obtain⟨e1,e2⟩:=di.Oi hw b q id hid
     rw[e3];exact⟨e1,e2⟩
    rcases hbs with rfl|rfl
    ·exact old b q
    ·rcases List.mem_cons.1 q with rfl|q
     ·exact⟨e3.symm,rfl⟩
     ·exact old b q
   ·obtain⟨e1,us,e2⟩:=di.Hx hw f q
    exact⟨by omega,us,(same _ e1).trans e2⟩
 cases b with
 |true=>exact Ax hnt (cY r hg) hd ((hfl c.floor di.st.cx.low).mono fun v h' x=>⟨(next v h' x).1,(next v h' x).2 _ (Or.inr rfl)⟩)
 |false=>exact Fc hnt (cY r hg) hd ((hfl h.n (Nat.le_refl _)).mono fun v h' x=>(next v h' x).2 _ (Or.inl rfl))⟩
end
end Go.Proofs.YtemehfgkfidgjaaGreatDoor.Ev
