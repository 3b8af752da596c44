/- CoverStates, part 16 -/
import Derived.Test.YtemehfgkfidgjaaGreatDoorPvE
set_option linter.all false
namespace Go.Proofs.YtemehfgkfidgjaaGreatDoor.Ev
open Go
variable [Gb]
def VZ (S:aJ):Prop:= ∀(p q id:Nat) (b d:PB),aC S p=some (some id,b)->aC S q=some (some id,d)->b≠ .dead->d≠ .dead->p=q
def RG (P:Program)(X:cj)(M:Mf)(f:Nat)(args:List PV)(S:aJ)(K:PV->Prop):Prop:= ∀c h F azs,Cx c h->ki h F->(∀id,F id->id<h.n/\seen c.cd id=true)->(∀p id b,aC S p=some (some id,b)->b≠ .dead->id<h.n/\seen c.cd id=true/\ ¬F id/\ ∃ab,h.get id=some ab/\RB h F b ab)->VZ S->Rs h F args azs->Gv P X M c f azs h (fun v h'=> ∃p F',Ext h F [] h' F' []/\(∀id,F' id->id<h'.n/\seen c.cd id=true)/\R h' F' p v/\K p)
section
variable {P:Program}{X:cj}{M:Mf}{nt d:Nat}{G:aK}{S:aJ}
theorem aR {f:Nat}{args:List PV}{K:PV->Prop}(w:PF P X M f args K):RG P X M f args S K:=fun c h F azs hc hg hf hs _ r=>
 (w c h F azs (St.nil hc hg hf) r).mono fun v h' ⟨p,S',F',a1,a2,a3,a4⟩=>⟨p,F',⟨a1.le,a1.sub,a1.same,a1.rU,fun id q=>(bQ q).elim⟩,a2.fr,a3,a4⟩
theorem dH.Vd {S:aJ}{c:C}{h:H}{F:Nat->Prop}(hc:Cx c h)(hg:ki h F)(hf: ∀id,F id->id<h.n/\seen c.cd id=true)(hs: ∀p id b,aC S p=some (some id,b)->b≠ .dead->id<h.n/\seen c.cd id=true/\ ¬F id/\ ∃ab,h.get id=some ab/\RB h F b ab)(hi: ∀(p q id:Nat) (b d:PB),aC S p=some (some id,b)->aC S q=some (some id,d)->b≠ .dead->d≠ .dead->p=q){ps qs:List PV}{azs:List AV}(z:dH S ps qs)(r:Rs h F ps azs):Rs h (l8 F S) qs azs:=
 z.lay (c:=⟨0,c.cd⟩) (S0:=S) ⟨⟨Nat.zero_le _,hc.cd⟩,hg,hf,fun p id b e hb=>by
  obtain⟨g1,g2,g3,g4⟩:=hs p id b e hb
  exact⟨g1,Nat.zero_le _,g2,g3,g4⟩,hi⟩ (fun _ _ e=>e) r
theorem RG.mono {f:Nat}{args:List PV}{K K':PV->Prop}(w:RG P X M f args S K)(hk: ∀p,K p->K' p):RG P X M f args S K':=fun c h F azs hc hg hf hs hi r=>(w c h F azs hc hg hf hs hi r).mono fun v h' ⟨p,F',a1,a2,a3,a4⟩=>⟨p,F',a1,a2,a3,hk _ a4⟩
theorem yE: ∀xs:List (AV×AV×Nat),Ci xs xs=true
 |[]=>rfl
 |x::xs=>by simp[Ci,r6,yE xs]
abbrev Se:={o:Option AB//sV o o=true}
def Ff (vs:List AV):Se:=⟨some (.cells vs),by simp only[sV,Kp,eZ]⟩
def Oj (es:List (AV×AV×Nat))(c:Nat):Se:=⟨some (.map es c),by simp[sV,Kp,yE]⟩
/-! the state within a region -/
structure DI (c:C)(n0:Nat)(al fm:Nat)(wr fz:Bool)(S0:aJ)(h:H)(F:Nat->Prop)(S:aJ)(rs:List (Nat×Nat×Nat))(bs:List (Nat×Tr AB×Tr AB))(fs:List (Nat×Nat)):Prop where
 st:St c h F S
 le:n0<=h.n
 Oh: ∀p,al|||p=p-> ∀id,n0<=id->id<h.n-> ∀base,seen (cI p base rs) id=true
 lo: ∀r∈rs,n0<=r.2.1
 Gx: ∀b∈bs,al.testBit b.1=true
 Oi:wr=false-> ∀b∈bs,∀id,id<n0->Tr.get b.2.1 id=h.get id/\Tr.get b.2.2 id=h.get id
 Fb: ∀f∈fs,fm.testBit f.1=true\/(F f.2/\ ∃vs:Se,h.get f.2=vs.1)
 Hx:wr=false-> ∀f∈fs,f.2<h.n/\ ∃vs:Se,h.get f.2=vs.1
 fr:fz=true-> ∀id,F id->id<n0
 old: ∀p id b,aC S0 p=some (some id,b)->b≠ .dead->id<n0
structure PD (P:Program)(X:cj)(M:Mf)(nt:Nat)(ops:List SR)(i al fm:Nat)(wr fz:Bool)(S0:aJ)(G:aK)(S:aJ)(Q:aK->aJ->Prop):Prop where
 run: ∀c n0 h F env rs bs fs,DI c n0 al fm wr fz S0 h F S rs bs fs->RE h F G env->WD P X M c nt (bw n0 c.cd) ops i rs bs fs env h (fun env' h'=>Leaves c h F S env' h' Q)
theorem testBit_or {a p i:Nat}(h:a|||p=p)(hi:a.testBit i=true):p.testBit i=true:=by
 rw[<-h,Nat.testBit_or,hi];rfl
theorem RH {a b p:Nat}(h:(a|||b)|||p=p):a|||p=p:=by
 apply Nat.eq_of_testBit_eq
 intro i
 have:=congrArg (fun x=>Nat.testBit x i) h
 simp only[Nat.testBit_or]at this⊢
 cases ha:a.testBit i<;>cases hp:p.testBit i<;>simp_all
theorem RI {a i p:Nat}(h:(a|||1<<<i)|||p=p):p.testBit i=true:=by
 refine testBit_or h ?_
 rw[Nat.testBit_or]
 simp[Nat.testBit_shiftLeft]
theorem WD.mono {c:C}{base:List (Nat×Nat)}{ops:List SR}{i:Nat}{rs:List (Nat×Nat×Nat)}{bs:List (Nat×Tr AB×Tr AB)}{fs:List (Nat×Nat)}{env:bo}{h:H}{Q Q':bo->H->Prop}(w:WD P X M c nt base ops i rs bs fs env h Q)(hq: ∀e h,Q e h->Q' e h):WD P X M c nt base ops i rs bs fs env h Q':= .mk fun sl hs=>by
 obtain⟨sl',h',env',h1,h2,h3⟩:=w.run sl hs
 exact⟨sl',h',env',h1,h2,hq _ _ h3⟩
theorem aX {ops:List SR}{Q:Ex->aK->aJ->Prop}(w:PD P X M nt ops 0 0 0 false true S G S (Q .normal)):PC P X M nt (.bI ops) G S Q:=⟨fun c h F env s r=>
 OC (w.run c h.n h F env [] [] [] ⟨s,Nat.le_refl _,fun p _ id h1 h2=>absurd h2 om,fun r q=>(by cases q),fun b q=>(by cases q),fun _ b q=>(by cases q),fun f q=>(by cases q),fun _ f q=>(by cases q),fun _ id q=>(s.fr id q).1,fun p id b e hb=>(s.own p id b e hb).1⟩ r)⟩
theorem RJ {i al fm:Nat}{wr fz:Bool}{S0:aJ}{Q:aK->aJ->Prop}(q:Q G S):PD P X M nt [] i al fm wr fz S0 G S Q:=⟨fun c n0 h F env rs bs fs di r=>RK ⟨G,S,F,Ext.refl _ _ _,di.st,r,q⟩⟩
theorem Ve {i al fm p:Nat}{wr fz b:Bool}{S0:aJ}{op:SO}{g:Option (Nat×Bool)}{ops:List SR}{Q:aK->aJ->Prop}(hnt:nt<=1000000)(hg:cH G g=some true)(hd:Nat.blt d nt=true)(w:kM P X M op G fun v=>PD P X M nt ops (i+1) al fm wr fz S0 ((d,v)::G) S Q):PD P X M nt (⟨some d,op,g,p,false,b,none⟩::ops) i al fm wr fz S0 G S Q:=⟨fun c n0 h F env rs bs fs di r=>
 GD hnt (cY r hg) hd (w.run _ h F env r _ fun v a q hk=>by
  have e:eF i h.n h.n rs=rs:=by unfold eF;simp
  rw[e]
  exact hk.run c n0 h F _ rs bs fs di (r.put q))⟩
theorem Jo {i al fm p:Nat}{wr fz m b:Bool}{S0:aJ}{op:SO}{g:Nat×Bool}{f:Option XV}{ops:List SR}{Q:aK->aJ->Prop}(hnt:nt<=1000000)(hg:cH G (some g)=some false)(hd:Nat.blt d nt=true)(w:PD P X M nt ops (i+1) al fm wr fz S0 ((d,.bn [])::G) S Q):PD P X M nt (⟨some d,op,some g,p,m,b,f⟩::ops) i al fm wr fz S0 G S Q:=⟨fun c n0 h F env rs bs fs di r=>
 RL hnt (cY r hg) hd (w.run c n0 h F _ rs bs fs di (r.put (.bn _ _ .nil)))⟩
theorem qm {al i n0 a b:Nat}{rs:List (Nat×Nat×Nat)}(hab:a<=b)(h: ∀p,al|||p=p-> ∀id,n0<=id->id<a-> ∀base,seen (cI p base rs) id=true): ∀p,(al|||1<<<i)|||p=p-> ∀id,n0<=id->id<b-> ∀base,seen (cI p base (eF i a b rs)) id=true:=fun p hp id h1 h2 base=>by
 have hb:=RI hp
 have ha:=RH hp
 unfold eF
 cases hq:Nat.beq a b with
 |true=>
  have:=Nat.eq_of_beq_eq_true hq
  exact h p ha id h1 om base
 |false=>
  have hne:a≠b:=fun e=>by subst e;simp at hq
  have hz:Nat.blt 0 b=true:=by simp[Nat.blt_eq];omega
  simp only[cond,cI,hb,hz,Bool.and_self]
  by_cases hx:a<=id
  ·exact mJ hx h2
  ·exact fq (by simp;omega) (h p ha id h1 om base)
theorem Vf {i al fm p:Nat}{wr fz b:Bool}{S0:aJ}{op:SO}{g:Option (Nat×Bool)}{ops:List SR}{Q:aK->aJ->Prop}(hnt:nt<=1000000)(hg:cH G g=some true)(hd:Nat.blt d nt=true)(w:IU P X M d op G fun f b=> ∀id,PD P X M nt ops (i+1) (al|||1<<<i) fm wr fz S0 ((d,f id)::G) ((d,some id,b)::S) Q):PD P X M nt (⟨some d,op,g,p,false,b,none⟩::ops) i al fm wr fz S0 G S Q:=⟨fun c n0 h F env rs bs fs di r=>
 GD hnt (cY r hg) hd (w.run _ h F env r _ fun f b ab a q1 q2 _ hk=>by
  obtain⟨s1,x1⟩:=di.st.new d q1
  have hn:(h.new ab).n=h.n+1:=wg h ab
  have keep: ∀id,id<h.n->(h.new ab).get id=h.get id:=fun id q=>gL (Nat.lt_succ_self _) _ q
  have hle:=di.le
  refine WD.mono ((hk h.n).run c n0 (h.new ab) F _ _ bs fs ⟨s1,om,?_,fun r q=>?_,fun b q=>?_,fun hw b q id hid=>?_,fun f q=>(di.Fb f q).imp id fun⟨z,vs,e⟩=>⟨z,vs,(keep _ (di.st.fr _ z).1).trans e⟩,fun hw f q=>?_,di.fr,di.old⟩ ((r.mono fun id q=>⟨q,keep id (di.st.fr id q).1⟩).put (q2 _))) fun _ _ l=>l.after x1
  ·rw[hn];exact qm om di.Oh
  ·rcases fP _ q with q|q
   ·exact di.lo r q
   ·subst q;exact hle
  ·rw[Nat.testBit_or,di.Gx b q];rfl
  ·obtain⟨e1,e2⟩:=di.Oi hw b q id hid
   rw[keep id (by omega)];exact⟨e1,e2⟩
  ·obtain⟨e1,vs,e2⟩:=di.Hx hw f q
   exact⟨om,vs,(keep _ e1).trans e2⟩)⟩
theorem mI {p A:Nat}: ∀{bs:List (Nat×Tr AB×Tr AB)},(∀b∈bs,p.testBit b.1=true\/ ∃vs:Se,Tr.get b.2.1 A=vs.1/\Tr.get b.2.2 A=vs.1)->jZ p A bs=true
 |[],_=>rfl
 |b::bs,h=>by
  have ih:=mI (p:=p) (A:=A) (bs:=bs) fun b q=>h b (by simp[q])
  rcases h b (by simp)with q|⟨vs,q1,q2⟩
  ·simp only[jZ,q,ih,Bool.true_or,Bool.and_self]
  ·have e:sV vs.1 vs.1=true:=vs.2
   simp only[jZ,q1,q2,e,ih,Bool.or_true,Bool.and_self]
theorem kc {p:Nat}{t t':Tr AB}: ∀{fs:List (Nat×Nat)},(∀f∈fs,p.testBit f.1=true\/ ∃vs:Se,Tr.get t f.2=vs.1/\Tr.get t' f.2=vs.1)->iQ p t t' fs=true
 |[],_=>rfl
 |f::fs,h=>by
  have ih:=kc (p:=p) (t:=t) (t':=t') (fs:=fs) fun b q=>h b (by simp[q])
  rcases h f (by simp)with q|⟨vs,q1,q2⟩
  ·simp only[iQ,q,ih,Bool.true_or,Bool.and_self]
  ·have e:sV vs.1 vs.1=true:=vs.2
   simp only[iQ,q1,q2,e,ih,Bool.or_true,Bool.and_self]
def OD (G:aK)(S0:aJ)(fz:Bool)(x:XV):Prop:=match bx G x with
 |some (.ptr q id _)=>match aC S0 q with
  |some (some id',.cells _)=>id'=id
  |_=>False
 |some (.gu q id _ _ _)=>match aC S0 q with
  |some (some id',.arr _ _ _)=>id'=id
  |_=>False
 |some (.fp _ _)=>fz=true
 |_=>False
theorem GF {c:C}{n0 al fm:Nat}{wr fz:Bool}{S0:aJ}{h:H}{F:Nat->Prop}{rs:List (Nat×Nat×Nat)}{bs:List (Nat×Tr AB×Tr AB)}{fs:List (Nat×Nat)}(di:DI c n0 al fm wr fz S0 h F S rs bs fs){env:bo}(r:RE h F G env){x:XV}(o:OD G S0 fz x){A off:Nat}(e:dP env x=some (.ptr A off)):A<n0:=by
 unfold OD at o
 split at o
 ·rename_i hx
  obtain⟨a,e1,q⟩:=r.ev hx
  rw[e1]at e;cases e;cases q
  split at o
  ·rename_i hS;subst o;exact di.old _ _ _ hS (fun q=>by cases q)
  ·exact o.elim
 ·rename_i hx
  obtain⟨a,e1,q⟩:=r.ev hx
  rw[e1]at e
  simp only[Option.some.injEq]at e
  subst e
  split at o
  ·rename_i hS
   cases q
   subst o;exact di.old _ _ _ hS (fun q=>by cases q)
  ·exact o.elim
 ·rename_i hx
  obtain⟨a,e1,q⟩:=r.ev hx
  rw[e1]at e
  simp only[Option.some.injEq]at e
  subst e
  cases q with
  |fp _ _ id base vs h1=>exact di.fr o _ h1
 ·exact o.elim
theorem DI.base {c:C}{n0 al fm:Nat}{wr fz:Bool}{S0:aJ}{h:H}{F:Nat->Prop}{rs:List (Nat×Nat×Nat)}{bs:List (Nat×Tr AB×Tr AB)}{fs:List (Nat×Nat)}(di:DI c n0 al fm wr fz S0 h F S rs bs fs){p id:Nat}(hs:seen c.cd id=true)(hid:id<n0):seen (cI p (bw n0 c.cd) rs) id=true:=Dh di.lo hid (qo hs hid)
theorem DI.all {c:C}{n0 al fm:Nat}{wr fz:Bool}{S0:aJ}{h:H}{F:Nat->Prop}{rs:List (Nat×Nat×Nat)}{bs:List (Nat×Tr AB×Tr AB)}{fs:List (Nat×Nat)}(di:DI c n0 al fm wr fz S0 h F S rs bs fs){p id:Nat}(hp:al|||p=p)(hs:seen c.cd id=true)(hid:id<h.n):seen ((h.n,gQ)::cI p (bw n0 c.cd) rs) id=true:=by
 refine fq hid ?_
 rcases Nat.lt_or_ge id n0 with q|q
 ·exact di.base hs q
 ·exact di.Oh p hp id q hid _
theorem OE {i al fm fm2 p:Nat}{wr fz m b:Bool}{S0:aJ}{op:SO}{x:XV}{g:Option (Nat×Bool)}{ops:List SR}{Q:aK->aJ->Prop}(hnt:nt<=1000000)(hg:cH G g=some true)(hd:Nat.blt d nt=true)(hx:SO.Uj op=some x)(ho:al|||p=p\/wr=false/\OD G S0 fz x)(hm:fm2=fm|||1<<<i\/fm2=fm/\ ∃row off,bx G x=some (.fp row off))(w:zx P X M op G S fun v=>PD P X M nt ops (i+1) al fm2 wr fz S0 ((d,v)::G) S Q):PD P X M nt (⟨some d,op,g,p,m,b,some x⟩::ops) i al fm wr fz S0 G S Q:=⟨fun c n0 h F env rs bs fs di r=>by
 obtain⟨x',A,off,vs,h1,h2,h3,h4,h5⟩:=w.run h F env r fun p id b e hb=>(di.st.own p id b e hb).2.2.2.2
 rw[hx]at h1;cases h1
 have hA:A<h.n/\seen c.cd A=true:=by
  rcases h4 with q|⟨p,b,e,hb⟩
  ·exact di.st.fr A q
  ·have:=di.st.own p A b e hb;exact⟨this.1,this.2.2.1⟩
 have hsee:seen ((h.n,gQ)::cI p (bw n0 c.cd) rs) A=true:=by
  rcases ho with q|⟨_,q⟩
  ·exact di.all q hA.2 hA.1
  ·exact fq hA.1 (di.base hA.2 (GF di r q h2))
 have hun:jZ p A bs=true:=mI fun b q=>by
  rcases ho with hp|⟨hw,hol⟩
  ·exact Or.inl (testBit_or hp (di.Gx b q))
  ·obtain⟨e1,e2⟩:=di.Oi hw b q A (GF di r hol h2)
   exact Or.inr ⟨Ff vs,e1.trans h3,e2.trans h3⟩
 refine Av hnt (cY r hg) hd h2 rfl hsee hun (h5 _ (fq hA.1 (mJ (Nat.le_refl _) (Nat.lt_succ_self _))) _ fun v a q hk=>?_)
 have e:eF i h.n h.n rs=rs:=by unfold eF;simp
 rw[e]
 refine hk.run c n0 h F _ rs bs _ ⟨di.st,di.le,di.Oh,di.lo,di.Gx,di.Oi,fun f q=>?_,fun hw f q=>?_,di.fr,di.old⟩ (r.put q)
 ·rcases hm with hm|⟨hm,row,o2,hx2⟩
  ·subst hm
   rcases List.mem_cons.1 q with rfl|q
   ·refine Or.inl ?_
    rw[Nat.testBit_or];simp[Nat.testBit_shiftLeft]
   ·refine(di.Fb f q).imp (fun z=>?_) id
    rw[Nat.testBit_or,z];rfl
  ·subst hm
   rcases List.mem_cons.1 q with rfl|q
   ·refine Or.inr ⟨?_,Ff vs,h3⟩
    obtain⟨a2,e2,q2⟩:=r.ev hx2
    rw[h2]at e2;cases e2
    cases q2 with
    |fp _ _ id base vs2 g1=>exact g1
   ·exact di.Fb f q
 ·rcases List.mem_cons.1 q with rfl|q
  ·exact⟨hA.1,Ff vs,h3⟩
  ·exact di.Hx hw f q⟩
theorem TG {i al fm p:Nat}{wr fz b:Bool}{S0:aJ}{f:XV}{args:List XV}{g:Option (Nat×Bool)}{ops:List SR}{Q:aK->aJ->Prop}{k:Nat}{caps vs ws:List PV}(hnt:nt<=1000000)(hg:cH G g=some true)(hd:Nat.blt d nt=true)(hp:al|||p=p)(hw:wr=false\/fm|||p=p)
    (hf:bx G f=some (.fn k caps)) (ha:tA G args=some vs) (hws:vs++caps=ws) (w:RG P X M k ws S fun v=>PD P X M nt ops (i+1) (al|||1<<<i) fm wr (fz&&v.flat) S0 ((d,v)::G) S Q):PD P X M nt (⟨some d,.call f args,g,p,true,b,none⟩::ops) i al fm wr fz S0 G S Q:=⟨fun c n0 h F env rs bs fs di r=>by
 obtain⟨a,e1,q1⟩:=r.ev hf
 obtain⟨azs,e2,q2⟩:=r.LU ha
 cases q1 with
 |fn _ _ cs q1=>
 subst hws
 have hle:=di.le
 have hfl: ∀fl,fl<=h.n->WO P X M ⟨fl,(h.n,gQ)::cI p (bw n0 c.cd) rs⟩ (.call f args) env h (fun v h'=> ∃q F',Ext h F [] h' F' []/\(∀id,F' id->F id\/h.n<=id/\id<h'.n)/\R h' F' q v/\PD P X M nt ops (i+1) (al|||1<<<i) fm wr (fz&&q.flat) S0 ((d,q)::G) S Q):=fun fl hfl=>by
  refine Aw e1 e2 ((w _ h F _ (Cx.mem hfl) di.st.gl (fun id q=>⟨(di.st.fr id q).1,di.all hp (di.st.fr id q).2 (di.st.fr id q).1⟩) (fun pl id b e hb=>?_) di.st.inj (q2.app q1)).mono fun v h' ⟨q,F',a1,a2,a3,a4⟩=>⟨q,F',a1,fun id x=>?_,a3,a4⟩)
  ·obtain⟨g1,g2,g3,g4,g5⟩:=di.st.own pl id b e hb
   exact⟨g1,di.all hp g3 g1,g4,g5⟩
  ·rcases a1.rU id x with y|y|y
   ·exact Or.inl y
   ·exact Or.inr ⟨y,(a2 id x).1⟩
   ·exact(bQ y).elim
 have next: ∀v h',(∃q F',Ext h F [] h' F' []/\(∀id,F' id->F id\/h.n<=id/\id<h'.n)/\R h' F' q v/\PD P X M nt ops (i+1) (al|||1<<<i) fm wr (fz&&q.flat) S0 ((d,q)::G) S Q)->iQ p h.t h'.t fs=true/\ ∀bs',(bs'=bs\/bs'=(i,h.t,h'.t)::bs)->WD P X M c nt (bw n0 c.cd) ops (i+1) (eF i h.n h'.n rs) bs' fs ((d,v)::env) h' (fun env' h'=>Leaves c h F S env' h' Q):=fun v h' ⟨q,F',a1,a2,a3,a4⟩=>by
  have same: ∀id,id<h.n->h'.get id=h.get id:=fun id hid=>a1.same id hid bQ
  refine⟨kc fun f x=>?_,fun bs' hbs=>?_⟩
  ·rcases hw with y|y
   ·obtain⟨g1,us,g2⟩:=di.Hx y f x
    exact Or.inr ⟨us,g2,(same _ g1).trans g2⟩
   ·rcases di.Fb f x with z|⟨z,us,g2⟩
    ·exact Or.inl (testBit_or y z)
    ·exact Or.inr ⟨us,g2,(same _ (di.st.fr _ z).1).trans g2⟩
  ·--the frozen blocks behind the call:none new,where the answer is flat
   obtain⟨F2,b1,b2,b3,b4⟩: ∃F2:Nat->Prop,(∀id,F id->F2 id)/\(∀id,F2 id->F id\/h.n<=id/\id<h'.n)/\R h' F2 q v/\((fz&&q.flat)=true-> ∀id,F2 id->id<n0):=by
    cases hq:q.flat with
    |true=>exact⟨F,fun _ x=>x,fun _ x=>Or.inl x,a3.flat hq,fun x=>di.fr (by simpa using x)⟩
    |false=>exact⟨F',a1.sub,a2,a3,fun x=>by simp at x⟩
   have x2:Ext h F [] h' F2 []:=⟨a1.le,b1,a1.same,fun id x=>by rcases b2 id x with y|y;exact Or.inl y;exact Or.inr (Or.inl y.1),fun _ x=>(bQ x).elim⟩
   obtain⟨s2,x3⟩:=di.st.frame x2 (di.st.cx.mono a1.le) (fun id x=>by
    rcases b2 id x with y|y
    ·exact⟨Nat.lt_of_lt_of_le (di.st.fr id y).1 a1.le,(di.st.fr id y).2⟩
    ·exact⟨y.2,di.st.cx.cd id y.1⟩)
   have hle':=a1.le
   refine WD.mono (a4.run c n0 h' F2 _ _ _ fs ⟨s2,om,qm hle' di.Oh,fun r q=>?_,fun b q=>?_,fun hw b q id hid=>?_,fun f q=>(di.Fb f q).imp id fun⟨z,vs,e⟩=>⟨b1 _ z,vs,(same _ (di.st.fr _ z).1).trans e⟩,fun hw f q=>?_,b4,di.old⟩ ((r.mono fun id q=>⟨b1 id q,same id (di.st.fr id q).1⟩).put b3)) fun _ _ l=>l.after x3
   ·rcases fP _ q with q|q
    ·exact di.lo r q
    ·subst q;exact hle
   ·rcases hbs with rfl|rfl
    ·rw[Nat.testBit_or,di.Gx b q];rfl
    ·rcases List.mem_cons.1 q with rfl|q
     ·rw[Nat.testBit_or];simp[Nat.testBit_shiftLeft]
     ·rw[Nat.testBit_or,di.Gx b q];rfl
   ·have e3:=same id om
    have old: ∀b∈bs,Tr.get b.2.1 id=h'.get id/\Tr.get b.2.2 id=h'.get id:=fun b q=>by
     obtain⟨e1,e2⟩:=di.Oi hw b q id hid
     rw[e3];exact⟨e1,e2⟩
    rcases hbs with rfl|rfl
    ·exact old b q
    ·rcases List.mem_cons.1 q with rfl|q
     ·exact⟨e3.symm,rfl⟩
     ·exact old b q
   ·obtain⟨e1,us,e2⟩:=di.Hx hw f q
    exact⟨om,us,(same _ e1).trans e2⟩
 cases b with
 |true=>exact Ax hnt (cY r hg) hd ((hfl c.floor di.st.cx.low).mono fun v h' x=>⟨(next v h' x).1,(next v h' x).2 _ (Or.inr rfl)⟩)
 |false=>exact Fc hnt (cY r hg) hd ((hfl h.n (Nat.le_refl _)).mono fun v h' x=>(next v h' x).2 _ (Or.inl rfl))⟩
def OG (d:Option Nat)(v:PV)(G:aK):aK:=match d with
 |some d=>(d,v)::G
 |none=>G
theorem Vg {i al fm p:Nat}{wr fz:Bool}{S0:aJ}{op:SO}{g:Option (Nat×Bool)}{ops:List SR}{Q:aK->aJ->Prop}{od:Option Nat}(hnt:nt<=1000000)(hg:cH G g=some true)(hd:nM nt od=true)(hp:al|||p=p)(hfp:fm|||p=p)
    (w:PO P X M (od.getD nt) op G S fun v S'=>PD P X M nt ops (i+1) (al|||1<<<i) fm true false S0 (OG od v G) S' Q):PD P X M nt (⟨od,op,g,p,true,true,none⟩::ops) i al fm wr fz S0 G S Q:=⟨fun c n0 h F env rs bs fs di r=>by
 have hle:=di.le
 have s2:St ⟨c.floor,(h.n,gQ)::cI p (bw n0 c.cd) rs⟩ h F S:=⟨Cx.mem di.st.cx.low,di.st.gl,fun id q=>⟨(di.st.fr id q).1,di.all hp (di.st.fr id q).2 (di.st.fr id q).1⟩,fun pl id b e hb=>by
  obtain⟨g1,g2,g3,g4,g5⟩:=di.st.own pl id b e hb
  exact⟨g1,g2,di.all hp g3 g1,g4,g5⟩,di.st.inj⟩
 have w2:=w.run _ h F env s2 r
 have next: ∀v h',(∃q S' F',Ext h F S h' F' S'/\St ⟨c.floor,(h.n,gQ)::cI p (bw n0 c.cd) rs⟩ h' F' S'/\R h' F' q v/\PD P X M nt ops (i+1) (al|||1<<<i) fm true false S0 (OG od q G) S' Q)->iQ p h.t h'.t fs=true/\WD P X M c nt (bw n0 c.cd) ops (i+1) (eF i h.n h'.n rs) ((i,h.t,h'.t)::bs) fs (xC od v env) h' (fun env' h'=>Leaves c h F S env' h' Q):=fun v h' ⟨q,S',F',a1,a2,a3,a4⟩=>by
  refine⟨kc fun f x=>?_,?_⟩
  ·rcases di.Fb f x with z|⟨z,us,g2⟩
   ·exact Or.inl (testBit_or hfp z)
   ·exact Or.inr ⟨us,g2,(di.st.keep a1 _ z).2.trans g2⟩
  have cd: ∀id,h.n<=id\/F id\/Live S id->seen c.cd id=true/\(h.n<=id\/Live S id->c.floor<=id):=fun id q=>by
   rcases q with q|q|⟨pl,b,e,hb⟩
   ·exact⟨di.st.cx.cd id q,fun _=>Nat.le_trans di.st.cx.low q⟩
   ·refine⟨(di.st.fr id q).2,fun z=>?_⟩
    rcases z with z|⟨pl,b,e,hb⟩
    ·exact Nat.le_trans di.st.cx.low z
    ·exact(di.st.own pl id b e hb).2.1
   ·have:=di.st.own pl id b e hb
    exact⟨this.2.2.1,fun _=>this.2.1⟩
  have s3:St c h' F' S':=⟨di.st.cx.mono a1.le,a2.gl,fun id x=>⟨(a2.fr id x).1,(cd id (by
   rcases a1.rU id x with y|y|y
   ·exact Or.inr (Or.inl y)
   ·exact Or.inl y
   ·exact Or.inr (Or.inr y))).1⟩,fun pl id b e hb=>by
    obtain⟨g1,g2,g3,g4,g5⟩:=a2.own pl id b e hb
    have hv:=cd id (by
     rcases a1.rV id ⟨pl,b,e,hb⟩with y|y
     ·exact Or.inl y
     ·exact Or.inr (Or.inr y))
    exact⟨g1,g2,hv.1,g4,g5⟩,a2.inj⟩
  have hre:RE h' F' (OG od q G) (xC od v env):=by
   have:=r.mono fun id x=>di.st.keep a1 id x
   cases od with
   |some d=>exact this.put a3
   |none=>exact this
  refine WD.mono (a4.run c n0 h' F' _ _ _ fs ⟨s3,Nat.le_trans hle a1.le,qm a1.le di.Oh,fun r q=>?_,fun b q=>?_,fun hw=>(by cases hw),fun f q=>(di.Fb f q).imp id fun⟨z,vs,e⟩=>⟨(di.st.keep a1 _ z).1,vs,(di.st.keep a1 _ z).2.trans e⟩,fun hw=>(by cases hw),fun hz=>(by cases hz),di.old⟩ hre) fun _ _ l=>l.after a1
  ·rcases fP _ q with q|q
   ·exact di.lo r q
   ·subst q;exact hle
  ·rcases List.mem_cons.1 q with rfl|q
   ·rw[Nat.testBit_or];simp[Nat.testBit_shiftLeft]
   ·rw[Nat.testBit_or,di.Gx b q];rfl
 cases od with
 |some d=>exact Ax hnt (cY r hg) hd (w2.mono next)
 |none=>exact OH hnt (cY r hg) (w2.mono next)⟩
end
section
variable {P:Program}{X:cj}{M:Mf}{nt d:Nat}{G:aK}{S:aJ}
structure fy (P:Program)(X:cj)(M:Mf)(op:SO)(G:aK)(S S0:aJ)(fz:Bool)(x:XV)(K:PV->Prop):Prop where
 old:OD G S0 fz x
 rd:zx P X M op G S K
def Pu (P:Program)(X:cj)(M:Mf)(nt:Nat)(ops:List SR)(i al fm:Nat)(wr fz:Bool)(S0:aJ)(G:aK)(S:aJ)(Q:aK->aJ->Prop):Option Prop:=match ops with
 |[]=>some (Q G S)
 |⟨some d,op,g,p,m,_,f⟩::ops=>bif Nat.blt d nt then match cH G g with
  |some false=>some (PD P X M nt ops (i+1) al fm wr fz S0 ((d,.bn [])::G) S Q)
  |some true=>match f with
   |some x=>match SO.cls op with
    |2=>bif Nat.beq (al|||p) p then match bx G x with
      |some (.fp _ _)=>some (zx P X M op G S fun v=>PD P X M nt ops (i+1) al fm wr fz S0 ((d,v)::G) S Q)
      |_=>some (zx P X M op G S fun v=>PD P X M nt ops (i+1) al (fm|||1<<<i) wr fz S0 ((d,v)::G) S Q)
     else match wr with
     |false=>match bx G x with
      |some (.fp _ _)=>some (fy P X M op G S S0 fz x fun v=>PD P X M nt ops (i+1) al fm false fz S0 ((d,v)::G) S Q)
      |_=>some (fy P X M op G S S0 fz x fun v=>PD P X M nt ops (i+1) al (fm|||1<<<i) false fz S0 ((d,v)::G) S Q)
     |true=>none
    |_=>none
   |none=>match m with
    |false=>match SO.cls op with
     |0=>some (kM P X M op G fun v=>PD P X M nt ops (i+1) al fm wr fz S0 ((d,v)::G) S Q)
     |1=>some (IU P X M d op G fun f b=> ∀id,PD P X M nt ops (i+1) (al|||1<<<i) fm wr fz S0 ((d,f id)::G) ((d,some id,b)::S) Q)
     |_=>none
    |true=>none
  |none=>none
  else none
 |_=>none
def RM:List SR->Prop
 |⟨_,op,_,_,_,_,some x⟩::_=>SO.Uj op=some x
 |_=>True
theorem pd {ops:List SR}{i al fm:Nat}{wr fz:Bool}{S0:aJ}{Q:aK->aJ->Prop}{J:Prop}(g:J)(e:Pu P X M nt ops i al fm wr fz S0 G S Q=some J:=by exact rfl)(ha:RM ops:=by first|exact True.intro|exact rfl)(hnt:nt<=1000000:=by assumption):PD P X M nt ops i al fm wr fz S0 G S Q:=by
 unfold Pu at e
 split at e
 ·cases e;exact RJ g
 ·rename_i d op g0 p m b f ops
  cases hd:Nat.blt d nt with
  |false=>rw[hd]at e;cases e
  |true=>
   rw[hd,cond_true]at e
   split at e
   ·rename_i q
    cases e
    cases g0 with
    |none=>cases q
    |some g0=>exact Jo hnt q hd g
   ·rename_i q
    split at e
    ·rename_i x
     split at e
     ·cases hb:Nat.beq (al|||p) p with
      |true=>
       rw[hb]at e
       simp only[cond]at e
       split at e
       ·rename_i hx;cases e;exact OE hnt q hd ha (Or.inl (Nat.eq_of_beq_eq_true hb)) (Or.inr ⟨rfl,_,_,hx⟩) g
       ·cases e;exact OE hnt q hd ha (Or.inl (Nat.eq_of_beq_eq_true hb)) (Or.inl rfl) g
      |false=>
       rw[hb]at e
       simp only[cond]at e
       split at e
       ·split at e
        ·rename_i hx;cases e;exact OE hnt q hd ha (Or.inr ⟨rfl,g.old⟩) (Or.inr ⟨rfl,_,_,hx⟩) g.rd
        ·cases e;exact OE hnt q hd ha (Or.inr ⟨rfl,g.old⟩) (Or.inl rfl) g.rd
       ·cases e
     ·cases e
    ·split at e
     ·split at e
      ·cases e;exact Ve hnt q hd g
      ·cases e;exact Vf hnt q hd g
      ·cases e
     ·cases e
   ·cases e
 ·cases e
theorem ix {i al fm p:Nat}{wr fz b:Bool}{S0:aJ}{f:XV}{args:List XV}{g:Option (Nat×Bool)}{ops:List SR}{Q:aK->aJ->Prop}{k:Nat}{caps vs ws:List PV}(w:RG P X M k ws S fun v=>PD P X M nt ops (i+1) (al|||1<<<i) fm wr (fz&&v.flat) S0 ((d,v)::G) S Q)
    (hg:cH G g=some true:=by exact rfl) (hf:bx G f=some (.fn k caps):=by exact rfl) (ha:tA G args=some vs:=by exact rfl) (hws:vs++caps=ws:=by exact rfl) (hp:al|||p=p:=by decide) (hw:wr=false\/fm|||p=p:=by first|exact Or.inl rfl|exact Or.inr dc) (hd:Nat.blt d nt=true:=by exact rfl) (hnt:nt<=1000000:=by assumption):PD P X M nt (⟨some d,.call f args,g,p,true,b,none⟩::ops) i al fm wr fz S0 G S Q:=TG hnt hg hd hp hw hf ha hws w
theorem AL {i al fm p:Nat}{wr fz:Bool}{S0:aJ}{op:SO}{g:Option (Nat×Bool)}{ops:List SR}{Q:aK->aJ->Prop}{od:Option Nat}(w:PO P X M (od.getD nt) op G S fun v S'=>PD P X M nt ops (i+1) (al|||1<<<i) fm true false S0 (OG od v G) S' Q)
    (hg:cH G g=some true:=by exact rfl) (hp:al|||p=p:=by decide) (hfp:fm|||p=p:=by decide) (hd:nM nt od=true:=by exact rfl) (hnt:nt<=1000000:=by assumption):PD P X M nt (⟨od,op,g,p,true,true,none⟩::ops) i al fm wr fz S0 G S Q:=Vg hnt hg hd hp hfp w
theorem Md {f:Nat}{args args':List PV}{K:PV->Prop}(hz:dH S args args')(w:PF P X M f args' fun r=>r.flat=true/\K r):RG P X M f args S K:=fun c h F azs hc hg hf hs hi r=>by
 have hr:=hz.Vd hc hg hf hs hi r
 have s1:St c h (l8 F S) []:=St.nil hc (hg.mono fun id q=>⟨Or.inl q,rfl⟩) fun id q=>by
  rcases q with q|⟨p,b,e,hb⟩
  ·exact hf id q
  ·obtain⟨g1,g2,_⟩:=hs p id b e hb
   exact⟨g1,g2⟩
 refine(w c h _ azs s1 hr).mono fun v h' ⟨p,S',F',a1,a2,a3,a4⟩=>?_
 exact⟨p,F,⟨a1.le,fun _ q=>q,fun id hid _=>a1.same id hid bQ,fun _ q=>Or.inl q,fun _ q=>(bQ q).elim⟩,fun id q=>⟨Nat.lt_of_lt_of_le (hf id q).1 a1.le,(hf id q).2⟩,a3.flat a4.1,a4.2⟩
/-! maps -/
variable {K:PV->aJ->Prop}
def bY (ok:Bool)(v:PV)(b:Bool):PV:=bif ok then .bn [v,.bool b]else v
theorem gK {h:H}{F:Nat->Prop}{v:PV}{a:AV}(q:R h F v a)(ok b:Bool):R h F (bY ok v b) (yF ok a b):=by
 cases ok with
 |true=>exact .bn _ _ (.cons _ _ _ _ q (.cons _ _ _ _ (.bool b) .nil))
 |false=>exact q
section
variable {κ:Type} [DecidableEq κ] {ky:κ->AV}
theorem GG {a:κ}: ∀{l:List (κ×AV×Nat)},eY a l=none-> ¬a∈l.map Prod.fst
 |[],_,h=>by cases h
 |p::l,e,h=>by
  rw[eY]at e
  by_cases q:a=p.1
  ·rw[if_pos q]at e;cases e
  ·rw[if_neg q]at e
   rcases List.mem_cons.1 h with w|w
   ·exact q w
   ·exact GG (by simpa using e) w
theorem I1 {a:κ}{x:AV×Nat}{l:List (κ×AV×Nat)}(e:eY a l=none)(h:(l.map Prod.fst).Nodup):((l++[(a,x)]).map Prod.fst).Nodup:=by
 rw[List.map_append]
 refine List.nodup_append.2 ⟨h,by simp,fun x hx y hy=>?_⟩
 have:y=a:=by simpa using hy
 rw[this]
 intro q
 exact GG e (q▸hx)
theorem Di {a:κ}{u:AV}: ∀{l:List (κ×AV×Nat)},(qp a u l).map Prod.fst=l.map Prod.fst
 |[]=>rfl
 |p::l=>by
  rw[qp]
  split
  ·rfl
  ·show p.1::_=p.1::_
   rw[Di]
theorem oE {a:κ}{u:AV}: ∀{l:List (κ×AV×Nat)},(qp a u l).map (fun p=>p.2.2)=l.map fun p=>p.2.2
 |[]=>rfl
 |p::l=>by
  rw[qp]
  split
  ·rfl
  ·show p.2.2::_=p.2.2::_
   rw[oE]
theorem RN {a:κ}{u:AV}{l:List (κ×AV×Nat)}{ck:Nat}(h:Nd l ck):Nd (qp a u l) ck:=by
 refine⟨by rw[Di];exact h.1,by rw[oE];exact h.2.1,fun p hp=>?_⟩
 have h1:p.2.2∈(qp a u l).map fun p=>p.2.2:=List.mem_map.2 ⟨p,hp,rfl⟩
 rw[oE]at h1
 obtain⟨q,hq,e⟩:=List.mem_map.1 h1
 rw[<-e];exact h.2.2 q hq
theorem LP {a:κ}{v:AV}{l:List (κ×AV×Nat)}{ck:Nat}(e:eY a l=none)(h:Nd l ck):Nd (l++[(a,v,ck)]) (ck+1):=by
 refine⟨I1 e h.1,?_,fun p hp=>?_⟩
 ·rw[List.map_append]
  refine List.nodup_append.2 ⟨h.2.1,by simp,fun x hx y hy=>?_⟩
  obtain⟨q,hq,rfl⟩:=List.mem_map.1 hx
  have h2:=h.2.2 q hq
  have:y=ck:=by simpa using hy
  omega
 ·rcases List.mem_append.1 hp with hp|hp
  ·have:=h.2.2 p hp;omega
  ·rw[List.mem_singleton.1 hp];exact Nat.lt_succ_self _
theorem tV {c:C}{env:bo}{h:H}{K:AV->H->Prop}{q:SQ}{z:AV}{x key:XV}{ok:Bool}{a:κ}{id clock:Nat}{l:List (κ×AV×Nat)}(hq: ∀a b,q.den (ky a) (ky b)=some (decide (a=b)))(hx:dP env x=some (.mp id))(hkey:dP env key=some (ky a))(hs:seen c.cd id=true)(hg:h.get id=some (.map (lj ky l) clock))(h1: ∀i v,eY a l=some (i,v)->K (yF ok v true) h)(h0:eY a l=none->K (yF ok z false) h):WO P X M c (.lookup q z x key ok) env h K:=by
 refine I2 hx hkey (by rw[hq];simp) hs hg (kb hq a l 0) ?_
 cases hf:eY a l with
 |none=>exact h0 hf
 |some p=>exact h1 p.1 p.2 hf
theorem TH {c:C}{env:bo}{h:H}{K:AV->H->Prop}{q:SQ}{x key y:XV}{a:κ}{u:AV}{id clock:Nat}{l:List (κ×AV×Nat)}(hq: ∀a b,q.den (ky a) (ky b)=some (decide (a=b)))(hx:dP env x=some (.mp id))(hkey:dP env key=some (ky a))(hy:dP env y=some u)(hfl:c.floor<=id)(hs:seen c.cd id=true)(hg:h.get id=some (.map (lj ky l) clock))
    (hk: ∀l' ck,(Nd l clock->Nd l' ck)->(∀b,(eY b l').map Prod.snd=if b=a then some u else(eY b l).map Prod.snd)->K (.bn []) (h.put id (.map (lj ky l') ck))):WO P X M c (.fe q x key y) env h K:=by
 have hfind:=kb hq a l 0
 cases hfa:eY a l with
 |none=>
  rw[hfa]at hfind
  have e:lj ky l++[(ky a,u,clock)]=lj ky (l++[(a,u,clock)]):=by simp[lj]
  refine qk hx hkey hy (by rw[hq];simp) hfl hs hg hfind ?_
  have:=hk (l++[(a,u,clock)]) (clock+1) (LP hfa) fun b=>GH a b u clock l hfa
  rw[<-e]at this
  exact this
 |some p=>
  obtain⟨i,v⟩:=p
  rw[hfa]at hfind
  obtain⟨hi,hset⟩:=GI (ky:=ky) a u l i v hfa
  simp only[Option.map_some,Nat.zero_add]at hfind
  refine AF hx hkey hy (by rw[hq];simp) hfl hs hg hfind hi ?_
  have:=hk (qp a u l) clock (fun w=>RN w) fun b=>GJ a u b l (by rw[hfa];simp)
  rw[<-hset]at this
  exact this
theorem RO {h:H}{F:Nat->Prop}{f:κ->Option PV}{l l':List (κ×AV×Nat)}{a:κ}{v:PV}{u:AV}(h1: ∀k,eY k l=none↔f k=none)(h2: ∀k i v,eY k l=some (i,v)->R h F ((f k).getD .eG) v)(q:R h F v u)(e: ∀b,(eY b l').map Prod.snd=if b=a then some u else(eY b l).map Prod.snd):(∀k,eY k l'=none↔(if k=a then some v else f k)=none)/\ ∀k i w,eY k l'=some (i,w)->R h F ((if k=a then some v else f k).getD .eG) w:=by
 refine⟨fun k=>?_,fun k i w hw=>?_⟩
 ·have:=e k
  by_cases hk:k=a
  ·rw[if_pos hk]at this⊢
   cases hf:eY k l' with
   |none=>rw[hf]at this;cases this
   |some p=>simp
  ·rw[if_neg hk]at this⊢
   rw[<-h1 k]
   cases hf:eY k l' with
   |none=>rw[hf]at this;cases hg:eY k l with
    |none=>simp
    |some p=>rw[hg]at this;cases this
   |some p=>rw[hf]at this;cases hg:eY k l with
    |none=>rw[hg]at this;cases this
    |some p=>simp
 ·have:=e k
  rw[hw]at this
  by_cases hk:k=a
  ·rw[if_pos hk]at this⊢
   cases this;exact q
  ·rw[if_neg hk]at this⊢
   cases hg:eY k l with
   |none=>rw[hg]at this;cases this
   |some p=>rw[hg]at this;cases this;exact h2 k p.1 p.2 hg
end
def Sc:Nat->SQ
 |0=> .b .str
 |1=> .b .int
 |_=> .st [.int,.int]
theorem iw:(t:Nat)-> ∀a b:KT t,(Sc t).den (mF t a) (mF t b)=some (decide (a=b))
 |0,a,b=>by show eqStr (.str a) (.str b)=_;simp only[eqStr,kC]
 |1,a,b=>by
  have:=ke .i64 a b
  exact this
 |t+2,(a1,a2),(b1,b2)=>by
  have h1:=ke .i64 a1 b1
  have h2:=ke .i64 a2 b2
  have e:SQ.den (.st [.int,.int]) (.agg [.int .i64 a1,.int .i64 a2]) (.agg [.int .i64 b1,.int .i64 b2])=some (decide (a1=b1)&&decide (a2=b2)):=by
   by_cases q:a1=b1<;>by_cases r:a2=b2<;>simp_all [SQ.den,SB.den,pM,fu,sy]
  refine Eq.trans e ?_
  congr 1
  by_cases w:((a1,a2):Int×Int)=(b1,b2)
  ·have w':=w
   simp only[Prod.mk.injEq]at w'
   obtain⟨rfl,rfl⟩:=w'
   exact Eq.trans (by simp) (decide_eq_true (p:=((a1,a2):KT (t+2))=(a1,a2)) rfl).symm
  ·refine Eq.trans ?_ (decide_eq_false (p:=((a1,a2):KT (t+2))=(b1,b2)) w).symm
   simp only[Prod.mk.injEq]at w
   by_cases q:a1=b1
   ·simp[q];exact fun r=>w ⟨q,r⟩
   ·simp[q]
theorem wk {t:Nat}{z:AV}{zp:PV}{x key:XV}{ok:Bool}{k:KT t}{p id:Nat}{f:KT t->Option PV}(h1: ∀v,f k=some v->K (bY ok v true) S)(h0:f k=none->K (bY ok zp false) S)(hx:bx G x=some (.gC p id))(hS:aC S p=some (some id,.map t f))(hkey: ∀h F env,RE h F G env->dP env key=some (mF t k))(hz:dO z=some zp):PO P X M d (.lookup (Sc t) z x key ok) G S K:=⟨fun c h F env s r=>by
 obtain⟨a,e1,q1⟩:=r.ev hx
 have e2:=hkey h F env r
 cases q1
 obtain⟨g1,g2,g3,ab,g4,g5⟩:=s.at_ hS (fun q=>by cases q)
 cases g5 with
 |map _ _ l ck w0 w1 w2=>
  refine tV (ky:=mF t) (iw t) e1 e2 g2 g4 (fun i v hf=>?_) fun hf=>?_
  ·have:=w2 k i v hf
   cases hfk:f k with
   |none=>rw[(w1 k).2 hfk]at hf;cases hf
   |some pv=>rw[hfk]at this;exact⟨_,S,F,Ext.refl _ _ _,s,gK this ok true,h1 pv hfk⟩
  ·exact⟨_,S,F,Ext.refl _ _ _,s,gK (rW h F z zp hz) ok false,h0 ((w1 k).1 hf)⟩⟩
theorem wm {t:Nat}{z:AV}{zp:PV}{x key:XV}{ok:Bool}{k:KT t}{f:KT t->Option PV}(h1: ∀v,f k=some v->K (bY ok v true) S)(h0:f k=none->K (bY ok zp false) S)(hx:bx G x=some (.nC t f))(hkey: ∀h F env,RE h F G env->dP env key=some (mF t k))(hz:dO z=some zp):PO P X M d (.lookup (Sc t) z x key ok) G S K:=⟨fun c h F env s r=>by
 obtain⟨a,e1,q1⟩:=r.ev hx
 have e2:=hkey h F env r
 cases q1 with
 |nC _ _ id l ck g1 g2 w0 w1 w2=>
  refine tV (ky:=mF t) (iw t) e1 e2 (s.fr id g1).2 g2 (fun i v hf=>?_) fun hf=>?_
  ·have:=w2 k i v hf
   cases hfk:f k with
   |none=>rw[(w1 k).2 hfk]at hf;cases hf
   |some pv=>rw[hfk]at this;exact⟨_,S,F,Ext.refl _ _ _,s,gK this ok true,h1 pv hfk⟩
  ·exact⟨_,S,F,Ext.refl _ _ _,s,gK (rW h F z zp hz) ok false,h0 ((w1 k).1 hf)⟩⟩
theorem Fg {t:Nat}{x key y:XV}{k:KT t}{p id:Nat}{f:KT t->Option PV}{v:PV}(hk:K (.bn []) ((p,some id,.map t (fun j=>if j=k then some v else f j))::S))(hx:bx G x=some (.gC p id))(hS:aC S p=some (some id,.map t f))(hkey: ∀h F env,RE h F G env->dP env key=some (mF t k))(hy:bx G y=some v):PO P X M d (.fe (Sc t) x key y) G S K:=⟨fun c h F env s r=>by
 obtain⟨a,e1,q1⟩:=r.ev hx
 have e2:=hkey h F env r
 obtain⟨u,e3,q3⟩:=r.ev hy
 cases q1
 obtain⟨g1,g2,g3,ab,g4,g5⟩:=s.at_ hS (fun q=>by cases q)
 cases g5 with
 |map _ _ l ck w0 w1 w2=>
  refine TH (ky:=mF t) (iw t) e1 e2 e3 g1 g2 g4 fun l' ck' nd e=>?_
  obtain⟨u1,u2⟩:=RO w1 w2 q3 e
  obtain⟨s1,x1⟩:=s.put hS (fun q=>by cases q) (RB.map t _ l' ck' (nd w0) u1 u2)
  exact⟨_,_,F,x1,s1,.bn _ _ .nil,hk⟩⟩
theorem OI {key:XV}{k:List Nat}(hk:bx G key=some (.str k)): ∀h F env,RE h F G env->dP env key=some (mF 0 k):=fun h F env r=>by
 obtain⟨b,e,q⟩:=r.ev hk
 cases q;exact e
theorem E9 {key:XV}{k:Int}(hk:bx G key=some (.int .i64 k)): ∀h F env,RE h F G env->dP env key=some (mF 1 k):=fun h F env r=>by
 obtain⟨b,e,q⟩:=r.ev hk
 cases q;exact e
theorem L3 {key:XV}{a b:Int}(hk:bx G key=some (.agg [.int .i64 a,.int .i64 b])): ∀h F env,RE h F G env->dP env key=some (mF 2 (a,b)):=fun h F env r=>by
 obtain⟨u,e,q⟩:=r.ev hk
 cases q with
 |agg _ azs q=>
  cases q with
  |cons _ _ _ _ q1 q2=>cases q1;cases q2 with|cons _ _ _ _ q3 q4=>cases q3;cases q4;exact e
theorem Kf {z:AV}{zp:PV}{x key:XV}{ok:Bool}{k:List Nat}{p id:Nat}{f:List Nat->Option PV}(h1: ∀v,f k=some v->K (bY ok v true) S)(h0:f k=none->K (bY ok zp false) S)(hx:bx G x=some (.gC p id):=by exact rfl)(hS:aC S p=some (some id,.map 0 f):=by exact rfl)(hkey:bx G key=some (.str k):=by exact rfl)(hz:dO z=some zp:=by exact rfl):PO P X M d (.lookup (.b .str) z x key ok) G S K:=wk (t:=0) h1 h0 hx hS (OI hkey) hz
theorem BJ {z:AV}{zp:PV}{x key:XV}{ok:Bool}{k:Int}{p id:Nat}{f:Int->Option PV}(h1: ∀v,f k=some v->K (bY ok v true) S)(h0:f k=none->K (bY ok zp false) S)(hx:bx G x=some (.gC p id):=by exact rfl)(hS:aC S p=some (some id,.map 1 f):=by exact rfl)(hkey:bx G key=some (.int .i64 k):=by exact rfl)(hz:dO z=some zp:=by exact rfl):PO P X M d (.lookup (.b .int) z x key ok) G S K:=wk (t:=1) h1 h0 hx hS (E9 hkey) hz
theorem JE {z:AV}{zp:PV}{x key:XV}{ok:Bool}{a b:Int}{p id:Nat}{f:Int×Int->Option PV}(h1: ∀v,f (a,b)=some v->K (bY ok v true) S)(h0:f (a,b)=none->K (bY ok zp false) S)(hx:bx G x=some (.gC p id):=by exact rfl)(hS:aC S p=some (some id,.map 2 f):=by exact rfl)(hkey:bx G key=some (.agg [.int .i64 a,.int .i64 b]):=by exact rfl)(hz:dO z=some zp:=by exact rfl):PO P X M d (.lookup (.st [.int,.int]) z x key ok) G S K:=wk (t:=2) (k:=(a,b)) h1 h0 hx hS (L3 hkey) hz
theorem wa {i al fm p t:Nat}{wr fz m b ok:Bool}{S0:aJ}{z:AV}{zp:PV}{x key:XV}{k:KT t}{f:KT t->Option PV}{q:SQ}{g:Option (Nat×Bool)}{ops:List SR}{Q:aK->aJ->Prop}(hqt:q=Sc t)(ho:(Nat.beq (al|||p) p||(!wr&&fz))=true)(hnt:nt<=1000000)(hg:cH G g=some true)(hd:Nat.blt d nt=true)(hx:bx G x=some (.nC t f))(hkey: ∀h F env,RE h F G env->dP env key=some (mF t k))(hz:dO z=some zp)
    (h1: ∀v,f k=some v->PD P X M nt ops (i+1) al fm wr fz S0 ((d,bY ok v true)::G) S Q) (h0:f k=none->PD P X M nt ops (i+1) al fm wr fz S0 ((d,bY ok zp false)::G) S Q):PD P X M nt (⟨some d,.lookup q z x key ok,g,p,m,b,some x⟩::ops) i al fm wr fz S0 G S Q:=⟨fun c n0 h F env rs bs fs di r=>by
 subst hqt
 obtain⟨a,e1,q1⟩:=r.ev hx
 have e2:=hkey h F env r
 cases q1 with
 |nC _ _ id l ck g1 g2 w0 w1 w2=>
  obtain⟨hlt,hvis⟩:=di.st.fr id g1
  have ho':al|||p=p\/wr=false/\id<n0:=by
   rcases Bool.or_eq_true _ _▸ho with y|y
   ·exact Or.inl (Nat.eq_of_beq_eq_true y)
   ·simp only[Bool.and_eq_true,Bool.not_eq_true']at y
    exact Or.inr ⟨y.1,di.fr y.2 id g1⟩
  have hsee:seen ((h.n,gQ)::cI p (bw n0 c.cd) rs) id=true:=by
   rcases ho' with y|⟨_,y⟩
   ·exact di.all y hvis hlt
   ·exact fq hlt (di.base hvis y)
  have hun:jZ p id bs=true:=mI fun b y=>by
   rcases ho' with hp|⟨hw,hol⟩
   ·exact Or.inl (testBit_or hp (di.Gx b y))
   ·obtain⟨u1,u2⟩:=di.Oi hw b y id hol
    exact Or.inr ⟨Oj _ _,u1.trans g2,u2.trans g2⟩
  have e:eF i h.n h.n rs=rs:=by unfold eF;simp
  have go: ∀v a,R h F v a->PD P X M nt ops (i+1) al fm wr fz S0 ((d,v)::G) S Q->WD P X M c nt (bw n0 c.cd) ops (i+1) (eF i h.n h.n rs) bs ((i,id)::fs) ((d,a)::env) h (fun env' h'=>Leaves c h F S env' h' Q):=fun v a y hk=>by
   rw[e]
   refine hk.run c n0 h F _ rs bs _ ⟨di.st,di.le,di.Oh,di.lo,di.Gx,di.Oi,fun f y=>?_,fun hw f y=>?_,di.fr,di.old⟩ (r.put y)
   ·rcases List.mem_cons.1 y with rfl|y
    ·exact Or.inr ⟨g1,Oj _ _,g2⟩
    ·exact di.Fb f y
   ·rcases List.mem_cons.1 y with rfl|y
    ·exact⟨hlt,Oj _ _,g2⟩
    ·exact di.Hx hw f y
  refine Av hnt (cY r hg) hd e1 rfl hsee hun ?_
  refine tV (ky:=mF t) (iw t) e1 e2 (fq hlt (mJ (Nat.le_refl _) (Nat.lt_succ_self _))) g2 (fun i v hf=>?_) fun hf=>?_
  ·have:=w2 k i v hf
   cases hfk:f k with
   |none=>rw[(w1 k).2 hfk]at hf;cases hf
   |some pv=>rw[hfk]at this;exact go _ _ (gK this ok true) (h1 pv hfk)
  ·exact go _ _ (gK (rW h F z zp hz) ok false) (h0 ((w1 k).1 hf))⟩
theorem qH {i al fm p:Nat}{wr fz m b ok:Bool}{S0:aJ}{z:AV}{zp:PV}{x key:XV}{k:List Nat}{f:List Nat->Option PV}{g:Option (Nat×Bool)}{ops:List SR}{Q:aK->aJ->Prop}(h1: ∀v,f k=some v->PD P X M nt ops (i+1) al fm wr fz S0 ((d,bY ok v true)::G) S Q)(h0:f k=none->PD P X M nt ops (i+1) al fm wr fz S0 ((d,bY ok zp false)::G) S Q)(ho:(Nat.beq (al|||p) p||(!wr&&fz))=true:=by exact rfl)(hg:cH G g=some true:=by exact rfl)(hd:Nat.blt d nt=true:=by exact rfl)(hx:bx G x=some (.nC 0 f):=by exact rfl)(hkey:bx G key=some (.str k):=by exact rfl)(hz:dO z=some zp:=by exact rfl)(hnt:nt<=1000000:=by assumption):PD P X M nt (⟨some d,.lookup (.b .str) z x key ok,g,p,m,b,some x⟩::ops) i al fm wr fz S0 G S Q:=wa (t:=0) rfl ho hnt hg hd hx (OI hkey) hz h1 h0
theorem xU {i al fm p:Nat}{wr fz m b ok:Bool}{S0:aJ}{z:AV}{zp:PV}{x key:XV}{k:Int}{f:Int->Option PV}{g:Option (Nat×Bool)}{ops:List SR}{Q:aK->aJ->Prop}(h1: ∀v,f k=some v->PD P X M nt ops (i+1) al fm wr fz S0 ((d,bY ok v true)::G) S Q)(h0:f k=none->PD P X M nt ops (i+1) al fm wr fz S0 ((d,bY ok zp false)::G) S Q)(ho:(Nat.beq (al|||p) p||(!wr&&fz))=true:=by exact rfl)(hg:cH G g=some true:=by exact rfl)(hd:Nat.blt d nt=true:=by exact rfl)(hx:bx G x=some (.nC 1 f):=by exact rfl)(hkey:bx G key=some (.int .i64 k):=by exact rfl)(hz:dO z=some zp:=by exact rfl)(hnt:nt<=1000000:=by assumption):PD P X M nt (⟨some d,.lookup (.b .int) z x key ok,g,p,m,b,some x⟩::ops) i al fm wr fz S0 G S Q:=wa (t:=1) rfl ho hnt hg hd hx (E9 hkey) hz h1 h0
theorem Ke {z:AV}{zp:PV}{x key:XV}{ok:Bool}{k:List Nat}{f:List Nat->Option PV}(h1: ∀v,f k=some v->K (bY ok v true) S)(h0:f k=none->K (bY ok zp false) S)(hx:bx G x=some (.nC 0 f):=by exact rfl)(hkey:bx G key=some (.str k):=by exact rfl)(hz:dO z=some zp:=by exact rfl):PO P X M d (.lookup (.b .str) z x key ok) G S K:=wm (t:=0) h1 h0 hx (OI hkey) hz
theorem mf {z:AV}{zp:PV}{x key:XV}{ok:Bool}{k:Int}{f:Int->Option PV}(h1: ∀v,f k=some v->K (bY ok v true) S)(h0:f k=none->K (bY ok zp false) S)(hx:bx G x=some (.nC 1 f):=by exact rfl)(hkey:bx G key=some (.int .i64 k):=by exact rfl)(hz:dO z=some zp:=by exact rfl):PO P X M d (.lookup (.b .int) z x key ok) G S K:=wm (t:=1) h1 h0 hx (E9 hkey) hz
theorem qO {z:AV}{zp:PV}{x key:XV}{ok:Bool}{a b:Int}{f:Int×Int->Option PV}(h1: ∀v,f (a,b)=some v->K (bY ok v true) S)(h0:f (a,b)=none->K (bY ok zp false) S)(hx:bx G x=some (.nC 2 f):=by exact rfl)(hkey:bx G key=some (.agg [.int .i64 a,.int .i64 b]):=by exact rfl)(hz:dO z=some zp:=by exact rfl):PO P X M d (.lookup (.st [.int,.int]) z x key ok) G S K:=wm (t:=2) (k:=(a,b)) h1 h0 hx (L3 hkey) hz
theorem JJ {x key y:XV}{k:List Nat}{p id:Nat}{f:List Nat->Option PV}{v:PV}(hk:K (.bn []) ((p,some id,.map 0 (fun j=>if j=k then some v else f j))::S))(hx:bx G x=some (.gC p id):=by exact rfl)(hS:aC S p=some (some id,.map 0 f):=by exact rfl)(hkey:bx G key=some (.str k):=by exact rfl)(hy:bx G y=some v:=by exact rfl):PO P X M d (.fe (.b .str) x key y) G S K:=Fg (t:=0) hk hx hS (OI hkey) hy
theorem JS {x key y:XV}{k:Int}{p id:Nat}{f:Int->Option PV}{v:PV}(hk:K (.bn []) ((p,some id,.map 1 (fun j:Int=>if j=k then some v else f j))::S))(hx:bx G x=some (.gC p id):=by exact rfl)(hS:aC S p=some (some id,.map 1 f):=by exact rfl)(hkey:bx G key=some (.int .i64 k):=by exact rfl)(hy:bx G y=some v:=by exact rfl):PO P X M d (.fe (.b .int) x key y) G S K:=Fg (t:=1) hk hx hS (E9 hkey) hy
theorem DQ {x key y:XV}{a b:Int}{p id:Nat}{f:Int×Int->Option PV}{v:PV}(hk:K (.bn []) ((p,some id,.map 2 (fun j:Int×Int=>if j=(a,b)then some v else f j))::S))(hx:bx G x=some (.gC p id):=by exact rfl)(hS:aC S p=some (some id,.map 2 f):=by exact rfl)(hkey:bx G key=some (.agg [.int .i64 a,.int .i64 b]):=by exact rfl)(hy:bx G y=some v:=by exact rfl):PO P X M d (.fe (.st [.int,.int]) x key y) G S K:=Fg (t:=2) (k:=(a,b)) hk hx hS (L3 hkey) hy
inductive sR (G:aK):SO->Prop
 |m:sR G .jG
 |h (x:XV) (k:IntKind) (n:Int):bx G x=some (.int k n)->sR G (.zP x)
theorem rX {op:SO}(m:sR G op){c:C}{h:H}{F:Nat->Prop}{env:bo}(r:RE h F G env): ∀K':AV->H->Prop,K' (.mp h.n) (h.new (.map [] 0))->WO P X M c op env h K':=fun K' k=>by
 cases m with
 |m=>exact Me (Nat.lt_succ_self _) k
 |h x kk n e=>
  obtain⟨a,e1,q⟩:=r.ev e
  cases q
  exact bd (fun sl hs call k'=>by simp only[SO.den,pX,hs.ev e1];rw[eS (Nat.lt_succ_self _)]) k
theorem Fh (t:Nat){op:SO}{K1:(Nat->PV)->PB->Prop}(hk:K1 (fun id=> .gC d id) (.map t (fun _=>none)))(m:sR G op):IU P X M d op G K1:=⟨fun c h F env r K' k=>rX m r K' (k _ _ _ _ (RB.map t (fun _=>none) [] 0 ⟨List.nodup_nil,List.nodup_nil,fun p hp=>(by cases hp)⟩ (fun k=>⟨fun _=>rfl,fun _=>rfl⟩) (fun k i v e=>by cases e)) (fun h'=> .gC _ _) (fun q=>by cases q) hk)⟩
theorem JH {op:SO}{K1:(Nat->PV)->PB->Prop}(hk:K1 (fun id=> .gC d id) (.map 0 (fun _=>none)))(m:sR G op):IU P X M d op G K1:=Fh 0 hk m
theorem JR {op:SO}{K1:(Nat->PV)->PB->Prop}(hk:K1 (fun id=> .gC d id) (.map 1 (fun _=>none)))(m:sR G op):IU P X M d op G K1:=Fh 1 hk m
theorem PW {op:SO}{K1:(Nat->PV)->PB->Prop}(hk:K1 (fun id=> .gC d id) (.map 2 (fun _=>none)))(m:sR G op):IU P X M d op G K1:=Fh 2 hk m
theorem JI {op:SO}{K1:(Nat->PV)->PB->Prop}(hk:K1 (fun id=> .gC d id) (.dA [] 0))(m:sR G op):IU P X M d op G K1:=⟨fun c h F env r K' k=>rX m r K' (k _ _ _ _ (RB.dA [] [] 0 ⟨List.nodup_nil,List.nodup_nil,fun p hp=>(by cases hp)⟩ rfl .nil) (fun h'=> .gC _ _) (fun q=>by cases q) hk)⟩
end
end Go.Proofs.YtemehfgkfidgjaaGreatDoor.Ev
