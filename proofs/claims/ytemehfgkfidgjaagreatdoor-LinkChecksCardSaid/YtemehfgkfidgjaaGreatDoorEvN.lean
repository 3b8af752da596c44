/- CoverStates, part 5 -/
import Derived.Test.YtemehfgkfidgjaaGreatDoorEvJ
set_option linter.all false
namespace Go.Proofs.YtemehfgkfidgjaaGreatDoor.Ev
open Go
structure TE where
 sl:Tr AV
 h:H
 v:AV
 c:C
 oh:Bool
 eI:Option Nat
def Ii (nt:Nat)(sl:Tr AV)(d:Option Nat)(v:AV)(sl':Tr AV):Prop:=
 match d with
 |none=>sl'=sl
 |some d=>d<nt/\sl'=Tr.set depth sl d v
theorem gz {R:Type}{r:R}{nt:Nat}{sl:Tr AV}{d:Option Nat}{v:AV}{k:Tr AV->Option R}(e:rB nt sl d v k=some r): ∃sl',Ii nt sl d v sl'/\k sl'=some r:=by
 unfold rB at e
 cases d with
 |none=>exact⟨sl,rfl,e⟩
 |some d=>
  simp only at e
  cases hb:Nat.blt d nt with
  |false=>rw[hb]at e;cases e
  |true=>
   rw[hb]at e
   simp only[cond,Tr.kA]at e
   exact⟨_,⟨by simpa[Nat.blt_eq]using hb,rfl⟩,e⟩
theorem F5 {id b:Nat}(hb:b≠0)(h:(Nat.blt id b||Nat.beq b 0)=true):id<b:=by
 rcases(Bool.or_eq_true _ _).mp h with q|q
 ·simpa[Nat.blt_eq]using q
 ·exact absurd (Nat.eq_of_beq_eq_true q) hb
theorem CJ {id b:Nat}(h:b=0\/id<b):(Nat.blt id b||Nat.beq b 0)=true:=by
 rcases h with q|q
 ·subst q;simp
 ·have:Nat.blt id b=true:=by simpa[Nat.blt_eq]using q
  rw[this];rfl
theorem ov {bl:Nat}{base:List (Nat×Nat)}{id:Nat}: ∀{rs:List (Nat×Nat×Nat)},seen (cI bl base rs) id=true->seen base id=true\/ ∃r∈rs,bl.testBit r.1=true/\r.2.1<=id/\id<r.2.2
 |[],h=>Or.inl h
 |r::rs,h=>by
  unfold cI at h
  cases hb':(bl.testBit r.1&&Nat.blt 0 r.2.2)with
  |true=>
   rw[hb']at h
   obtain⟨hb,hz⟩:=(Bool.and_eq_true _ _).mp hb'
   have hz:0<r.2.2:=by simpa[Nat.blt_eq]using hz
   simp only[cond,seen]at h
   cases hc:Nat.ble r.2.1 id with
   |true=>
    rw[hc]at h
    simp only[cond]at h
    exact Or.inr ⟨r,by simp,hb,Nat.le_of_ble_eq_true hc,F5 om h⟩
   |false=>
    rw[hc]at h
    rcases ov (rs:=rs) h with x|⟨q,h1,h2⟩
    ·exact Or.inl x
    ·exact Or.inr ⟨q,by simp[h1],h2⟩
  |false=>
   rw[hb']at h
   rcases ov (rs:=rs) h with x|⟨q,h1,h2⟩
   ·exact Or.inl x
   ·exact Or.inr ⟨q,by simp[h1],h2⟩
theorem iv {n id:Nat}: ∀{l:List (Nat×Nat)},seen (bw n l) id=true->seen l id=true/\id<n
 |[],h=>by simp[bw,seen]at h
 |r::rs,h=>by
  unfold bw at h
  cases hb:Nat.ble n r.1 with
  |true=>
   rw[hb]at h
   obtain⟨h1,h2⟩:=iv (l:=rs) h
   have h3:=Nat.le_of_ble_eq_true hb
   refine⟨?_,h2⟩
   unfold seen
   have:Nat.ble r.1 id=false:=by
    cases hx:Nat.ble r.1 id with
    |false=>rfl
    |true=>have:=Nat.le_of_ble_eq_true hx;omega
   rw[this];exact h1
  |false=>
   rw[hb]at h
   simp only[cond]at h
   cases hc':(Nat.ble r.2 n&&Nat.blt 0 r.2)with
   |true=>
    rw[hc']at h
    obtain⟨hc,hz⟩:=(Bool.and_eq_true _ _).mp hc'
    have hz:0<r.2:=by simpa[Nat.blt_eq]using hz
    simp only[seen]at h⊢
    cases hd:Nat.ble r.1 id with
    |true=>
     rw[hd]at h
     simp only[cond]at h⊢
     have h4:=Nat.le_of_ble_eq_true hc
     have h5:id<r.2:=F5 om h
     exact⟨h,om⟩
    |false=>
     rw[hd]at h
     exact iv (l:=rs) h
   |false=>
    rw[hc']at h
    have hn:n≠0:=fun q=>by subst q;cases hb
    simp only[seen]at h⊢
    cases hd:Nat.ble r.1 id with
    |true=>
     rw[hd]at h
     simp only[cond]at h⊢
     have h5:id<n:=F5 hn h
     refine⟨CJ ?_,h5⟩
     by_cases hz:r.2=0
     ·exact Or.inl hz
     ·refine Or.inr ?_
      have h6: ¬r.2<=n:=fun x=>by
       have h7:=Nat.ble_eq_true_of_le x
       have h8:Nat.blt 0 r.2=true:=by simp[Nat.blt_eq];omega
       rw[h7,h8]at hc';cases hc'
      omega
    |false=>
     rw[hd]at h
     exact iv (l:=rs) h
theorem fP {i n n':Nat}{rs:List (Nat×Nat×Nat)}: ∀q∈eF i n n' rs,q∈rs\/q=(i,n,n'):=fun q hq=>by
 unfold eF at hq
 cases hb:Nat.beq n n' with
 |true=>rw[hb]at hq;exact Or.inl hq
 |false=>
  rw[hb]at hq
  rcases List.mem_cons.1 hq with y|y
  ·exact Or.inr y
  ·exact Or.inl y
structure nr (c:C)(nt:Nat)(base:List (Nat×Nat))(rs:List (Nat×Nat×Nat))(bs:List (Nat×Tr AB×Tr AB))(fs:List (Nat×Nat))(D:Nat->C->Tr AV->H->AV->H->Prop)(i:Nat)(T:Nat->TE)(j:Nat)(x:XR):Prop where
 put:Ii nt (T j).sl x.dst (T j).v (T (j+1)).sl
 step:Step (T j).c (T j).h (T (j+1)).h
 on:dq (T j).sl x.guard=true->D (i+j) (T j).c (T j).sl (T j).h (T j).v (T (j+1)).h
 off:dq (T j).sl x.guard=false->(T (j+1)).h=(T j).h/\(T j).v= .bn []/\okW (T j).sl x.guard=true
 low:c.floor<=(T j).c.floor/\(T j).c.floor<=(T j).h.n
 quiet:(T j).oh=false->(T j).c.floor=(T j).h.n
 Pc:(T j).oh=true->x.oh=true/\x.mem=true
 old: ∀id,id<(T j).h.n->seen (T j).c.cd id=true->(T j).eI=some id\/x.mem=true
 F6: ∀A,(T j).eI=some A->(∀b∈bs,x.bl.testBit b.1=false->Tr.get b.2.2 A=Tr.get b.2.1 A)/\ ∀k,k<j->(T k).oh=true->x.bl.testBit (i+k)=false->Tr.get (T (k+1)).h.t A=Tr.get (T k).h.t A
 NG:(T j).oh=true->(∀f∈fs,x.bl.testBit f.1=false->Tr.get (T (j+1)).h.t f.2=Tr.get (T j).h.t f.2)/\ ∀k A,k<j->(T k).eI=some A->x.bl.testBit (i+k)=false->Tr.get (T (j+1)).h.t A=Tr.get (T j).h.t A
 EL: ∀id,seen (T j).c.cd id=true->(T j).h.n<=id\/seen base id=true\/(∃r∈rs,x.bl.testBit r.1=true/\r.2.1<=id/\id<r.2.2)\/ ∃k,k<j/\x.bl.testBit (i+k)=true/\(T k).h.n<=id/\id<(T (k+1)).h.n
 CI: ∀id,(T j).h.n<=id->id<(T (j+1)).h.n->seen (T j).c.cd id=true
def sJ (e:TE)(T:Nat->TE):Nat->TE
 |0=>e
 |k+1=>T k
theorem nr.cons {c:C}{nt:Nat}{base:List (Nat×Nat)}{rs rs':List (Nat×Nat×Nat)}{bs bs':List (Nat×Tr AB×Tr AB)}{fs fs':List (Nat×Nat)}{D:Nat->C->Tr AV->H->AV->H->Prop}{i:Nat}{T:Nat->TE}{j:Nat}{x:XR}{e:TE}
    (h:nr c nt base rs' bs' fs' D (i+1) T j x) (hrs: ∀r∈rs',r∈rs\/r=(i,e.h.n,(T 0).h.n)) (hbs: ∀b∈bs,b∈bs') (hb:e.oh=true->(i,e.h.t,(T 0).h.t)∈bs') (hfs: ∀f∈fs,f∈fs') (hf: ∀A,e.eI=some A->(i,A)∈fs'):
    nr c nt base rs bs fs D i (sJ e T) (j+1) x:=by
 refine⟨h.put,h.step,fun hw=>?_,h.off,h.low,h.quiet,h.Pc,h.old,fun A hA=>⟨fun b hb1 hb2=>(h.F6 A hA).1 b (hbs b hb1) hb2,fun k hk hkb hkp=>?_⟩,fun hbar=>⟨fun f hf1 hf2=>(h.NG hbar).1 f (hfs f hf1) hf2,fun k A hk hkf hkp=>?_⟩,fun id hs=>?_,h.CI⟩
 ·have:=h.on hw
  rw[show i+1+j=i+(j+1)by omega]at this
  exact this
 ·cases k with
  |zero=>exact(h.F6 A hA).1 _ (hb hkb) hkp
  |succ k=>exact(h.F6 A hA).2 k om hkb (by rw[show i+1+k=i+(k+1)by omega];exact hkp)
 ·cases k with
  |zero=>exact(h.NG hbar).1 _ (hf A hkf) hkp
  |succ k=>exact(h.NG hbar).2 k A om hkf (by rw[show i+1+k=i+(k+1)by omega];exact hkp)
 ·rcases h.EL id hs with q|q|⟨r,h1,h2,h3⟩|⟨k,h1,h2,h3⟩
  ·exact Or.inl q
  ·exact Or.inr (Or.inl q)
  ·rcases hrs r h1 with y|y
   ·exact Or.inr (Or.inr (Or.inl ⟨r,y,h2,h3⟩))
   ·subst y
    exact Or.inr (Or.inr (Or.inr ⟨0,om,h2,h3⟩))
  ·exact Or.inr (Or.inr (Or.inr ⟨k+1,om,by rw[show i+(k+1)=i+1+k by omega];exact h2,h3⟩))
theorem lT {n id:Nat}{l:List (Nat×Nat)}(h:seen ((n,gQ)::l) id=true):n<=id\/seen l id=true:=by
 simp only[seen]at h
 cases hb:Nat.ble n id with
 |true=>exact Or.inl (Nat.le_of_ble_eq_true hb)
 |false=>rw[hb]at h;exact Or.inr h
theorem eg {n id:Nat}{l:List (Nat×Nat)}(h1:n<=id):seen ((n,gQ)::l) id=true:=by
 simp only[seen,Nat.ble_eq_true_of_le h1,cond]
 exact CJ (Or.inl rfl)
theorem CK {a id:Nat}(h:seen [(a,Nat.succ a)] id=true):id=a:=by
 simp only[seen]at h
 cases hb:Nat.ble a id with
 |true=>
  rw[hb]at h
  have h1:=Nat.le_of_ble_eq_true hb
  have h2:id<Nat.succ a:=F5 (by simp) h
  omega
 |false=>rw[hb]at h;cases h
theorem nr.first {c:C}{nt:Nat}{base:List (Nat×Nat)}{rs:List (Nat×Nat×Nat)}{bs:List (Nat×Tr AB×Tr AB)}{fs:List (Nat×Nat)}{D:Nat->C->Tr AV->H->AV->H->Prop}{i:Nat}{T:Nat->TE}{x:XR}{sl:Tr AV}{h h':H}{v:AV}{c':C}{oh:Bool}{eI:Option Nat}
    (hD:D i c' sl h v h') (hst:Step c' h h') (hwn:dq sl x.guard=true) (h2:(T 0).h=h') (hp:Ii nt sl x.dst v (T 0).sl) (hlow:c.floor<=c'.floor/\c'.floor<=h.n) (hq:oh=false->c'.floor=h.n) (hib:oh=true->x.oh=true/\x.mem=true)
    (hold: ∀id,id<h.n->seen c'.cd id=true->eI=some id\/x.mem=true) (hfB: ∀A,eI=some A-> ∀b∈bs,x.bl.testBit b.1=false->Tr.get b.2.2 A=Tr.get b.2.1 A) (hbF:oh=true-> ∀f∈fs,x.bl.testBit f.1=false->Tr.get h'.t f.2=Tr.get h.t f.2)
    (hs: ∀id,seen c'.cd id=true->h.n<=id\/seen base id=true\/(∃r∈rs,x.bl.testBit r.1=true/\r.2.1<=id/\id<r.2.2)) (hnew: ∀id,h.n<=id->seen c'.cd id=true):
    nr c nt base rs bs fs D i (sJ ⟨sl,h,v,c',oh,eI⟩ T) 0 x:=by
 subst h2
 refine⟨hp,hst,fun _=>hD,fun q=>?_,hlow,hq,hib,hold,fun A hA=>⟨hfB A hA,fun k hk=>absurd hk (Nat.not_lt_zero _)⟩,fun hb=>⟨hbF hb,fun k A hk=>absurd hk (Nat.not_lt_zero _)⟩,fun id q=>?_,fun id q1 q2=>hnew id q1⟩
 ·have q':dq sl x.guard=false:=q
  rw[hwn]at q';cases q'
 ·rcases hs id q with y|y|y
  ·exact Or.inl y
  ·exact Or.inr (Or.inl y)
  ·exact Or.inr (Or.inr (Or.inl y))
theorem p7 {c:C}{call:dS}{nt:Nat}{base:List (Nat×Nat)}{D:Nat->C->Tr AV->H->AV->H->Prop}(hD: ∀j c sl h v h',D j c sl h v h'->Step c h h'):
    ∀(xs:List XR) (i:Nat) (rs:List (Nat×Nat×Nat)) (bs:List (Nat×Tr AB×Tr AB)) (fs:List (Nat×Nat)) (sl:Tr AV) (h:H) (r:Tr AV×H),WF h->c.floor<=h.n->
     (∀j x,xs[j]? =some x-> ∀c' sl h k r,(x.mem=true->x.eI=none->Ctx c' h)->WF h->x.op c' call sl h k=some r-> ∃v h',k v h'=some r/\D (i+j) c' sl h v h')->
     cL c call nt base xs i rs bs fs sl h=some r->
     ∃T:Nat->TE,(T 0).sl=sl/\(T 0).h=h/\(T xs.length).sl=r.1/\(T xs.length).h=r.2/\ ∀j x,xs[j]? =some x->nr c nt base rs bs fs D i T j x
 |[],i,rs,bs,fs,sl,h,r,hw,hl,hop,e=>by
  simp only[cL,Option.some.injEq]at e
  subst e
  exact⟨fun _=>⟨sl,h,.bn [],c,false,none⟩,rfl,rfl,rfl,rfl,fun j x hx=>by simp at hx⟩
 |x::xs,i,rs,bs,fs,sl,h,r,hw,hl,hop,e=>by
  have hop': ∀j y,xs[j]? =some y-> ∀c' sl h k r,(y.mem=true->y.eI=none->Ctx c' h)->WF h->y.op c' call sl h k=some r-> ∃v h',k v h'=some r/\D (i+1+j) c' sl h v h':=fun j y hy=>by
   have:=hop (j+1) y (by simpa using hy)
   rw[show i+(j+1)=i+1+j by omega]at this
   exact this
  have hop0: ∀c' sl h k r,(x.mem=true->x.eI=none->Ctx c' h)->WF h->x.op c' call sl h k=some r-> ∃v h',k v h'=some r/\D i c' sl h v h':=hop 0 x (by simp)
  have glue: ∀(v:AV) (h':H) (c':C) (oh:Bool) (eI:Option Nat) (sl1:Tr AV) (rs':List (Nat×Nat×Nat)) (bs':List (Nat×Tr AB×Tr AB)) (fs':List (Nat×Nat)),Step c' h h'->
      (∀T:Nat->TE,(T 0).sl=sl1->(T 0).h=h'->nr c nt base rs bs fs D i (sJ ⟨sl,h,v,c',oh,eI⟩ T) 0 x)->
      cL c call nt base xs (i+1) rs' bs' fs' sl1 h'=some r->(∀q∈rs',q∈rs\/q=(i,h.n,h'.n))->(∀b∈bs,b∈bs')->(oh=true->(i,h.t,h'.t)∈bs')->(∀f∈fs,f∈fs')->(∀A,eI=some A->(i,A)∈fs')->
      ∃T:Nat->TE,(T 0).sl=sl/\(T 0).h=h/\(T (x::xs).length).sl=r.1/\(T (x::xs).length).h=r.2/\ ∀j y,(x::xs)[j]? =some y->nr c nt base rs bs fs D i T j y:=fun v h' c' oh eI sl1 rs' bs' fs' hst hfirst e hrs hbs hb hfs hf=>by
   obtain⟨T,h1,h2,h3,h4,h5⟩:=p7 hD xs (i+1) rs' bs' fs' sl1 h' r hst.wf (Nat.le_trans hl hst.le) hop' e
   refine⟨sJ ⟨sl,h,v,c',oh,eI⟩ T,rfl,rfl,h3,h4,fun j y hy=>?_⟩
   cases j with
   |zero=>simp at hy;subst hy;exact hfirst T h1 h2
   |succ j=>exact(h5 j y (by simpa using hy)).cons (by rw[h2];exact hrs) hbs (by rw[h2];exact hb) hfs hf
  unfold cL at e
  cases hwn:dq sl x.guard with
  |false=>
   rw[hwn]at e
   simp only[cond]at e
   cases fX:okW sl x.guard with
   |false=>rw[fX]at e;cases e
   |true=>
   rw[fX]at e
   simp only at e
   obtain⟨sl1,hp,e⟩:=gz e
   refine glue (.bn []) h ⟨h.n,[]⟩ false none sl1 rs bs fs (Step.refl hw) (fun T t1 t2=>?_) e (fun q hq=>Or.inl hq) (fun _ hb=>hb) (fun q=>by cases q) (fun _ hf=>hf) (fun A q=>by cases q)
   refine⟨by simp only[sJ];rw[t1];exact hp,by simp only[sJ];rw[t2];exact Step.refl hw,fun q=>?_,fun _=>⟨t2,rfl,fX⟩,⟨hl,Nat.le_refl _⟩,fun _=>rfl,fun q=>(by cases q),fun id _ q=>(by simp[sJ,seen]at q),fun A q=>(by cases q),fun q=>(by cases q),fun id q=>(by simp[sJ,seen]at q),fun id q1 q2=>?_⟩
   ·have q':dq sl x.guard=true:=q
    rw[hwn]at q';cases q'
   ·have q1':h.n<=id:=q1
    have q2':id<(T 0).h.n:=q2
    rw[t2]at q2';omega
  |true=>
   rw[hwn]at e
   simp only[cond]at e
   have hvis: ∀id,seen ((h.n,gQ)::cI x.bl base rs) id=true->h.n<=id\/seen base id=true\/(∃r∈rs,x.bl.testBit r.1=true/\r.2.1<=id/\id<r.2.2):=fun id q=>by
    rcases lT q with y|y
    ·exact Or.inl y
    ·exact Or.inr (ov y)
   have pure_:x.op ⟨h.n,[(h.n,gQ)]⟩ call sl h (fun v h'=>rB nt sl x.dst v fun sl=>cL c call nt base xs (i+1) (eF i h.n h'.n rs) bs fs sl h')=some r->(x.mem=true->x.eI=none->False)->
       ∃T:Nat->TE,(T 0).sl=sl/\(T 0).h=h/\(T (x::xs).length).sl=r.1/\(T (x::xs).length).h=r.2/\ ∀j y,(x::xs)[j]? =some y->nr c nt base rs bs fs D i T j y:=fun e hmf=>by
    obtain⟨v,h',e,hd⟩:=hop0 _ sl h _ r (fun q1 q2=>(hmf q1 q2).elim) hw e
    have hst:=hD _ _ _ _ _ _ hd
    obtain⟨sl1,hp,e⟩:=gz e
    refine glue v h' _ false none sl1 _ bs fs hst (fun T t1 t2=>?_) e fP (fun _ hb=>hb) (fun q=>by cases q) (fun _ hf=>hf) (fun A q=>by cases q)
    refine nr.first hd hst hwn t2 (by rw[t1];exact hp) ⟨hl,Nat.le_refl _⟩ (fun _=>rfl) (fun q=>by cases q) (fun id h1 h2=>?_) (fun A q=>by cases q) (fun q=>by cases q) (fun id q=>?_) (fun id q1=>eg q1)
    ·rcases lT h2 with y|y
     ·omega
     ·cases y
    ·rcases lT q with y|y
     ·exact Or.inl y
     ·cases y
   cases hfo:x.eI with
   |some xf=>
    rw[hfo]at e
    simp only at e
    cases hfi:z8 (bG sl xf)with
    |none=>
     rw[hfi]at e
     exact pure_ e (fun _ q=>by rw[hfo]at q;cases q)
    |some A=>
     rw[hfi]at e
     simp only at e
     cases hch:(seen ((h.n,gQ)::cI x.bl base rs) A&&jZ x.bl A bs)with
     |false=>rw[hch]at e;cases e
     |true=>
      rw[hch]at e
      rw[Bool.and_eq_true]at hch
      simp only at e
      obtain⟨v,h',e,hd⟩:=hop0 _ sl h _ r (fun _ q=>by rw[hfo]at q;cases q) hw e
      have hst:=hD _ _ _ _ _ _ hd
      obtain⟨sl1,hp,e⟩:=gz e
      refine glue v h' _ false (some A) sl1 _ bs ((i,A)::fs) hst (fun T t1 t2=>?_) e fP (fun _ hb=>hb) (fun q=>by cases q) (fun _ hf=>List.mem_cons_of_mem _ hf) (fun A' q=>by cases q;exact List.mem_cons_self ..)
      refine nr.first hd hst hwn t2 (by rw[t1];exact hp) ⟨hl,Nat.le_refl _⟩ (fun _=>rfl) (fun q=>by cases q) (fun id h1 h2=>?_) (fun A' q=>by cases q;exact vE hch.2) (fun q=>by cases q) (fun id q=>?_) (fun id q1=>eg q1)
      ·rcases lT h2 with y|y
       ·omega
       ·exact Or.inl (by rw[CK y])
      ·rcases lT q with y|y
       ·exact Or.inl y
       ·rw[CK y];exact hvis A hch.1
   |none=>
    rw[hfo]at e
    simp only at e
    cases hm:x.mem with
    |false=>
     rw[hm]at e
     exact pure_ e (fun q _=>by rw[hm]at q;cases q)
    |true=>
     rw[hm]at e
     cases hb:x.oh with
     |true=>
      rw[hb]at e
      simp only at e
      obtain⟨v,h',e,hd⟩:=hop0 ⟨c.floor,(h.n,gQ)::cI x.bl base rs⟩ sl h _ r (fun _ _=>⟨hl,fun id q1=>eg q1⟩) hw e
      have hst:=hD _ _ _ _ _ _ hd
      cases hun:iQ x.bl h.t h'.t fs with
      |false=>rw[hun]at e;cases e
      |true=>
       rw[hun]at e
       simp only at e
       obtain⟨sl1,hp,e⟩:=gz e
       refine glue v h' _ true none sl1 _ ((i,h.t,h'.t)::bs) fs hst (fun T t1 t2=>?_) e fP (fun _ hb=>List.mem_cons_of_mem _ hb) (fun _=>List.mem_cons_self ..) (fun _ hf=>hf) (fun A q=>by cases q)
       exact nr.first hd hst hwn t2 (by rw[t1];exact hp) ⟨Nat.le_refl _,hl⟩ (fun q=>by cases q) (fun _=>⟨hb,hm⟩) (fun id _ _=>Or.inr hm) (fun A q=>by cases q) (fun _=>vF hun) hvis (fun id q1=>eg q1)
     |false=>
      rw[hb]at e
      simp only at e
      obtain⟨v,h',e,hd⟩:=hop0 ⟨h.n,(h.n,gQ)::cI x.bl base rs⟩ sl h _ r (fun _ _=>⟨Nat.le_refl _,fun id q1=>eg q1⟩) hw e
      have hst:=hD _ _ _ _ _ _ hd
      obtain⟨sl1,hp,e⟩:=gz e
      refine glue v h' _ false none sl1 _ bs fs hst (fun T t1 t2=>?_) e fP (fun _ hb=>hb) (fun q=>by cases q) (fun _ hf=>hf) (fun A q=>by cases q)
      exact nr.first hd hst hwn t2 (by rw[t1];exact hp) ⟨hl,Nat.le_refl _⟩ (fun _=>rfl) (fun q=>by cases q) (fun id _ _=>Or.inr hm) (fun A q=>by cases q) (fun q=>by cases q) hvis (fun id q1=>eg q1)
/-! the predecessors of an operation -/
theorem yj {acc:Array Nat}{p:Nat}: ∀(l:List Edge) (s:Nat),(l.foldl (fun s e=>if Region.binds .any e then s|||2^e.on|||acc.getD e.on 0 else s) s).testBit p=true->
    s.testBit p=true\/ ∃e∈l,Region.binds .any e=true/\(p=e.on\/(acc.getD e.on 0).testBit p=true)
 |[],s,h=>Or.inl h
 |e::l,s,h=>by
  rw[List.foldl_cons]at h
  rcases yj l _ h with x|⟨e',h1,h2⟩
  ·by_cases hb:Region.binds .any e=true
   ·rw[if_pos hb]at x
    rw[Nat.testBit_or,Nat.testBit_or,Bool.or_eq_true,Bool.or_eq_true]at x
    rcases x with(x|x)|x
    ·exact Or.inl x
    ·rw[Nat.testBit_two_pow]at x
     exact Or.inr ⟨e,by simp,hb,Or.inl (by simpa using(of_decide_eq_true x).symm)⟩
    ·exact Or.inr ⟨e,by simp,hb,Or.inr x⟩
   ·rw[if_neg hb]at x;exact Or.inl x
  ·exact Or.inr ⟨e',by simp[h1],h2⟩
def KM (ops:Array Oper)(A:Array Nat)(j:Nat):Prop:= ∀p,(A.getD j 0).testBit p=true-> ∃o,ops[j]? =some o/\ ∃e∈o.after,Region.binds .any e=true/\(p=e.on\/(A.getD e.on 0).testBit p=true)
theorem lU {A:Array Nat}{v i p:Nat}(h:(A.getD i 0).testBit p=true):((A.push v).getD i 0).testBit p=true:=by
 have hlt:i<A.size:=by
  rcases Nat.lt_or_ge i A.size with x|x
  ·exact x
  ·simp[Array.getElem?_eq_none x]at h
 have e:(A.push v).getD i 0=A.getD i 0:=by simp[Array.getElem?_push,Nat.ne_of_lt hlt]
 rw[e];exact h
theorem sK {ops:Array Oper}: ∀(l:List Oper) (acc:Array Nat),(∀k,l[k]? =ops[acc.size+k]?)->(∀j,KM ops acc j)->
    ∀j,KM ops (l.foldl (fun acc o=>acc.push (o.after.foldl (fun s e=>if Region.binds .any e then s|||2^e.on|||acc.getD e.on 0 else s) 0)) acc) j
 |[],acc,_,h=>h
 |o::l,acc,hl,h=>by
  rw[List.foldl_cons]
  refine sK l _ (fun k=>?_) (fun j p hp=>?_)
  ·have:=hl (k+1)
   simp only[List.getElem?_cons_succ]at this
   rw[this,Array.size_push];congr 1;omega
  ·by_cases hj:j=acc.size
   ·subst hj
    have h0:=hl 0
    simp only[List.getElem?_cons_zero,Nat.add_zero]at h0
    have e:(acc.push (o.after.foldl (fun s e=>if Region.binds .any e then s|||2^e.on|||acc.getD e.on 0 else s) 0)).getD acc.size 0=o.after.foldl (fun s e=>if Region.binds .any e then s|||2^e.on|||acc.getD e.on 0 else s) 0:=by simp
    rw[e,<-Array.foldl_toList]at hp
    rcases yj _ _ hp with x|⟨e',h1,h2,h3⟩
    ·simp at x
    ·refine⟨o,h0.symm,e',by simpa using h1,h2,?_⟩
     rcases h3 with y|y
     ·exact Or.inl y
     ·exact Or.inr (lU y)
   ·have e:(acc.push (o.after.foldl (fun s e=>if Region.binds .any e then s|||2^e.on|||acc.getD e.on 0 else s) 0)).getD j 0=acc.getD j 0:=by
      rcases Nat.lt_or_ge j acc.size with x|x
      ·simp[Array.getElem?_push,hj]
      ·simp[Array.getElem?_push,hj]
    rw[e]at hp
    obtain⟨o',h1,e',h2,h3,h4⟩:=h j p hp
    refine⟨o',h1,e',h2,h3,?_⟩
    rcases h4 with y|y
    ·exact Or.inl y
    ·exact Or.inr (lU y)
theorem Ij (ops:Array Oper)(j:Nat):KM ops (Region.before ops) j:=by
 unfold Region.before
 rw[<-Array.foldl_toList]
 exact sK ops.toList #[] (by simp) (fun j p hp=>by simp at hp) j
section
variable {dr:Prop}
def fN (dr:Prop)(P:Program)(ng:Nat)(call:dS):Prop:= ∀(f:Qq) args c h v h',Ctx c h->WF h->call f args c h=some (v,h')->NF dr P ng f args c h v h'
def Cz (dr:Prop)(P:Program)(ng:Nat):Prop:= ∀(o:Oper) (x:XO),cO P o=some x-> ∀(c:C) (call:dS) (sl:Tr AV) (h:H) (k:dE) (r:Tr AV×H),(kz o=true->Ctx c h)->WF h->fN dr P ng call->
 x c call sl h k=some r-> ∃v h',k v h'=some r/\NC dr P ng o c sl h v h'
section
variable {P:Program}{ng:Nat}{c:C}{call:dS}{nt:Nat}{ops:Array Oper}
theorem Aj (p:Nat)(o:Oper):(∃xo g,cO P o=some xo/\vy ops o.guard=some g/\o.op.operands.toList.all (Dp P)=true/\cR P ops p o={dst:=o.dst,op:=xo,guard:=g,bl:=p,mem:=kz o,oh:=false,eI:=none})\/
    ((cR P ops p o).op=Nw/\(cR P ops p o).guard=none):=by
 unfold cR
 split
 ·rename_i x g h1 h2 h3
  exact Or.inl ⟨x,g,h1,h2,h3,rfl⟩
 ·exact Or.inr ⟨rfl,rfl⟩
theorem my {β:bS}{sl:Tr AV}{a:Act}{ys:List Operand}(hng:P.globals.size<=ng)(hgb:GB ng β)(hg:ys.all (Dp P)=true)(hsl: ∀t,Operand.tmp t∈ys->VR β (slot sl t) (a.tmps.getD t undef)):tx β sl a ys:=by
 intro y hy x hx
 cases y with
 |tmp t=>simp[cV]at hx;subst hx;exact hsl t hy
 |const v=>
  simp only[cV,Option.map_eq_some_iff]at hx
  obtain⟨z,h1,rfl⟩:=hx
  exact KK h1
 |global g=>
  simp[cV]at hx;subst hx
  have:=List.all_eq_true.1 hg _ hy
  simp only[Dp,Nat.blt_eq]at this
  obtain⟨s,e⟩:=hgb g om
  simp only[bG,Act.eval,VR]
  exact⟨_,e,rfl⟩
 |func f=>
  simp[cV]at hx;subst hx
  simp only[bG,Act.eval,VR,bh]
  exact⟨#[],rfl,rfl⟩
theorem NJ {β:bS}{v:AV}{u:Value}(h:VR β v u)(fX:SU v=true):(∃b,v= .bool b/\u= .bool b)\/((∀b,v≠ .bool b)/\ ∀b,u≠ .bool b):=by
 cases v<;>simp only[VR]at h<;>first
  |(have hok':false=true:=fX;cases hok';done)
  |(exact Or.inl ⟨_,rfl,h⟩)
  |(subst h;exact Or.inr ⟨fun _ e=>(by cases e),fun _ e=>(by cases e)⟩)
  |(obtain⟨_,rfl,_⟩:=h;exact Or.inr ⟨fun _ e=>(by cases e),fun _ e=>(by cases e)⟩)
  |(obtain⟨_,_,rfl⟩:=h;exact Or.inr ⟨fun _ e=>(by cases e),fun _ e=>(by cases e)⟩)
  |(obtain⟨_,_,rfl,_⟩:=h;exact Or.inr ⟨fun _ e=>(by cases e),fun _ e=>(by cases e)⟩)
  |(obtain⟨_,_,_,_,rfl,_⟩:=h;exact Or.inr ⟨fun _ e=>(by cases e),fun _ e=>(by cases e)⟩)
def KW (ops:Array Oper)(o:Oper)(t:Nat):Prop:= ∃j w,o.guard=some (j,w)/\(ops[j]?).bind (·.dst)=some t
theorem vI {β:bS}{sl:Tr AV}{a:Act}{o:Oper}{g:Option (Nat×Bool)}(hg:vy ops o.guard=some g)(hsl: ∀t,KW ops o t->VR β (slot sl t) (a.tmps.getD t undef))(fX:dq sl g=false->okW sl g=true):
    dq sl g=Region.wanted o (yielded ops a.tmps):=by
 unfold vy at hg
 unfold Region.wanted
 cases ho:o.guard with
 |none=>rw[ho]at hg;simp only[Option.some.injEq]at hg;subst hg;rfl
 |some jw=>
  obtain⟨j,wt⟩:=jw
  rw[ho]at hg
  simp only at hg
  cases hd:(ops[j]?).bind (·.dst)with
  |none=>rw[hd]at hg;cases hg
  |some d=>
   rw[hd]at hg
   simp only[Option.some.injEq]at hg
   subst hg
   have hv:=hsl d ⟨j,wt,ho,hd⟩
   simp only[dq,yielded,hd,Option.bind_some]
   have hk:SU (slot sl d)=true:=by
    cases hw:dq sl (some (d,wt))with
    |false=>exact fX hw
    |true=>
     unfold dq at hw
     simp only at hw
     cases hs:slot sl d<;>rw[hs]at hw<;>first|rfl|cases hw
   rcases NJ hv hk with⟨b,e1,e2⟩|⟨e1,e2⟩
   ·rw[e1]
    have:a.tmps[d]? =some (.bool b):=by
     rw[Array.getD_eq_getD_getElem?]at e2
     cases hx:a.tmps[d]? with
     |none=>rw[hx]at e2;simp[undef]at e2
     |some u=>rw[hx]at e2;simp at e2;rw[e2]
    rw[this]
    cases b<;>cases wt<;>rfl
   ·have:(match slot sl d with| .bool b=>b==wt|_=>false)=false:=by
      split
      ·rename_i b hb;exact absurd hb (e1 b)
      ·rfl
    refine Eq.trans this ?_
    split
    ·rename_i b hb
     exact absurd (by rw[Array.getD_eq_getD_getElem?,hb];rfl) (e2 b)
    ·cases wt<;>rfl
theorem qx.Tc {nt:Nat}{df:List Deferred}{β:bS}{sl sl':Tr AV}{a:Act}{d:Option Nat}{v:AV}{u:Value}(h:qx nt df β sl a)(hp:Ii nt sl d v sl')(hnt:nt<=1000000)(hv:VR β v u):qx nt df β sl' (a.put d u):=by
 cases d with
 |none=>simp only[Ii]at hp;subst hp;exact h
 |some d=>
  obtain⟨h1,rfl⟩:=hp
  exact h.put h1 hnt hv
theorem p9 {β:bS}:VR β (.bn []) undef:=by simp[VR,bh,undef]
theorem fk {df:List Deferred}{rd:Option Nat}{m:Nat}{js:List Nat}(hO:Cz dr P ng)(hC:fN dr P ng call)(hng:P.globals.size<=ng)(hnt:nt<=1000000): ∀(l:List Oper) (i:Nat) (sl:Tr AV) (h:H) (r:Tr AV×H),(∀k,k<l.length->l[k]? =ops[i+k]?)->WF h->Ctx c h->
    ic c call nt (l.map (cR P ops 0)) sl h=some r->Step c h r.2/\ ∀β a w,GB ng β->HR c.floor β (view c h) w->qx nt df β sl a->(∀id,h.n<=id->id<r.2.n->β id=none)-> ∀Q:Exit->Act->World->Prop,
     (∀β' a' w',ca dr c.floor h.n r.2.n β (view c h) w β' (view c r.2) w'->qx nt df β' r.1 a'->wpOpsIn (W rd) m P ops Q js a' w')->wpOpsIn (W rd) m P ops Q (List.range' i l.length++js) a w
 |[],i,sl,h,r,hl,hw,hc,e=>by
  simp only[List.map_nil,ic,Option.some.injEq]at e
  subst e
  refine⟨Step.refl hw,fun β a w hgb hr hsl hfr Q hQ=>?_⟩
  simp only[List.length_nil,List.range'_zero,List.nil_append]
  exact hQ β a w (ca.refl hr) hsl
 |o::l,i,sl,h,r,hl,hw,hc,e=>by
  have hl': ∀k,k<l.length->l[k]? =ops[i+1+k]? :=fun k hk=>by
   have:=hl (k+1) (by rw[List.length_cons];omega)
   simp only[List.getElem?_cons_succ]at this
   rw[this];congr 1;omega
  have hoi:ops[i]? =some o:=by have:=hl 0 (by rw[List.length_cons];omega);simpa using this.symm
  simp only[List.map_cons]at e
  unfold ic at e
  rcases Aj (P:=P) (ops:=ops) 0 o with⟨xo,g,h1,h2,h3,h4⟩|⟨h1,h2⟩
  ·rw[h4]at e
   simp only at e
   cases hwn:dq sl g with
   |false=>
    rw[hwn]at e
    simp only[cond]at e
    cases fX:okW sl g with
    |false=>rw[fX]at e;cases e
    |true=>
    rw[fX]at e
    simp only at e
    obtain⟨sl1,hp,e⟩:=gz e
    obtain⟨s1,s2⟩:=fk hO hC hng hnt l (i+1) sl1 h r hl' hw hc e
    refine⟨s1,fun β a w hgb hr hsl hfr Q hQ=>?_⟩
    rw[List.length_cons,List.range'_succ,List.cons_append,wpOpsIn_cons]
    unfold wpOpIn
    rw[hoi]
    have hwt:=vI (ops:=ops) (a:=a) h2 (fun t _=>hsl.at_ t) (fun _=>fX)
    rw[hwn]at hwt
    simp only[<-hwt,Bool.false_eq_true,if_false]
    refine⟨fun _ _=>trivial,?_⟩
    exact s2 β _ w hgb hr (hsl.Tc hp hnt p9) hfr Q hQ
   |true=>
    rw[hwn]at e
    simp only[cond]at e
    obtain⟨v,h',e,hd⟩:=hO o xo h1 c call sl h _ r (fun _=>hc) hw hC e
    obtain⟨sl1,hp,e⟩:=gz e
    obtain⟨hst,hdd⟩:=hd
    obtain⟨s1,s2⟩:=fk hO hC hng hnt l (i+1) sl1 h' r hl' hst.wf (hc.mono hst.le) e
    refine⟨hst.trans s1,fun β a w hgb hr hsl hfr Q hQ=>?_⟩
    rw[List.length_cons,List.range'_succ,List.cons_append,wpOpsIn_cons]
    unfold wpOpIn
    rw[hoi]
    have hwt:=vI (ops:=ops) (a:=a) h2 (fun t _=>hsl.at_ t) (fun q=>by rw[hwn]at q;cases q)
    rw[hwn]at hwt
    simp only[<-hwt,if_true]
    refine(hdd β a w hgb hr (my hng hgb h3 fun t _=>hsl.at_ t) (fun id q1 q2=>hfr id q1 (Nat.lt_of_lt_of_le q2 s1.le)) _ _ _ Q fun β1 val w1 hP1 hv1=>?_)
    refine s2 β1 _ w1 (hgb.mono hP1.sub) hP1.hr ((hsl.mono hP1.sub).Tc hp hnt hv1) (fun id q1 q2=>?_) Q fun β2 a2 w2 hP2 hs2=>hQ β2 a2 w2 (hP1.trans hP2) hs2
    cases hb:β1 id with
    |none=>rfl
    |some L=>
     have h0:=hfr id (Nat.le_trans hst.le q1) q2
     have:=hP1.fresh id L hb h0
     omega
  ·rw[h1,h2]at e
   simp[dq,Nw]at e
/-! regions in any order -/
theorem yn {α:Type}{p q:α->Bool}: ∀{l:List α} {x:α},x∈l->p x=true->q x=false->(∀y,q y=true->p y=true)->l.countP q<l.countP p
 |[],x,h,_,_,_=>by cases h
 |y::l,x,h,hp,hq,hh=>by
  have mono: ∀l:List α,l.countP q<=l.countP p:=fun l=>List.countP_mono_left fun z _ hz=>hh z hz
  rcases List.mem_cons.1 h with e|e
  ·subst e
   rw[List.countP_cons_of_pos hp,List.countP_cons_of_neg (by simp[hq])]
   have:=mono l;omega
  ·have:=yn e hp hq hh
   rw[List.countP_cons,List.countP_cons]
   cases hy:q y with
   |true=>rw[hh y hy];simp;omega
   |false=>cases p y<;>simp<;>omega
theorem ca.toSub {f n n':Nat}{β β':bS}{g V g':View}{w w':World}(h:ca dr f n n' β g w β' V w')(hs: ∀id b,g' id=some b->V id=some b):ca dr f n n' β g w β' g' w':=
 ⟨h.le,h.sub,h.fresh,h.hr.sub hs,h.os,h.tape,h.output,h.size,h.frame,h.news,fun id b e=>h.old id b (hs id b e)⟩
theorem eR {j:Nat}{o:Oper}(h:ops[j]? =some o):ops.getD j default=o:=by simp[h]
theorem qc (fX:Pb ops (Region.before ops)=true){j:Nat}{o:Oper}(hj:ops[j]? =some o):
    (∀p,((Region.before ops).getD j 0).testBit p=true->p<j)/\(∀e∈o.after,Region.binds .any e=true->e.on<j)/\
    ∀d,o.dst=some d-> ∀i oi,ops[i]? =some oi->i≠j->(d∈oi.looksAt ops\/oi.dst=some d)->(i<j->((Region.before ops).getD j 0).testBit i=true)/\(j<i->((Region.before ops).getD i 0).testBit j=true):=by
 have hlt:j<ops.size:=(Array.getElem?_eq_some_iff.1 hj).1
 unfold Pb at fX
 have h1:=List.all_eq_true.1 fX j (List.mem_range.2 hlt)
 rw[eR hj]at h1
 simp only[Bool.and_eq_true,decide_eq_true_eq]at h1
 obtain⟨⟨h2,h3⟩,h4⟩:=h1
 refine⟨fun p hp=>?_,fun e he hb=>?_,fun d hd i oi hi hne hlk=>?_⟩
 ·rcases Nat.lt_or_ge p j with x|x
  ·exact x
  ·rw[Nat.testBit_lt_two_pow (Nat.lt_of_lt_of_le h2 (Nat.pow_le_pow_right (by omega) x))]at hp;cases hp
 ·have:=Array.all_eq_true_iff_forall_mem.1 h3 e he
  simpa[hb]using this
 ·rw[hd]at h4
  simp only at h4
  have hli:i<ops.size:=(Array.getElem?_eq_some_iff.1 hi).1
  have h5:=List.all_eq_true.1 h4 i (List.mem_range.2 hli)
  rw[eR hi]at h5
  have h6:(((oi.looksAt ops).contains d)||(oi.dst==some d))=true:=by
   rcases hlk with q|q
   ·simp[q]
   ·simp[q]
  rw[h6]at h5
  simp only[Bool.not_true,Bool.or_false,Bool.or_eq_true,beq_iff_eq]at h5
  rcases h5 with h5|h5
  ·exact absurd h5 hne
  ·refine⟨fun q=>?_,fun q=>?_⟩
   ·rw[if_pos q]at h5;exact h5
   ·rw[if_neg (by omega)]at h5;exact h5
theorem EN {j i:Nat}{o oi:Oper}(hb:FX ops (Region.before ops) j=true)(hi:ops[i]? =some oi)(hm:kz oi=true)(hne:i≠j):
    (i<j->((Region.before ops).getD j 0).testBit i=true)/\(j<i->((Region.before ops).getD i 0).testBit j=true):=by
 have hli:i<ops.size:=(Array.getElem?_eq_some_iff.1 hi).1
 unfold FX at hb
 have h5:=List.all_eq_true.1 hb i (List.mem_range.2 hli)
 rw[eR hi,hm]at h5
 simp only[Bool.not_true,Bool.false_or,Bool.or_eq_true,beq_iff_eq]at h5
 rcases h5 with h5|h5
 ·exact absurd h5 hne
 ·refine⟨fun q=>?_,fun q=>?_⟩
  ·rw[if_pos q]at h5;exact h5
  ·rw[if_neg (by omega)]at h5;exact h5
end
section
variable {P:Program}{ng:Nat}{c:C}{call:dS}{nt:Nat}{ops:Array Oper}
theorem qf (p:Nat)(o:Oper):(cR P ops p o).dst=o.dst/\(cR P ops p o).bl=p:=by
 unfold cR
 split<;>exact⟨rfl,rfl⟩
def Good (P:Program)(ops:Array Oper)(p:Nat)(o:Oper):Prop:= ∃xo g,cO P o=some xo/\vy ops o.guard=some g/\o.op.operands.toList.all (Dp P)=true/\cR P ops p o={dst:=o.dst,op:=xo,guard:=g,bl:=p,mem:=kz o,oh:=false,eI:=none}
def DD (dr:Prop)(P:Program)(ng:Nat)(ops:Array Oper)(j:Nat)(c:C)(sl:Tr AV)(h:H)(v:AV)(h':H):Prop:= ∃o,ops[j]? =some o/\NC dr P ng o c sl h v h'/\Good P ops ((Region.before ops).getD j 0) o
def NK (ops:Array Oper)(j i:Nat):Prop:=j<ops.size/\((Region.before ops).getD j 0).testBit i=true
def KX (ops:Array Oper)(j t:Nat):Prop:= ∃o,ops[j]? =some o/\(t∈o.looksAt ops\/o.dst=some t)
def Gc (ops:Array Oper)(j t:Nat):Prop:= ∃o,ops[j]? =some o/\o.dst=some t
theorem tR {j:Nat}(hj:j<ops.size):(KA P ops)[j]? =some (cD P ops (Region.before ops) j):=by
 unfold KA
 simp[List.getElem?_map,List.getElem?_range hj]
theorem QE {j:Nat}{x:XR}(h:(KA P ops)[j]? =some x):j<ops.size/\x=cD P ops (Region.before ops) j:=by
 have hlt:j<ops.size:=by
  have:=(List.getElem?_eq_some_iff.1 h).1
  simpa[KA]using this
 rw[tR hlt]at h
 cases h
 exact⟨hlt,rfl⟩
theorem qg {j:Nat}(hj:j<ops.size): ∃o,ops[j]? =some o:=⟨ops[j],by simp[hj]⟩
theorem NL {h:H}{T:Nat->TE}(fX:Pb ops (Region.before ops)=true)(hnt:nt<=1000000)(hw:WF h)(h0:(T 0).h=h)
    (hL: ∀j x,(KA P ops)[j]? =some x->nr c nt (bw h.n c.cd) [] [] [] (DD dr P ng ops) 0 T j x):
    TF c ops.size (fun j=>(T j).h) (fun j=>(T j).sl) (fun j=>(T j).v) (fun j=>(T j).c) (NK ops) (KX ops) (Gc ops):=by
 have L: ∀j,j<ops.size->nr c nt (bw h.n c.cd) [] [] [] (DD dr P ng ops) 0 T j (cD P ops (Region.before ops) j):=fun j hj=>hL j _ (tR hj)
 have hpr: ∀j,(cD P ops (Region.before ops) j).bl=(Region.before ops).getD j 0:=fun j=>(qf (P:=P) (ops:=ops) _ _).2
 refine⟨fun j hj=>(L j hj).step.le,fun j hj=>?_,fun j hj id hid=>?_,fun j i hp=>?_,fun i j hi hj hne hn1 hn2 id h1 h2 hd hsn=>?_,fun j i t hj hi hl hwr hne=>?_,fun j t hwr=>?_,fun j t hj hwr=>?_,fun j t hj hwr=>?_,fun j hj=>(L j hj).low,fun j hj id hs=>?_,fun j hj=>(L j hj).CI⟩
 ·cases j with
  |zero=>show WF (T 0).h;rw[h0];exact hw
  |succ j=>exact(L j om).step.wf
 ·rcases(L j hj).step.sE id hid with e|⟨e1,e2⟩
  ·exact Or.inl e
  ·exact Or.inr e2
 ·obtain⟨hj,hb⟩:=hp
  obtain⟨o,ho⟩:=qg hj
  exact(qc fX ho).1 i hb
 ·have hbar:(T j).oh=true:=by
    cases hb:(T j).oh with
    |true=>rfl
    |false=>
     exfalso
     have q:=(L j hj).quiet hb
     rcases(L j hj).step.sE id h1 with e|⟨e1,_⟩
     ·exact hd e
     ·have h1':id<(T j).h.n:=h1
      omega
  have bit: ∀a b,a<ops.size-> ¬NK ops a b->((Region.before ops).getD a 0).testBit b=false:=fun a b ha hn=>by
   cases hq:((Region.before ops).getD a 0).testBit b with
   |false=>rfl
   |true=>exact absurd ⟨ha,hq⟩ hn
  rcases(L i hi).old id h2 hsn with hf|hm
  ·rcases Nat.lt_or_ge i j with q|q
   ·exact hd (((L j hj).NG hbar).2 i id q hf (by rw[hpr,Nat.zero_add];exact bit j i hj hn1))
   ·exact hd (((L i hi).F6 id hf).2 j om hbar (by rw[hpr,Nat.zero_add];exact bit i j hi hn2))
  ·obtain⟨oi,hoi⟩:=qg hi
   obtain⟨hb,_⟩:=(L j hj).Pc hbar
   have hb':(kz (ops.getD j default)&&FX ops (Region.before ops) j)=true:=hb
   rw[Bool.and_eq_true]at hb'
   have hm':kz (ops.getD i default)=true:=hm
   rw[eR hoi]at hm'
   have:=EN (o:=oi) hb'.2 hoi hm' hne
   rcases Nat.lt_or_ge i j with q|q
   ·exact hn1 ⟨hj,this.1 q⟩
   ·exact hn2 ⟨hi,this.2 om⟩
 ·obtain⟨oj,ho,hlk⟩:=hl
  obtain⟨oi,hoi,hd⟩:=hwr
  have:=(qc fX hoi).2.2 t hd j oj ho (Ne.symm hne) hlk
  exact⟨fun q=>⟨hj,this.2 q⟩,fun q=>⟨hi,this.1 q⟩⟩
 ·obtain⟨o,h1,h2⟩:=hwr
  exact⟨o,h1,Or.inr h2⟩
 ·obtain⟨o,h1,h2⟩:=hwr
  have hp:=(L j hj).put
  have hd:(cD P ops (Region.before ops) j).dst=some t:=by
   show(cR P ops _ (ops.getD j default)).dst=some t
   rw[(qf _ _).1,eR h1,h2]
  rw[hd]at hp
  obtain⟨h3,h4⟩:=hp
  show slot (T (j+1)).sl t=(T j).v
  rw[h4,lS (by omega),if_pos rfl]
 ·have hp:=(L j hj).put
  obtain⟨o,h1⟩:=qg hj
  have hd:(cD P ops (Region.before ops) j).dst=o.dst:=by
   show(cR P ops _ (ops.getD j default)).dst=o.dst
   rw[(qf _ _).1,eR h1]
  rw[hd]at hp
  cases ho:o.dst with
  |none=>rw[ho]at hp;show slot (T (j+1)).sl t=slot (T j).sl t;rw[show(T (j+1)).sl=(T j).sl from hp]
  |some d=>
   rw[ho]at hp
   obtain⟨h3,h4⟩:=hp
   show slot (T (j+1)).sl t=slot (T j).sl t
   rw[h4,lS (by omega),if_neg]
   intro e;subst e
   exact hwr ⟨o,h1,ho⟩
 ·rcases(L j hj).EL id hs with q|q|⟨r,q,_⟩|⟨k,q1,q2,q3⟩
  ·exact Or.inl q
  ·have:=iv q
   refine Or.inr (Or.inl ⟨this.1,?_⟩)
   show id<(T 0).h.n
   rw[h0];exact this.2
  ·cases q
  ·refine Or.inr (Or.inr ⟨k,q1,⟨hj,?_⟩,q3⟩)
   rw[hpr,Nat.zero_add]at q2
   exact q2
theorem NM {m:Nat}{hs:Nat->H}{sls:Nat->Tr AV}{vs:Nat->AV}{cs:Nat->C}{pre:Nat->Nat->Prop}{looks writes:Nat->Nat->Prop}(F:TF c m hs sls vs cs pre looks writes)
    (hst: ∀j,j<m->Step (cs j) (hs j) (hs (j+1))):Step c (hs 0) (hs m):=by
 have: ∀j,j<=m-> ∀id,id<(hs 0).n->Tr.get (hs j).t id=Tr.get (hs 0).t id\/(c.floor<=id/\seen c.cd id=true):=by
  intro j
  induction j with
  |zero=>intro _ id _;exact Or.inl rfl
  |succ j ih=>
   intro hj id hid
   have h0:=F.gd (i:=0) (j:=j) om om
   rcases(hst j om).sE id om with e|⟨e1,e2⟩
   ·rcases ih om id hid with e'|e'
    ·exact Or.inl (e.trans e')
    ·exact Or.inr e'
   ·refine Or.inr ⟨Nat.le_trans (F.low j om).1 e1,?_⟩
    rcases F.EL j om id e2 with q|q|⟨i,q1,q2,q3,q4⟩
    ·omega
    ·exact q.1
    ·have:=F.gd (i:=0) (j:=i) om om;omega
 exact⟨F.gd om om,F.wf m om,this m om⟩
theorem Ip {df:List Deferred}{m:Nat}{hs:Nat->H}{sls:Nat->Tr AV}{vs:Nat->AV}{cs:Nat->C}{pre:Nat->Nat->Prop}{looks writes:Nat->Nat->Prop}(F:TF c m hs sls vs cs pre looks writes)
    {X:Nat->Prop} (hX: ∀i,¬X i) {β:bS} {w:World} {a:Act} (hr:HR c.floor β (view c (hs 0)) w) (hsl:qx nt df β (sls 0) a):Inv dr F nt df (hs m).n β w X β a w:=by
 have hmm:=F.gd (i:=0) (j:=m) om om
 have hP:ca dr c.floor (hs 0).n (hs m).n β (view c (hs 0)) w β (view c (hs 0)) w:=
  ⟨hmm,Sub.refl _,fun id L h1 h2=>by(rw[h2]at h1;cases h1),hr,rfl,⟨rfl,fun _=>Nat.le_refl _⟩,rfl,Nat.le_refl _,fun _ _ _=>rfl,fun id L h1 h2=>by(rw[h2]at h1;cases h1),fun id b h=>Or.inl ⟨b,h⟩⟩
 refine⟨fun i h=>absurd h (hX i),fun i p h=>absurd h (hX i),⟨_,hP,fun j hj _ id b _ e=>?_⟩,fun id L h1 h2=>by(rw[h2]at h1;cases h1),fun j hj _ t _=>?_,hsl.size,hsl.defers⟩
 ·by_cases c1: ∃i,i<j/\i<m/\ ¬X i/\id<(hs i).n/\Tr.get (hs (i+1)).t id≠Tr.get (hs i).t id
  ·exact Or.inr (Or.inl c1)
  ·obtain⟨e1,e2⟩:=dg e
   have hlt:=db (F.wf j hj) e1
   rcases Nat.lt_or_ge id (hs 0).n with x|x
   ·refine Or.inr (Or.inr ?_)
    have:=F.KL (i:=0) (j:=j) om hj x (fun k _ h2 hd=>c1 ⟨k,h2,om,hX k,Nat.lt_of_lt_of_le x (F.gd om om),hd⟩)
    exact(rI this.symm e2 e2).trans e
   ·obtain⟨k,h1,h2,h3⟩:=F.owner (i:=0) (id:=id) j om x (by simpa using hlt)
    exact Or.inl ⟨k,om,hX k,h3⟩
 ·by_cases c1: ∃i,i<j/\i<m/\ ¬X i/\writes i t
  ·exact Or.inl c1
  ·refine Or.inr ?_
   have:=F.EM (i:=0) (t:=t) j om (fun k _ h2 h3=>c1 ⟨k,om,om,hX k,h3⟩)
   rw[Nat.zero_add]at this
   rw[this];exact hsl.at_ t
theorem EO {listed:Array Bool}(hsz:listed.size=ops.size)(fX:Pb ops (Region.before ops)=true)(hr:Region.ready .any ops listed=[]): ∀n j,j<n->j<ops.size->listed.getD j false=true:=by
 intro n
 induction n with
 |zero=>intro j h;omega
 |succ n ih=>
  intro j hj hlt
  cases hb:listed.getD j false with
  |true=>rfl
  |false=>
   exfalso
   obtain⟨o,ho⟩:=qg hlt
   have:j∈Region.ready .any ops listed:=by
    rw[mem_ready]
    refine⟨?_,o,ho,fun e he hbn=>?_⟩
    ·have hl:j<listed.size:=by omega
     simp[Array.getD_eq_getD_getElem?,hl]at hb⊢
     exact hb
    ·have:=(qc fX ho).2.1 e he hbn
     exact ih e.on om om
   rw[hr]at this;cases this
theorem KY {df:List Deferred}{rd:Option Nat}{m:Nat}{h:H}{T:Nat->TE}(hng:P.globals.size<=ng)(fX:Pb ops (Region.before ops)=true)(hnt:nt<=1000000)(hw:WF h)(h0:(T 0).h=h)(hc:Ctx c h)
    (hL: ∀j x,(KA P ops)[j]? =some x->nr c nt (bw h.n c.cd) [] [] [] (DD dr P ng ops) 0 T j x)
    (F:TF c ops.size (fun j=>(T j).h) (fun j=>(T j).sl) (fun j=>(T j).v) (fun j=>(T j).c) (NK ops) (KX ops) (Gc ops))
    {β0:bS} {w0:World} (hgb:GB ng β0) (hfr: ∀id,(T 0).h.n<=id->id<(T ops.size).h.n->β0 id=none) {Q:Exit->Act->World->Prop}
    (hQ: ∀β' a' w',ca dr c.floor (T 0).h.n (T ops.size).h.n β0 (view c (T 0).h) w0 β' (view c (T ops.size).h) w'->qx nt df β' (T ops.size).sl a'->Q .normal a' w'):
    ∀(fuel:Nat) (listed:Array Bool) (β:bS) (a:Act) (w:World),listed.size=ops.size->(List.range ops.size).countP (fun i=>!listed.getD i false)<=fuel->Inv dr F nt df (T ops.size).h.n β0 w0 (fun i=>listed.getD i false=true) β a w->
     wpAnyIn (W rd) m P .any ops Q fuel listed a w:=by
 have fin: ∀(listed:Array Bool) (β:bS) (a:Act) (w:World),listed.size=ops.size->(∀j,j<ops.size->listed.getD j false=true)->Inv dr F nt df (T ops.size).h.n β0 w0 (fun i=>listed.getD i false=true) β a w->Q .normal a w:=by
  intro listed β a w hsz hall I
  have hnX: ¬(listed.getD ops.size false=true):=by simp[Array.getD_eq_getD_getElem?,Array.getElem?_eq_none (Nat.le_of_eq hsz)]
  obtain⟨V,hP,hV⟩:=I.heap
  refine hQ β a w (hP.toSub fun id b e=>?_) ⟨I.size,I.defers,fun t=>?_⟩
  ·rcases hV ops.size (Nat.le_refl _) hnX id b (fun q=>absurd q (Nat.lt_irrefl _)) e with⟨i,h1,h2,_⟩|⟨i,_,h1,h2,_⟩|q
   ·exact absurd (hall i h1) h2
   ·exact absurd (hall i h1) h2
   ·exact q
  ·rcases I.sl ops.size (Nat.le_refl _) hnX t (fun q=>absurd q (Nat.lt_irrefl _))with⟨i,_,h1,h2,_⟩|q
   ·exact absurd (hall i h1) h2
   ·exact q
 intro fuel
 induction fuel with
 |zero=>
  intro listed β a w hsz hcnt I
  have hall: ∀j,j<ops.size->listed.getD j false=true:=fun j hj=>by
   have:=List.countP_eq_zero.1 (Nat.le_zero.1 hcnt) j (List.mem_range.2 hj)
   simpa using this
  refine⟨?_,fin listed β a w hsz hall I⟩
  cases hr:Region.ready .any ops listed with
  |nil=>rfl
  |cons j rest=>
   exfalso
   have:j∈Region.ready .any ops listed:=by rw[hr];simp
   rw[mem_ready]at this
   obtain⟨h1,o,h2,_⟩:=this
   have hlt:=(Array.getElem?_eq_some_iff.1 h2).1
   have h3:=hall j hlt
   have hl:j<listed.size:=by omega
   simp[Array.getD_eq_getD_getElem?,hl]at h1 h3
   rw[h1]at h3;cases h3
 |succ fuel ih=>
  intro listed β a w hsz hcnt I
  refine⟨fun hr=>fin listed β a w hsz (fun j hj=>EO hsz fX hr (j+1) j om hj) I,fun j hj=>?_⟩
  rw[mem_ready]at hj
  obtain⟨h1,o,ho,h3⟩:=hj
  have hlt:=(Array.getElem?_eq_some_iff.1 ho).1
  have hl:j<listed.size:=by omega
  have hnX: ¬(listed.getD j false=true):=by
   simp[Array.getD_eq_getD_getElem?,hl]at h1⊢
   exact h1
  have hp: ∀p,NK ops j p->listed.getD p false=true:=fun p hpp=>by
   obtain⟨o',q1,e,q2,q3,q4⟩:=Ij ops j p hpp.2
   rw[ho]at q1;cases q1
   have q5:=h3 e q2 q3
   rcases q4 with q4|q4
   ·rw[q4];exact q5
   ·have:=(qc fX ho).2.1 e q2 q3
    exact I.dc e.on p q5 ⟨om,q4⟩
  have hLj:=hL j _ (tR hlt)
  have hc':Ctx c ((fun j=>(T j).h) 0):=by show Ctx c (T 0).h;rw[h0];exact hc
  obtain⟨r1,r2,r3,_⟩:=I.runs hc' hlt hnX hp hfr
  have hsub:Sub β0 β:=by obtain⟨V,hP,_⟩:=I.heap;exact hP.sub
  have hXeq:(fun k=>(listed.setIfInBounds j true).getD k false=true)=(fun k=>listed.getD k false=true\/k=j):=by
   funext k
   apply propext
   by_cases hk:k=j
   ·subst hk;simp[Array.getD_eq_getD_getElem?,Array.getElem?_setIfInBounds,hl]
   ·rw[getD_set_ne false (Ne.symm hk)];simp[hk]
  have hcnt':(List.range ops.size).countP (fun i=>!(listed.setIfInBounds j true).getD i false)<=fuel:=by
   have:=yn (p:=fun i=>!listed.getD i false) (q:=fun i=>!(listed.setIfInBounds j true).getD i false) (List.mem_range.2 hlt) (by simpa using hnX) (by simp[Array.getD_eq_getD_getElem?,Array.getElem?_setIfInBounds,hl]) (fun k hk=>by
    by_cases hkj:k=j
    ·subst hkj;simp[Array.getD_eq_getD_getElem?,Array.getElem?_setIfInBounds,hl]at hk
    ·rw[getD_set_ne false (Ne.symm hkj)]at hk;exact hk)
   omega
  have hsz':(listed.setIfInBounds j true).size=ops.size:=by simpa using hsz
  have hput:Ii nt (T j).sl o.dst (T j).v (T (j+1)).sl:=by
   have:=hLj.put
   have hd:(cD P ops (Region.before ops) j).dst=o.dst:=by
    show(cR P ops _ (ops.getD j default)).dst=o.dst
    rw[(qf _ _).1,eR ho]
   rw[hd]at this;exact this
  have next: ∀β' val w',ca dr (T j).c.floor (T j).h.n (T (j+1)).h.n β (view (T j).c (T j).h) w β' (view (T j).c (T (j+1)).h) w'->VR β' (T j).v val->wpAnyIn (W rd) m P .any ops Q fuel (listed.setIfInBounds j true) (a.put o.dst val) w':=fun β' val w' hPo hv=>by
   refine ih _ β' _ w' hsz' hcnt' ?_
   rw[hXeq]
   refine I.step hc' hlt hnX hp hfr (Nat.le_refl _) hPo (CG.trans I.size) (put_defers.trans I.defers) (fun t hwt=>?_) (fun t hwt=>?_)
   ·obtain⟨o',q1,q2⟩:=hwt
    rw[ho]at q1;cases q1
    rw[q2]at hput⊢
    rw[vD (by rw[I.size];exact hput.1),if_pos rfl]
    exact hv
   ·cases hd:o.dst with
    |none=>rfl
    |some d=>
     rw[hd]at hput
     rw[vD (by rw[I.size];exact hput.1),if_neg]
     intro e;subst e
     exact hwt ⟨o,ho,hd⟩
  unfold wpOpIn
  rw[ho]
  have good:Good P ops ((Region.before ops).getD j 0) o:=by
   rcases Aj (P:=P) (ops:=ops) ((Region.before ops).getD j 0) o with q|⟨q1,q2⟩
   ·exact q
   ·have hgd:(cD P ops (Region.before ops) j).guard=none:=by
      show(cR P ops _ (ops.getD j default)).guard=none
      rw[eR ho,q2]
    have hd:=hLj.on (by rw[hgd];rfl)
    rw[Nat.zero_add]at hd
    obtain⟨o',e1,_,e2⟩:=hd
    rw[ho]at e1;cases e1
    exact e2
  obtain⟨xo,g,q1,q2,q3,q4⟩:=good
  have hgd:(cD P ops (Region.before ops) j).guard=g:=by
   show(cR P ops _ (ops.getD j default)).guard=g
   rw[eR ho,q4]
  have hwt:dq (T j).sl g=Region.wanted o (yielded ops a.tmps):=vI (ops:=ops) (β:=β) q2 (fun t ht=>r2 t ⟨o,ho,Or.inl (by
   obtain⟨k,wt,e1,e2⟩:=ht
   unfold Oper.looksAt
   rw[e1]
   simp only[e2]
   simp)⟩) (fun q=>by have:=(hLj.off (by rw[hgd];exact q)).2.2;rwa [hgd]at this)
  cases hwn:dq (T j).sl g with
  |true=>
   have hd:=hLj.on (by rw[hgd];exact hwn)
   rw[Nat.zero_add]at hd
   obtain⟨o',e1,⟨hst,hdd⟩,_⟩:=hd
   rw[ho]at e1;cases e1
   simp only[<-hwt,hwn,if_true]
   exact(hdd β a w (hgb.mono hsub) r1 (my hng (hgb.mono hsub) q3 fun t ht=>r2 t ⟨o,ho,Or.inl (by
    unfold Oper.looksAt
    refine List.mem_append.2 (Or.inl (List.mem_filterMap.2 ⟨.tmp t,ht,rfl⟩)))⟩) r3 _ _ _ Q next)
  |false=>
   obtain⟨e1,e2,_⟩:=hLj.off (by rw[hgd];exact hwn)
   simp only[<-hwt,hwn,Bool.false_eq_true,if_false]
   refine⟨fun _ _=>trivial,next β undef w ?_ (by rw[e2];exact p9)⟩
   rw[e1];exact ca.refl r1
end
end
end Go.Proofs.YtemehfgkfidgjaaGreatDoor.Ev
