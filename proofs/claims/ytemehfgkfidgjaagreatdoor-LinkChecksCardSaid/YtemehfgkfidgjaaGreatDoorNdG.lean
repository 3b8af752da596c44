/- CoverStates, part 28 -/
import Derived.Test.YtemehfgkfidgjaaGreatDoorNdA
set_option linter.all false
namespace Go.Proofs.YtemehfgkfidgjaaGreatDoor.Ev
open Go
section
variable [Gb]
inductive Sk
 |fU (s:SC)
 |seq (a b:Sk)
 |cond (v:XV) (a b:Sk)
 |loop (a:Sk)
 |block (id:Nat) (a:Sk)
 |call (i:Nat) (l1 l2:List SR) (d f:Nat) (xs:List XV)
 |Bc (d:Nat) (x:XV) (l2:List SR)
inductive nu (P:Program):Code->Sk->Prop
 |fU {x:Code} {s:SC}:cC P x=s.den->nu P x (.fU s)
 |seq {x y:Code} {a b:Sk}:nu P x a->nu P y b->nu P (.seq x y) (.seq a b)
 |cond {w:Operand} {v:XV} {x y:Code} {a b:Sk}:cV w=some v->Dp P w=true->nu P x a->nu P y b->nu P (.cond w x y) (.cond v a b)
 |loop {x:Code} {a:Sk}:nu P x a->nu P (.loop x) (.loop a)
 |block {id:Nat} {x:Code} {a:Sk}:nu P x a->nu P (.block id x) (.block id a)
 |call {id i d f:Nat} {ops:Array Oper} {l1 l2:List SR} {xs:List XV}:As P ops i=some (d,f,xs)->(ops.toList.take i).map (cR P ops 0)=l1.map SR.den->(ops.toList.drop (i+1)).map (cR P ops 0)=l2.map SR.den->nu P (.region id ops false) (.call i l1 l2 d f xs)
 |Bc {id d:Nat} {ops:Array Oper} {x:XV} {l2:List SR}:rR P ops=some (d,x)->(ops.toList.drop 1).map (cR P ops 0)=l2.map SR.den->nu P (.region id ops false) (.Bc d x l2)
def DG (P:Program)(f nt:Nat)(rs:List (Nat×Option (Option Nat)))(s:Sk):Prop:= ∃fn b,P.funcs[f]? =some fn/\fn.ntmps=nt/\fn.body=some b/\fn.results.toList.mapM (Ac P)=some rs/\nu P b s
section
variable (dr:Prop)(P:Program)(ng:Nat)
structure C7 (nt:Nat)(s:Sk)(G:aK)(S:aJ)(Q:Ex->aK->aJ->Prop):Prop where
 get: ∀x,nu P x s->PA dr P ng nt x G S Q
structure Gw (nt:Nat)(b:Sk)(Q:Ex->aK->aJ->Prop)(e:Ex)(G:aK)(S:aJ):Prop where
 get:match e with
  | .normal=>C7 dr P ng nt b G S Q
  |e=>Q e G S
end
theorem C8 {α:Type} [DecidableEq α]: ∀{l m:List α},l.Nodup->(∀x∈l,x∈m)->l.length<=m.length
 |[],_,_,_=>Nat.zero_le _
 |x::l,m,hn,hs=>by
  rw[List.nodup_cons]at hn
  have h1:x∈m:=hs x List.mem_cons_self
  have ih:=C8 (m:=m.erase x) hn.2 fun y hy=>(List.mem_erase_of_ne (show y≠x from fun e=>hn.1 (by rw[<-e];exact hy))).2 (hs y (List.mem_cons_of_mem _ hy))
  rw[List.length_erase_of_mem h1]at ih
  have:=List.length_pos_of_mem h1
  rw[List.length_cons];omega
section
variable {dr:Prop}{P:Program}{ng nt:Nat}{X:cj}{M:Mf}{G:aK}{S:aJ}{Q:Ex->aK->aJ->Prop}{K:PV->aJ->Prop}
theorem bC {s:SC}(sd:Sd dr P ng X M)(hnt:nt<=1000000)(w:PC P X M nt s G S Q):C7 dr P ng nt (.fU s) G S Q:=⟨fun x h=>by
 cases h with
 |fU h=>exact Tu sd hnt w h⟩
theorem bB {a b:Sk}(w:C7 dr P ng nt a G S (Gw dr P ng nt b Q)):C7 dr P ng nt (.seq a b) G S Q:=⟨fun x h=>by
 cases h with
 |seq h1 h2=>exact Q9 ((w.get _ h1).mono fun e G S q=>⟨by
     have q:=q.get
     cases e with
     |normal=>exact q.get _ h2
     |exit id=>exact q
     |ret=>exact q⟩)⟩
theorem en {v:XV}{c:Bool}{a b:Sk}(sd:Sd dr P ng X M)(w:C7 dr P ng nt (bif c then a else b) G S Q)(hb:bx G v=some (.bool c):=by exact rfl):C7 dr P ng nt (.cond v a b) G S Q:=⟨fun x h=>by
 cases h with
 |cond h1 h2 h3 h4=>exact Oe sd.gs (b:=c) (by
     cases c with
     |true=>exact w.get _ h3
     |false=>exact w.get _ h4) hb h1 h2⟩
theorem bc {id:Nat}{a:Sk}(w:C7 dr P ng nt a G S (LS id Q)):C7 dr P ng nt (.block id a) G S Q:=⟨fun x h=>by
 cases h with
 |block h=>exact LR (w.get _ h)⟩
theorem y9 {s:Sk}{G':aK}{S' Z:aJ}{r:Nat->Nat}(hG:jr Z G G')(hS:ZS Z r S S')(w:C7 dr P ng nt s G' S' Q):C7 dr P ng nt s G S Q:=⟨fun x h=>Gt hG hS (w.get x h)⟩
theorem kn {ι:Type}{b:Sk}(Gf:ι->aK)(Sf:ι->aJ)(I:ι->Prop)(μ:ι->Nat)(i0:ι)(h0:I i0)(Z:aJ)(r:Nat->Nat)(hG:jr Z G (Gf i0))(hS:ZS Z r S (Sf i0))(step: ∀i,I i->C7 dr P ng nt b (Gf i) (Sf i) (Fa Gf Sf I μ i Q)):C7 dr P ng nt (.loop b) G S Q:=⟨fun x h=>by
 cases h with
 |loop h=>exact Of Gf Sf I μ i0 h0 Z r hG hS fun i hi=>(step i hi).get _ h⟩
theorem mg {i d f:Nat}{l1 l2:List SR}{xs:List XV}(sd:Sd dr P ng X M)(hnt:nt<=1000000)(w:PG P X M nt l1 G S fun G1 S1=> ∃vs,tA G1 xs=some vs/\tB dr P ng f vs S1 fun v S2=>PG P X M nt l2 ((d,v)::G1) S2 fun G3 S3=>Q .normal G3 S3)(hd:Nat.blt d nt=true:=by exact rfl):C7 dr P ng nt (.call i l1 l2 d f xs) G S Q:=⟨fun x h=>by
 cases h with
 |call h1 h2 h3=>exact Og i l1 l2 sd hnt w h1 hd h2 h3⟩
theorem uI {d p q iid mid since last ck:Nat}{x:XV}{l2:List SR}{seen:List Nat}{l:List (Int×PV×Nat)}(sd:Sd dr P ng X M)(hnt:nt<=1000000)
    (done:(∀e∈l,e.2.2∈seen)->PG P X M nt l2 ((d,.bn [.bool false])::G) S fun G S=>Q .normal G S)
    (more: ∀k v st,(k,v,st)∈l->st∉seen->PG P X M nt l2 ((d,.bn [.bool true,.int .i64 k,v])::G) ((p,some iid,.iter mid since (seen++[st]) ck)::S) fun G S=>Q .normal G S)
    (hold: ∀e∈l,e.2.2<since) (hsc:since<=last) (hS:aC S p=some (some iid,.iter mid since seen last)) (hM:aC S q=some (some mid,.dA l ck))
    (hx:bx G x=some (.ptr p iid 0):=by exact rfl) (hd:Nat.blt d nt=true:=by exact rfl):C7 dr P ng nt (.Bc d x l2) G S Q:=⟨fun c h=>by
 cases h with
 |Bc h1 h2=>exact LV l2 sd hnt done more hold hsc hS hM h1 hx hd h2⟩
theorem JU {d p iid t n:Nat}{x:XV}{l2:List SR}{f:KT t->Option PV}{o:Option (KT t)}(sd:Sd dr P ng X M)(hnt:nt<=1000000)
    (done:n=0->PG P X M nt l2 ((d,.bn [.bool false])::G) S fun G S=>Q .normal G S)
    (more: ∀k v m,n=m+1->f k=some v->PG P X M nt l2 ((d,.bn [.bool true,Ui t k,v])::G) ((p,some iid,.D1 t f m (some k))::S) fun G S=>Q .normal G S)
    (hS:aC S p=some (some iid,.D1 t f n o)) (hx:bx G x=some (.ptr p iid 0):=by exact rfl) (hd:Nat.blt d nt=true:=by exact rfl):C7 dr P ng nt (.Bc d x l2) G S Q:=⟨fun c h=>by
 cases h with
 |Bc h1 h2=>exact LW l2 sd hnt done more hS h1 hx hd h2⟩
theorem dD {b:Sk}(w:C7 dr P ng nt b G S Q):Gw dr P ng nt b Q .normal G S:=⟨w⟩
theorem ft {b:Sk}{id:Nat}(w:Q (.exit id) G S):Gw dr P ng nt b Q (.exit id) G S:=⟨w⟩
theorem Hh {b:Sk}(w:Q .ret G S):Gw dr P ng nt b Q .ret G S:=⟨w⟩
theorem Bl {f nt:Nat}{rs:List (Nat×Option (Option Nat))}{s:Sk}{args:List PV}(sd:Sd dr P ng X M)(h:DG P f nt rs s)(hnt:nt<=1000000)(w:C7 dr P ng nt s (Et args 0 []) S fun e G S=>(e= .normal\/e= .ret)/\zJ G S rs/\ ∃vs,u7 G S rs=some vs/\K (zK vs) S)(hle:args.length<=nt:=by exact Nat.le_of_ble_eq_true rfl):tB dr P ng f args S K:=by
 obtain⟨fn,b,h1,h2,h3,h4,h5⟩:=h
 exact Ra sd h1 (w.get b h5) h2 h3 h4 hnt hle
theorem Bp {f:Nat}{args:List PV}{L S0:aJ}{K0:PV->aJ->Prop}(hL: ∀p x,aC L p=some x->p<1000)(h0:wS S0)(w:tB dr P ng f args S0 fun v S'=>wS S'/\K0 v S')(hk: ∀v S1,K0 v S1->K v (L++S1)):tB dr P ng f args (L++S0) K:=⟨fun c h F azs s r=>by
 have inL: ∀{S:aJ},wS S-> ∀p x,aC (L++S) p=some x->(p<1000/\aC L p=some x)\/(¬p<1000/\aC S p=some x):=fun {S} hS p x e=>by
  rw[de]at e
  cases hl:aC L p with
  |some y=>rw[hl]at e;cases e;exact Or.inl ⟨hL p _ hl,rfl⟩
  |none=>
   rw[hl]at e
   refine Or.inr ⟨fun q=>?_,e⟩
   have:=hS p q
   simp only at e
   rw[this]at e;cases e
 have toL: ∀{S:aJ},wS S-> ∀p x,aC S p=some x->aC (L++S) p=some x:=fun {S} hS p x e=>by
  have hp: ¬p<1000:=fun q=>by rw[hS p q]at e;cases e
  have:aC L p=none:=by
   cases hl:aC L p with
   |none=>rfl
   |some y=>exact absurd (hL p y hl) hp
  rw[de,this];exact e
 have ofL: ∀{S:aJ},∀p x,aC L p=some x->aC (L++S) p=some x:=fun {S} p x e=>by rw[de,e]
 have s0:St c h F S0:=⟨s.cx,s.gl,s.fr,fun p id b e hb=>s.own p id b (toL h0 _ _ e) hb,fun p q id b d e1 e2=>s.inj p q id b d (toL h0 _ _ e1) (toL h0 _ _ e2)⟩
 have apart: ∀p id b,aC L p=some (some id,b)->b≠ .dead-> ¬Live S0 id:=fun p id b e hb ⟨q,d,e2,hd⟩=>by
  have h1:=s.inj p q id b d (ofL _ _ e) (toL h0 _ _ e2) hb hd
  subst h1
  have:=hL _ _ e
  rw[h0 _ this]at e2;cases e2
 refine(w.run c h F azs s0 r).mono fun v h' ⟨p,S1,F',a1,a2,a3,l1,a4⟩=>⟨p,L++S1,F',⟨a1.le,a1.sub,fun id hid hl=>a1.same id hid fun⟨q,b,e,hb⟩=>hl ⟨q,b,toL h0 _ _ e,hb⟩,fun id q=>?_,fun id ⟨q,b,e,hb⟩=>?_⟩,⟨a2.cx,a2.gl,a2.fr,fun q id b e hb=>?_,fun q1 q2 id b d e1 e2 hb hd=>?_⟩,a3,hk _ _ a4⟩
 ·rcases a1.rU id q with y|y|⟨q,b,e,hb⟩
  ·exact Or.inl y
  ·exact Or.inr (Or.inl y)
  ·exact Or.inr (Or.inr ⟨q,b,toL h0 _ _ e,hb⟩)
 ·rcases inL l1 _ _ e with⟨_,y⟩|⟨_,y⟩
  ·exact Or.inr ⟨q,b,ofL _ _ y,hb⟩
  ·rcases a1.rV id ⟨q,b,y,hb⟩with z|⟨q2,b2,z,hb2⟩
   ·exact Or.inl z
   ·exact Or.inr ⟨q2,b2,toL h0 _ _ z,hb2⟩
 ·rcases inL l1 _ _ e with⟨_,y⟩|⟨_,y⟩
  ·obtain⟨g1,g2,g3,g4,ab,g5,g6⟩:=s.own q id b (ofL _ _ y) hb
   have hap:=apart q id b y hb
   refine⟨Nat.lt_of_lt_of_le g1 a1.le,g2,g3,fun z=>?_,ab,(a1.same id g1 hap).trans g5,g6.mono fun i z=>s0.keep a1 i z⟩
   rcases a1.rU id z with z|z|z
   ·exact g4 z
   ·omega
   ·exact hap z
  ·exact a2.own q id b y hb
 ·have mix: ∀q1 q2 b d,aC L q1=some (some id,b)->aC S1 q2=some (some id,d)->b≠ .dead->d≠ .dead->False:=fun q1 q2 b d e1 e2 hb hd=>by
    rcases a1.rV id ⟨q2,d,e2,hd⟩with z|z
    ·have:=(s.own q1 id b (ofL _ _ e1) hb).1;omega
    ·exact apart q1 id b e1 hb z
  rcases inL l1 _ _ e1 with⟨_,y1⟩|⟨_,y1⟩<;>rcases inL l1 _ _ e2 with⟨_,y2⟩|⟨_,y2⟩
  ·exact s.inj q1 q2 id b d (ofL _ _ y1) (ofL _ _ y2) hb hd
  ·exact(mix _ _ _ _ y1 y2 hb hd).elim
  ·exact(mix _ _ _ _ y2 y1 hd hb).elim
  ·exact a2.inj q1 q2 id b d y1 y2 hb hd⟩
theorem D0 {d:Nat}{x:XV}{t:Nat}{f:KT t->Option PV}(U:List (KT t))(hU: ∀k,f k≠none->k∈U)(hk: ∀i n,n<=U.length->K (.ptr d i 0) ((d,some i,.D1 t f n none)::S))(hx:bx G x=some (.nC t f):=by exact rfl):PO P X M d (.range x) G S K:=⟨fun c h F env s r=>by
 obtain⟨a,e1,q1⟩:=r.ev hx
 cases q1 with
 |nC _ _ id l ck g1 g2 w0 w1 w2=>
  obtain⟨s1,x1⟩:=s.new d (RB.D1 (h:=h) (F:=F) t f _ none id ck [] l g1 g2 w0 w1 w2 rfl (fun k e=>by cases e))
  have hn:(l.filter fun e=>!([]:List Nat).contains e.2.2).length<=U.length:=by
   refine Nat.le_trans (List.length_filter_le _ _) ?_
   rw[<-List.length_map (f:=Prod.fst)]
   refine C8 w0.1 fun k hk=>hU k fun q=>?_
   obtain⟨⟨k',a,st⟩,m,rfl⟩:=List.mem_map.1 hk
   obtain⟨i,hi⟩:=kL w0.1 m
   rw[(w1 _).2 q]at hi;cases hi
  refine bd (v:= .ptr h.n 0) (h':=h.new (.iter (some id) ck [] ck)) (fun sl hh call k'=>?_) ⟨_,_,F,x1,s1,.ptr _ _ _,hk h.n _ hn⟩
  simp only[SO.den,ry,hh.ev e1,bW (s.fr id g1).2,g2,eS (Nat.lt_succ_self _)]⟩
end
end
inductive Ol
 |fU (x:XC)
 |seq (a b:Ol)
 |cond (v:XV) (a b:Ol)
 |loop (a:Ol)
 |block (id:Nat) (a:Ol)
 |call (i:Nat) (l1 l2:List XR) (d f:Nat) (xs:List XV)
 |Bc (d:Nat) (x:XV) (l2:List XR)
def Sk.Gy:Sk->Ol
 | .fU s=> .fU s.den
 | .seq a b=> .seq a.Gy b.Gy
 | .cond v a b=> .cond v a.Gy b.Gy
 | .loop a=> .loop a.Gy
 | .block id a=> .block id a.Gy
 | .call i l1 l2 d f xs=> .call i (l1.map SR.den) (l2.map SR.den) d f xs
 | .Bc d x l2=> .Bc d x (l2.map SR.den)
def jg (P:Program):Sk->Code->Option Ol
 | .fU _,x=>some (.fU (cC P x))
 | .seq a b,.seq x y=>match jg P a x with
  |some u=>match jg P b y with
   |some v=>some (.seq u v)
   |none=>none
  |none=>none
 | .cond _ a b,.cond w x y=>match cV w with
  |some v=>match Dp P w with
   |true=>match jg P a x with
    |some u=>match jg P b y with
     |some z=>some (.cond v u z)
     |none=>none
    |none=>none
   |false=>none
  |none=>none
 | .loop a,.loop x=>(jg P a x).map .loop
 | .block _ a,.block id x=>(jg P a x).map (.block id)
 | .call i _ _ _ _ _,.region _ ops false=>match As P ops i with
  |some r=>some (.call i ((ops.toList.take i).map (cR P ops 0)) ((ops.toList.drop (i+1)).map (cR P ops 0)) r.1 r.2.1 r.2.2)
  |none=>none
 | .Bc _ _ _,.region _ ops false=>match rR P ops with
  |some r=>some (.Bc r.1 r.2 ((ops.toList.drop 1).map (cR P ops 0)))
  |none=>none
 |_,_=>none
theorem kN {P:Program}: ∀{s:Sk} {x:Code},jg P s x=some s.Gy->nu P x s
 | .fU s,x,h=>by
  have h:some (Ol.fU (cC P x))=some (Ol.fU s.den):=h
  injection h with h
  injection h with h
  exact .fU h
 | .seq a b,x,h=>by
  cases x with
  |seq x y=>
   simp only[jg,Sk.Gy]at h
   split at h
   ·rename_i u hu
    split at h
    ·rename_i v hv
     injection h with h
     injection h with h1 h2
     subst h1 h2
     exact .seq (kN hu) (kN hv)
    ·cases h
   ·cases h
  |_=>simp[jg]at h
 | .cond v a b,x,h=>by
  cases x with
  |cond w x y=>
   simp only[jg,Sk.Gy]at h
   split at h
   ·rename_i v' hv'
    split at h
    ·rename_i hg
     split at h
     ·rename_i u hu
      split at h
      ·rename_i z hz
       injection h with h
       injection h with h0 h1 h2
       subst h0 h1 h2
       exact .cond hv' hg (kN hu) (kN hz)
      ·cases h
     ·cases h
    ·cases h
   ·cases h
  |_=>simp[jg]at h
 | .loop a,x,h=>by
  cases x with
  |loop x=>
   simp only[jg,Sk.Gy,Option.map_eq_some_iff]at h
   obtain⟨u,h1,h2⟩:=h
   injection h2 with h2
   subst h2
   exact .loop (kN h1)
  |_=>simp[jg]at h
 | .block id a,x,h=>by
  cases x with
  |block id' x=>
   simp only[jg,Sk.Gy,Option.map_eq_some_iff]at h
   obtain⟨u,h1,h2⟩:=h
   injection h2 with h0 h2
   subst h0 h2
   exact .block (kN h1)
  |_=>simp[jg]at h
 | .call i l1 l2 d f xs,x,h=>by
  cases x with
  |region id ops dr=>
   cases dr with
   |true=>simp[jg]at h
   |false=>
    simp only[jg,Sk.Gy]at h
    split at h
    ·rename_i r hr
     injection h with h
     injection h with _ h1 h2 h3 h4 h5
     exact .call (by rw[hr];exact congrArg some (Prod.ext h3 (Prod.ext h4 h5))) h1 h2
    ·cases h
  |_=>simp[jg]at h
 | .Bc d y l2,x,h=>by
  cases x with
  |region id ops dr=>
   cases dr with
   |true=>simp[jg]at h
   |false=>
    simp only[jg,Sk.Gy]at h
    split at h
    ·rename_i r hr
     injection h with h
     injection h with h1 h2 h3
     exact .Bc (by rw[hr];exact congrArg some (Prod.ext h1 h2)) h3
    ·cases h
  |_=>simp[jg]at h
def Tw (P:Program)(f:Nat)(s:Sk):Option (Nat×Option (List (Nat×Option (Option Nat)))×Option Ol):=match P.funcs[f]? with
 |some fn=>match fn.body with
  |some b=>some (fn.ntmps,fn.results.toList.mapM (Ac P),jg P s b)
  |none=>none
 |none=>none
theorem Bd {P:Program}{f nt:Nat}{rs:List (Nat×Option (Option Nat))}{s:Sk}(h:Tw P f s=some (nt,some rs,some s.Gy)):DG P f nt rs s:=by
 unfold Tw at h
 split at h
 ·rename_i fn hf
  split at h
  ·rename_i b hb
   injection h with h
   injection h with h1 h
   injection h with h2 h3
   exact⟨fn,b,hf,h1,hb,h2,kN h3⟩
  ·cases h
 ·cases h
end Go.Proofs.YtemehfgkfidgjaaGreatDoor.Ev
