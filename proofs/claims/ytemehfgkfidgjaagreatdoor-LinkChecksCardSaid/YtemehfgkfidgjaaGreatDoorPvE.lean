/- CoverStates, part 15 -/
import Derived.Test.YtemehfgkfidgjaaGreatDoorPvC
set_option linter.all false
namespace Go.Proofs.YtemehfgkfidgjaaGreatDoor.Ev
open Go
variable [Gb]
def dn:List (Int×PV×Nat)->Int->Option PV
 |[],_=>none
 |e::l,k=>if k=e.1 then some e.2.1 else dn l k
theorem vZ {h:H}{F:Nat->Prop}: ∀{l:List (Int×PV×Nat)} {la:List (Int×AV×Nat)},la.map (fun e=>(e.1,e.2.2))=l.map (fun e=>(e.1,e.2.2))->Rs h F (l.map fun e=>e.2.1) (la.map fun e=>e.2.1)->(∀k:KT 1,eY k la=none↔dn l k=none)/\ ∀(k:KT 1) i v,eY k la=some (i,v)->R h F ((dn l k).getD .eG) v
 |[],[],_,_=>⟨fun k=>⟨fun _=>rfl,fun _=>rfl⟩,fun k i v e=>by cases e⟩
 |[],_::_,e,_=>by simp at e
 |_::_,[],e,_=>by simp at e
 |(a,p,s)::l,(b,x,u)::la,e,r=>by
  simp only[List.map_cons,List.cons.injEq,Prod.mk.injEq]at e
  obtain⟨⟨rfl,rfl⟩,e⟩:=e
  simp only[List.map_cons]at r
  cases r with
  |cons _ _ _ _ r1 r2=>
   obtain⟨i1,i2⟩:=vZ e r2
   refine⟨fun k=>?_,fun k i v w=>?_⟩
   ·unfold eY dn
    by_cases q:k=b
    ·rw[if_pos q,if_pos q];simp
    ·rw[if_neg q,if_neg q,<-i1 k];simp
   ·unfold eY at w
    unfold dn
    by_cases q:k=b
    ·rw[if_pos q]at w⊢;cases w;exact r1
    ·rw[if_neg q]at w⊢
     cases hf:eY k la with
     |none=>rw[hf]at w;cases w
     |some y=>rw[hf]at w;cases w;exact i2 k y.1 y.2 hf
/-! what lies in the store becomes data -/
mutual
inductive Zf (S:aJ):PV->PV->Prop
 |refl (p:PV):Zf S p p
 |own (q:Nat) (aT:Option Nat) (m e n:Nat) (rows rows':Nat->List PV):aC S q=some (aT,.arr e n rows)->m<=n->(∀i,i<m->dH S (rows i) (rows' i))->Zf S (.own q aT m e) (.tr e m rows')
 |ptr (q id off:Nat) (vs vs':List PV):aC S q=some (some id,.cells vs)->dH S vs vs'->Zf S (.ptr q id off) (.fp vs' off)
 |gC (q id t:Nat) (f:KT t->Option PV):aC S q=some (some id,.map t f)->Zf S (.gC q id) (.nC t f)
 |MX (q id ck:Nat) (l l':List (Int×PV×Nat)):aC S q=some (some id,.dA l ck)->l'.map (fun e=>(e.1,e.2.2))=l.map (fun e=>(e.1,e.2.2))->dH S (l.map fun e=>e.2.1) (l'.map fun e=>e.2.1)->Zf S (.gC q id) (.nC 1 (dn l'))
 |aE (e:Nat) (rows:Nat->List PV):Zf S .aE (.tr e 0 rows)
 |tr (e n:Nat) (rows rows':Nat->List PV):(∀i,i<n->dH S (rows i) (rows' i))->Zf S (.tr e n rows) (.tr e n rows')
 |fp (off:Nat) (row row':List PV):dH S row row'->Zf S (.fp row off) (.fp row' off)
 |kR (q:Nat) (e:Nat):Zf S .aE (.own q none 0 e)
 |agg (ps qs:List PV):dH S ps qs->Zf S (.agg ps) (.agg qs)
 |bn (ps qs:List PV):dH S ps qs->Zf S (.bn ps) (.bn qs)
 |fn (f:Nat) (ps qs:List PV):dH S ps qs->Zf S (.fn f ps) (.fn f qs)
 |Uv (q q':Nat) (aT:Option Nat) (n e:Nat):Zf S (.own q aT n e) (.own q' aT n e)
 |Hs (q q' id off:Nat):Zf S (.ptr q id off) (.ptr q' id off)
 |VV (q q' id i off e:Nat):Zf S (.gu q id i off e) (.gu q' id i off e)
 |PX (q q' id:Nat):Zf S (.gC q id) (.gC q' id)
inductive dH (S:aJ):List PV->List PV->Prop
 |nil:dH S [] []
 |cons (p q:PV) (ps qs:List PV):Zf S p q->dH S ps qs->dH S (p::ps) (q::qs)
end
theorem dH.refl {S:aJ}: ∀(l:List PV),dH S l l
 |[]=> .nil
 |p::l=> .cons p p l l (.refl p) (dH.refl l)
theorem dH.of_eq {S:aJ}{l m:List PV}(e:l=m):dH S l m:=e▸dH.refl l
theorem dH.len {S:aJ}: ∀{ps qs:List PV},dH S ps qs->qs.length=ps.length
 |_,_,.nil=>rfl
 |_,_,.cons p q ps qs _ r=>by simp[dH.len r]
def l8 (F:Nat->Prop)(S:aJ):Nat->Prop:=fun id=>F id\/Live S id
theorem Zf.lay {S S0:aJ}{c:C}{h:H}{F:Nat->Prop}(st:St c h F S0)(hS: ∀q x,aC S q=some x->aC S0 q=some x){p q:PV}(z:Zf S p q): ∀a,R h F p a->R h (l8 F S) q a:=
 Zf.rec (motive_1:=fun p q _=> ∀a,R h F p a->R h (l8 F S) q a) (motive_2:=fun ps qs _=> ∀azs,Rs h F ps azs->Rs h (l8 F S) qs azs)
  (fun p a r=>r.mono fun id q=>⟨Or.inl q,rfl⟩)
  (fun q aT m e n rows rows' e1 hle _ ih a r=>by
   cases r with
   |own _ id _ _ cap hbn=>
    obtain⟨_,h1,_,ab,h2,h3⟩:=st.at_ (hS _ _ e1) (fun q=>by cases q)
    cases h3 with
    |arr _ _ _ azs q1 q2 q3=>
     have:=Nat.mul_le_mul_right e hle
     have hl:Live S id:=⟨q,_,e1,fun q=>by cases q⟩
     have hrow: ∀i,i<m->Rs h (l8 F S) (rows' i) ((azs.drop (0+i*e)).take e):=fun i hi=>by
      rw[Nat.zero_add];exact ih i hi _ (q3 i om)
     rcases Nat.eq_zero_or_pos m with hm|hm
     ·subst hm
      exact .tX _ _ _ (Or.inr (Or.inr ⟨id,0,cap,azs,rfl,Or.inr hl,h2,Nat.zero_le _⟩))
     ·refine .tr _ _ _ id 0 cap azs ⟨hm,hbn⟩ (Or.inr hl) h2 om (fun i hi=>?_) hrow
      have w1:=(hrow i hi).len
      have w2:=Nat.mul_le_mul_right e (show i+1<=n by omega)
      rw[Nat.succ_mul]at w2
      rw[List.length_take,List.length_drop]at w1
      omega
   |hY=>exact .tX _ _ _ (Or.inl rfl))
  (fun q id off vs vs' e1 fz ih a r=>by
   cases r
   obtain⟨_,h1,_,ab,h2,h3⟩:=st.at_ (hS _ _ e1) (fun q=>by cases q)
   cases h3 with
   |cells _ azs q1=>
    have q2:=ih _ q1
    have w:=q2.len
    have q3:=R.fp (F:=l8 F S) vs' off id 0 azs (Or.inr ⟨q,_,e1,fun q=>by cases q⟩) h2 om (by rw[List.drop_zero,<-w,List.take_length];exact q2)
    rwa [Nat.zero_add]at q3)
  (fun q id t f e1 a r=>by
   cases r
   obtain⟨_,h1,_,ab,h2,h3⟩:=st.at_ (hS _ _ e1) (fun q=>by cases q)
   cases h3 with
   |map _ _ l ck q0 q1 q2=>exact .nC t f id l ck (Or.inr ⟨q,_,e1,fun q=>by cases q⟩) h2 q0 q1 fun k i v e=>(q2 k i v e).mono fun id q=>⟨Or.inl q,rfl⟩)
  (fun q id ck l l' e1 e2 _ ih a r=>by
   cases r
   obtain⟨_,h1,_,ab,h2,h3⟩:=st.at_ (hS _ _ e1) (fun q=>by cases q)
   cases h3 with
   |dA _ la _ q0 q1 q2=>
    obtain⟨i1,i2⟩:=vZ (q1.trans e2.symm) (ih _ q2)
    exact .nC 1 _ id la ck (Or.inr ⟨q,_,e1,fun q=>by cases q⟩) h2 q0 i1 i2)
  (fun e rows a r=>by cases r;exact .tX _ _ _ (Or.inl rfl))
  (fun e n rows rows' _ ih a r=>by
   cases r with
   |tX _ _ _ q=>
    refine .tX _ _ _ ?_
    rcases q with q|q|⟨id,off,cap,vs,q1,q2,q3,q4⟩
    ·exact Or.inl q
    ·exact Or.inr (Or.inl q)
    ·exact Or.inr (Or.inr ⟨id,off,cap,vs,q1,Or.inl q2,q3,q4⟩)
   |tr _ _ _ id off cap vs g0 g1 g2 g3 g4 g5=>
    refine .tr _ _ _ id off cap vs g0 (Or.inl g1) g2 g3 (fun i hi=>?_) fun i hi=>ih i hi _ (g5 i hi)
    have w1:=(ih i hi _ (g5 i hi)).len
    have w2:=(g5 i hi).len
    rw[<-w1,w2];exact g4 i hi)
  (fun off row row' _ ih a r=>by
   cases r with
   |fp _ _ id base vs g1 g2 g3 g4=>
    have q:=ih _ g4
    have w:=q.len
    have w2:=g4.len
    have e:row'.length=row.length:=by omega
    exact .fp row' off id base vs (Or.inl g1) g2 om (by rw[e];exact q))
  (fun q e a r=>by cases r;exact .hY _ _)
  (fun ps qs _ ih a r=>by cases r with|agg _ azs q=>exact .agg _ _ (ih _ q))
  (fun ps qs _ ih a r=>by cases r with|bn _ azs q=>exact .bn _ _ (ih _ q))
  (fun f ps qs _ ih a r=>by cases r with|fn _ _ azs q=>exact .fn _ _ _ (ih _ q))
  (fun q q' aT n e a r=>by
   cases r with
   |own _ id _ _ cap h=>exact .own _ _ _ _ _ h
   |hY=>exact .hY _ _)
  (fun q q' id off a r=>by cases r;exact .ptr _ _ _)
  (fun q q' id i off e a r=>by cases r;exact .gu _ _ _ _ _)
  (fun q q' id a r=>by cases r;exact .gC _ _)
  (fun azs r=>by cases r;exact .nil)
  (fun p q ps qs _ _ i1 i2 azs r=>by cases r with|cons _ a _ azs r1 r2=>exact .cons _ _ _ _ (i1 _ r1) (i2 _ r2)) z
theorem dH.lay {S S0:aJ}{c:C}{h:H}{F:Nat->Prop}(st:St c h F S0)(hS: ∀q x,aC S q=some x->aC S0 q=some x): ∀{ps qs:List PV} {azs:List AV},dH S ps qs->Rs h F ps azs->Rs h (l8 F S) qs azs
 |_,_,_,.nil,r=>by cases r;exact .nil
 |_,_,_,.cons p q ps qs z zs,r=>by cases r with|cons _ a _ azs r1 r2=>exact .cons _ _ _ _ (z.lay st hS a r1) (dH.lay st hS zs r2)
abbrev Cv:=Zf []
abbrev Dq:=dH []
theorem Df {F:Nat->Prop}{id:Nat}(q:l8 F [] id):F id:=by
 rcases q with q|q
 ·exact q
 ·exact(bQ q).elim
theorem Zf.cv {c:C}{h:H}{F:Nat->Prop}{S:aJ}(st:St c h F S){p q:PV}(z:Cv p q){a:AV}(r:R h F p a):R h F q a:=(z.lay st (fun q x e=>by cases e) a r).mono fun id q=>⟨Df q,rfl⟩
theorem dH.cv {c:C}{h:H}{F:Nat->Prop}{S:aJ}(st:St c h F S){ps qs:List PV}(z:Dq ps qs){azs:List AV}(r:Rs h F ps azs):Rs h F qs azs:=(z.lay st (fun q x e=>by cases e) r).mono fun id q=>⟨Df q,rfl⟩
inductive wB:PB->PB->Prop
 |refl (b:PB):wB b b
 |cells (ps qs:List PV):Dq ps qs->wB (.cells ps) (.cells qs)
 |arr (e n m:Nat) (r1 r2:Nat->List PV):m<=n->(∀i,i<m->Dq (r1 i) (r2 i))->wB (.arr e n r1) (.arr e m r2)
 |map (t:Nat) (f g:KT t->Option PV):(∀k,f k=g k)->wB (.map t f) (.map t g)
theorem wB.lay {c:C}{h:H}{F:Nat->Prop}{S:aJ}(st:St c h F S){b d:PB}(z:wB b d){ab:AB}(r:RB h F b ab):RB h F d ab:=by
 cases z with
 |refl=>exact r
 |cells ps qs z=>cases r with|cells _ azs q=>exact .cells _ _ (z.cv st q)
 |arr e n m r1 r2 hm z=>
  cases r with
  |arr _ _ _ azs q1 q2 q3=>exact .arr _ _ _ _ (Nat.le_trans (Nat.mul_le_mul_right e hm) q1) (fun i hi=>by rw[(z i hi).len];exact q2 i om) fun i hi=>(z i hi).cv st (q3 i om)
 |map t f g z=>have:f=g:=funext z;subst this;exact r
theorem wB.dead {b d:PB}(z:wB b d)(h:d≠ .dead):b≠ .dead:=by
 cases z<;>first|exact h|(intro q;cases q)
inductive je (G:aK):aK->Prop
 |nil:je G []
 |cons {t:Nat} {p q:PV} {G':aK}:fh G t=some p->Cv p q->je G G'->je G ((t,q)::G')
inductive kd (S:aJ):aJ->Prop
 |nil:kd S []
 |cons {q:Nat} {aT:Option Nat} {b d:PB} {S':aJ}:aC S q=some (aT,b)->wB b d->kd S S'->kd S ((q,aT,d)::S')
 |kR {q:Nat} {d:PB} {S':aJ}:kd S S'->kd S ((q,none,d)::S')
theorem je.get {G G':aK}(s:je G G'): ∀{t:Nat} {q:PV},fh G' t=some q-> ∃p,fh G t=some p/\Cv p q:=by
 induction s with
 |nil=>intro t q e;cases e
 | @cons k p u G' h1 h2 _ ih=>
  intro t q e
  simp only[fh]at e
  cases hb:Nat.beq k t with
  |true=>rw[hb]at e;cases e;rw[<-Nat.eq_of_beq_eq_true hb];exact⟨p,h1,h2⟩
  |false=>rw[hb]at e;exact ih e
theorem kd.get {S S':aJ}(s:kd S S'): ∀{p id:Nat} {d:PB},aC S' p=some (some id,d)-> ∃b,aC S p=some (some id,b)/\wB b d:=by
 induction s with
 |nil=>intro p id d e;cases e
 | @cons k aT b u S' h1 h2 _ ih=>
  intro p id d e
  rw[aH]at e
  by_cases hb:k=p
  ·rw[if_pos hb]at e;cases e;rw[<-hb];exact⟨b,h1,h2⟩
  ·rw[if_neg hb]at e;exact ih e
 | @kR k u S' _ ih=>
  intro p id d e
  rw[aH]at e
  by_cases hb:k=p
  ·rw[if_pos hb]at e;cases e
  ·rw[if_neg hb]at e;exact ih e
theorem kd.lay {c:C}{h:H}{F:Nat->Prop}{S S':aJ}(z:kd S S')(s:St c h F S):St c h F S'/\Ext h F S h F S':=by
 refine⟨⟨s.cx,s.gl,s.fr,fun p id d e hd=>?_,fun p q id b d e1 e2 hb hd=>?_⟩,Nat.le_refl _,fun _ q=>q,fun _ _ _=>rfl,fun _ q=>Or.inl q,fun id ⟨p,d,e,hd⟩=>?_⟩
 ·obtain⟨b,e1,cv⟩:=z.get e
  obtain⟨g1,g2,g3,g4,ab,g5,g6⟩:=s.own p id b e1 (cv.dead hd)
  exact⟨g1,g2,g3,g4,ab,g5,cv.lay s g6⟩
 ·obtain⟨b1,f1,c1⟩:=z.get e1
  obtain⟨b2,f2,c2⟩:=z.get e2
  exact s.inj p q id b1 b2 f1 f2 (c1.dead hb) (c2.dead hd)
 ·obtain⟨b,e1,cv⟩:=z.get e
  exact Or.inr ⟨p,b,e1,cv.dead hd⟩
theorem je.lay {c:C}{h:H}{F:Nat->Prop}{S:aJ}(s:St c h F S){G G':aK}{env:bo}(z:je G G')(r:RE h F G env):RE h F G' env:=⟨fun t q e=>by
 obtain⟨p,e1,cv⟩:=z.get e
 obtain⟨a,e2,r1⟩:=r.at_ t p e1
 exact⟨a,e2,cv.cv s r1⟩,r.gl⟩
/-! flat values -/
mutual
def PV.flat:PV->Bool
 | .bool _| .int _ _| .str _| .eG| .aE| .dt| .jb=>true
 | .fn _ cs=>PV.nL cs
 | .agg vs=>PV.nL vs
 | .bn vs=>PV.nL vs
 |_=>false
def PV.nL:List PV->Bool
 |[]=>true
 |p::ps=>p.flat&&PV.nL ps
end
theorem R.flat {h h':H}{F F':Nat->Prop}{p:PV}{a:AV}(r:R h F p a):p.flat=true->R h' F' p a:=
 R.rec (motive_1:=fun p a _=>p.flat=true->R h' F' p a) (motive_2:=fun ps azs _=>PV.nL ps=true->Rs h' F' ps azs)
  (fun b _=> .bool b) (fun k n _=> .int k n) (fun s _=> .str s) (fun _=> .eG) (fun _=> .aE) (fun _=> .dt) (fun _=> .jb)
  (fun _ _ _ q=>by simp[PV.flat]at q) (fun _ _ _ _ _ q=>by simp[PV.flat]at q) (fun _ _ _ _ _ _ q=>by simp[PV.flat]at q) (fun _ _ q=>by simp[PV.flat]at q) (fun _ _ _ q=>by simp[PV.flat]at q) (fun _ _ q=>by simp[PV.flat]at q)
  (fun _ _ _ _ _ _ _ _ _ _ q=>by simp[PV.flat]at q) (fun _ _ _ _ q=>by simp[PV.flat]at q) (fun _ _ _ _ _ _ _ _ _ _ _ _ _ _ q=>by simp[PV.flat]at q) (fun _ _ _ _ _ _ _ _ _ _ _ q=>by simp[PV.flat]at q)
  (fun f ps azs _ ih q=> .fn f ps azs (ih (by simpa[PV.flat]using q))) (fun ps azs _ ih q=> .agg ps azs (ih (by simpa[PV.flat]using q))) (fun ps azs _ ih q=> .bn ps azs (ih (by simpa[PV.flat]using q)))
  (fun _=> .nil) (fun p a ps azs _ _ i1 i2 q=>by
   simp only[PV.nL,Bool.and_eq_true]at q
   exact .cons _ _ _ _ (i1 q.1) (i2 q.2)) r
section
variable {P:Program}{X:cj}{M:Mf}{d:Nat}{G:aK}{S:aJ}{K:PV->aJ->Prop}{op:SO}
/-! calls -/
theorem St.frame {c:C}{h h':H}{F F':Nat->Prop}{S S':aJ}(s:St c h F S)(x:Ext h F [] h' F' S')(hc:Cx c h')(hf: ∀id,F' id->id<h'.n/\seen c.cd id=true):St c h' F' S/\Ext h F S h' F' S:=by
 refine⟨⟨hc,s.gl.mono fun i q=>⟨x.sub i q,x.same i (s.fr i q).1 bQ⟩,hf,fun p id b e hb=>?_,s.inj⟩,x.le,x.sub,fun id hid _=>x.same id hid bQ,fun id q=>?_,fun id q=>Or.inr q⟩
 ·obtain⟨g1,g2,g3,g4,ab,g5,g6⟩:=s.own p id b e hb
  refine⟨Nat.lt_of_lt_of_le g1 x.le,g2,g3,fun q=>?_,ab,(x.same id g1 bQ).trans g5,g6.mono fun i q=>⟨x.sub i q,x.same i (s.fr i q).1 bQ⟩⟩
  rcases x.rU id q with y|y|y
  ·exact g4 y
  ·omega
  ·exact bQ y
 ·rcases x.rU id q with y|y|y
  ·exact Or.inl y
  ·exact Or.inr (Or.inl y)
  ·exact(bQ y).elim
theorem aa {f:Nat}{args:List PV}(w:PF P X M f args fun r=>K r S):sc P X M f args S K:=fun c h F azs s r=>
 (w c h F azs (St.nil s.cx s.gl s.fr) r).mono fun v h' ⟨p,S',F',a1,a2,a3,a4⟩=>by
  obtain⟨s1,x1⟩:=s.frame a1 a2.cx a2.fr
  exact⟨p,S,F',x1,s1,a3,a4⟩
theorem L9 {f:Nat}{args args':List PV}(hz:dH S args args')(w:PF P X M f args' fun r=>r.flat=true/\K r S):sc P X M f args S K:=fun c h F azs s r=>by
 have hr:=hz.lay s (fun _ _ e=>e) r
 have s1:St c h (l8 F S) []:=St.nil s.cx (s.gl.mono fun id q=>⟨Or.inl q,rfl⟩) fun id q=>by
  rcases q with q|⟨p,b,e,hb⟩
  ·exact s.fr id q
  ·obtain⟨g1,_,g3,_⟩:=s.own p id b e hb
   exact⟨g1,g3⟩
 refine(w c h _ azs s1 hr).mono fun v h' ⟨p,S',F',a1,a2,a3,a4⟩=>?_
 have x:Ext h F [] h' F []:=⟨a1.le,fun _ q=>q,fun id hid _=>a1.same id hid bQ,fun _ q=>Or.inl q,fun _ q=>(bQ q).elim⟩
 obtain⟨s2,x2⟩:=s.frame x a2.cx (fun id q=>⟨Nat.lt_of_lt_of_le (s.fr id q).1 a1.le,(s.fr id q).2⟩)
 exact⟨p,S,F,x2,s2,a3.flat a4.1,a4.2⟩
theorem ae {f:XV}{args:List XV}{g:Nat}{caps vs ws:List PV}(hk:sc P X M g ws S K)(hf:bx G f=some (.fn g caps):=by exact rfl)(ha:tA G args=some vs:=by exact rfl)(hw:vs++caps=ws:=by exact rfl):PO P X M d (.call f args) G S K:=⟨fun c h F env s r=>by
 obtain⟨a,e1,q1⟩:=r.ev hf
 obtain⟨azs,e2,q2⟩:=r.LU ha
 cases q1 with
 |fn _ _ cs q1=>
  subst hw
  exact Aw e1 e2 (hk c h F _ s (q2.app q1))⟩
end
def Leaves (c:C)(h:H)(F:Nat->Prop)(S:aJ)(env':bo)(h':H)(Q:aK->aJ->Prop):Prop:= ∃G' S' F',Ext h F S h' F' S'/\St c h' F' S'/\RE h' F' G' env'/\Q G' S'
theorem Leaves.mono {c:C}{h:H}{F:Nat->Prop}{S:aJ}{env':bo}{h':H}{Q Q':aK->aJ->Prop}(l:Leaves c h F S env' h' Q)(hq: ∀G S,Q G S->Q' G S):Leaves c h F S env' h' Q':=by
 obtain⟨G',S',F',a1,a2,a3,a4⟩:=l
 exact⟨G',S',F',a1,a2,a3,hq _ _ a4⟩
theorem Leaves.after {c:C}{h h1:H}{F F1:Nat->Prop}{S S1:aJ}{env':bo}{h':H}{Q:aK->aJ->Prop}(x:Ext h F S h1 F1 S1)(l:Leaves c h1 F1 S1 env' h' Q):Leaves c h F S env' h' Q:=by
 obtain⟨G',S',F',a1,a2,a3,a4⟩:=l
 exact⟨G',S',F',x.trans a1,a2,a3,a4⟩
section
variable (P:Program)(X:cj)(M:Mf)
structure PG (nt:Nat)(ops:List SR)(G:aK)(S:aJ)(Q:aK->aJ->Prop):Prop where
 run: ∀c h F env,St c h F S->RE h F G env->WG P X M c nt ops env h (fun env' h'=>Leaves c h F S env' h' Q)
structure PC (nt:Nat)(x:SC)(G:aK)(S:aJ)(Q:Ex->aK->aJ->Prop):Prop where
 run: ∀c h F env,St c h F S->RE h F G env->WC P X M c nt x env h (fun e env' h'=>Leaves c h F S env' h' (Q e))
structure Ma (nt:Nat)(b:SC)(Q:Ex->aK->aJ->Prop)(e:Ex)(G:aK)(S:aJ):Prop where
 get:match e with
  | .normal=>PC P X M nt b G S Q
  |e=>Q e G S
end
structure LS (id:Nat)(Q:Ex->aK->aJ->Prop)(e:Ex)(G:aK)(S:aJ):Prop where
 get:match e with
  | .exit id'=>bif Nat.beq id' id then Q .normal G S else Q (.exit id') G S
  |e=>Q e G S
def cH (G:aK):Option (Nat×Bool)->Option Bool
 |none=>some true
 |some (t,w)=>match fh G t with
  |some (.bool b)=>some (b==w)
  |some (.bn _)=>some false
  |_=>none
theorem cY {h:H}{F:Nat->Prop}{G:aK}{env:bo}(r:RE h F G env){g:Option (Nat×Bool)}{b:Bool}(e:cH G g=some b):cS env g=some b:=by
 cases g with
 |none=>exact e
 |some g=>
  obtain⟨t,w⟩:=g
  simp only[cH]at e
  split at e
  ·rename_i x hx
   obtain⟨a,e1,q⟩:=r.at_ _ _ hx
   cases q
   simp only[cS,e1];exact e
  ·rename_i x hx
   obtain⟨a,e1,q⟩:=r.at_ _ _ hx
   cases q
   simp only[cS,e1];exact e
  ·cases e
section
variable {P:Program}{X:cj}{M:Mf}{nt:Nat}{G:aK}{S:aJ}
theorem WG.mono {c:C}{ops:List SR}{env:bo}{h:H}{Q Q':bo->H->Prop}(w:WG P X M c nt ops env h Q)(hq: ∀e h,Q e h->Q' e h):WG P X M c nt ops env h Q':= .mk fun sl hs=>by
 obtain⟨sl',h',env',h1,h2,h3⟩:=w.run sl hs
 exact⟨sl',h',env',h1,h2,hq _ _ h3⟩
theorem PG.mono {ops:List SR}{Q Q':aK->aJ->Prop}(w:PG P X M nt ops G S Q)(hq: ∀G S,Q G S->Q' G S):PG P X M nt ops G S Q':=⟨fun c h F env s r=>WG.mono (w.run c h F env s r) fun e h l=>l.mono hq⟩
theorem PC.mono {x:SC}{Q Q':Ex->aK->aJ->Prop}(w:PC P X M nt x G S Q)(hq: ∀e G S,Q e G S->Q' e G S):PC P X M nt x G S Q':=⟨fun c h F env s r=>(w.run c h F env s r).mono fun e _ h l=>l.mono (hq e)⟩
theorem Rq {Q:aK->aJ->Prop}(q:Q G S):PG P X M nt [] G S Q:=⟨fun c h F env s r=>Rr ⟨G,S,F,Ext.refl _ _ _,s,r,q⟩⟩
theorem Pa {d p:Nat}{op:SO}{g:Option (Nat×Bool)}{m b:Bool}{f:Option XV}{ops:List SR}{Q:aK->aJ->Prop}(hnt:nt<=1000000)(hg:cH G g=some true)(hd:Nat.blt d nt=true)(w:PO P X M d op G S fun v S=>PG P X M nt ops ((d,v)::G) S Q):PG P X M nt (⟨some d,op,g,p,m,b,f⟩::ops) G S Q:=⟨fun c h F env s r=>
 TB hnt (cY r hg) hd ((w.run c h F env s r).mono fun v h1 ⟨q,S1,F1,a1,a2,a3,a4⟩=>
  WG.mono (a4.run c h1 F1 _ a2 ((r.mono fun id x=>s.keep a1 id x).put a3)) fun _ _ l=>l.after a1)⟩
theorem Rt {p:Nat}{op:SO}{g:Option (Nat×Bool)}{m b:Bool}{f:Option XV}{ops:List SR}{Q:aK->aJ->Prop}(hnt:nt<=1000000)(hg:cH G g=some true)(w:PO P X M nt op G S fun v S=>PG P X M nt ops G S Q):PG P X M nt (⟨none,op,g,p,m,b,f⟩::ops) G S Q:=⟨fun c h F env s r=>
 Ru hnt (cY r hg) ((w.run c h F env s r).mono fun v h1 ⟨q,S1,F1,a1,a2,a3,a4⟩=>
  WG.mono (a4.run c h1 F1 _ a2 (r.mono fun id x=>s.keep a1 id x)) fun _ _ l=>l.after a1)⟩
theorem Rv {d p:Nat}{op:SO}{g:Nat×Bool}{m b:Bool}{f:Option XV}{ops:List SR}{Q:aK->aJ->Prop}(hnt:nt<=1000000)(hg:cH G (some g)=some false)(hd:Nat.blt d nt=true)(w:PG P X M nt ops ((d,.bn [])::G) S Q):PG P X M nt (⟨some d,op,some g,p,m,b,f⟩::ops) G S Q:=⟨fun c h F env s r=>
 Rw hnt (cY r hg) hd (w.run c h F _ s (r.put (.bn _ _ .nil)))⟩
theorem Ot {p:Nat}{op:SO}{g:Nat×Bool}{m b:Bool}{f:Option XV}{ops:List SR}{Q:aK->aJ->Prop}(hnt:nt<=1000000)(hg:cH G (some g)=some false)(w:PG P X M nt ops G S Q):PG P X M nt (⟨none,op,some g,p,m,b,f⟩::ops) G S Q:=⟨fun c h F env s r=>
 Ou hnt (cY r hg) (w.run c h F _ s r)⟩
theorem PO.VW {d:Nat}{op:SO}{K:PV->aJ->Prop}(w:kM P X M op G fun v=>K v S):PO P X M d op G S K:=⟨fun c h F env s r=>w.run c h F env r _ fun p a q hk=>⟨p,S,F,Ext.refl _ _ _,s,q,hk⟩⟩
theorem PO.VX {d:Nat}{op:SO}{K:PV->aJ->Prop}(w:IU P X M d op G fun f b=> ∀id,K (f id) ((d,some id,b)::S)):PO P X M d op G S K:=⟨fun c h F env s r=>w.run c h F env r _ fun f b ab a q1 q2 _ hk=>by
 obtain⟨s1,x1⟩:=s.new d q1
 exact⟨_,_,F,x1,s1,q2 _,hk h.n⟩⟩
theorem PO.VY {d:Nat}{op:SO}{K:PV->aJ->Prop}(w:zx P X M op G S fun v=>K v S):PO P X M d op G S K:=⟨fun c h F env s r=>by
 obtain⟨x,A,off,vs,h1,h2,h3,h4,h5⟩:=w.run h F env r fun p id b e hb=>(s.own p id b e hb).2.2.2.2
 refine h5 c ?_ _ fun p a q hk=>⟨p,S,F,Ext.refl _ _ _,s,q,hk⟩
 rcases h4 with q|⟨p,b,e,hb⟩
 ·exact(s.fr A q).2
 ·exact(s.own p A b e hb).2.2.1⟩
def SO.cls:SO->Nat
 | .box _=>1
 | .bq _ _ _=>1
 | .tO _ _ _=>1
 | .ax _=>2
 | .ao _ _=>2
 | .store _ _ _=>3
 | .append _ _ _ _=>3
 | .call _ _=>3
 | .lookup _ _ _ _ _=>3
 | .fe _ _ _ _=>3
 | .delete _ _ _=>3
 | .range _=>3
 | .entry _=>3
 | .jG=>1
 | .zP _=>1
 | .TC _=>3
 |_=>0
def Ov (P:Program)(X:cj)(M:Mf)(d:Nat)(op:SO)(G:aK)(S:aJ)(K:PV->aJ->Prop):Option Prop:=match SO.cls op with
 |0=>some (kM P X M op G fun v=>K v S)
 |1=>some (IU P X M d op G fun f b=> ∀id,K (f id) ((d,some id,b)::S))
 |2=>some (zx P X M op G S fun v=>K v S)
 |_=>some (PO P X M d op G S K)
theorem GC {d:Nat}{op:SO}{K:PV->aJ->Prop}{J:Prop}(e:Ov P X M d op G S K=some J)(w:J):PO P X M d op G S K:=by
 unfold Ov at e
 split at e
 ·cases e;exact .VW w
 ·cases e;exact .VX w
 ·cases e;exact .VY w
 ·cases e;exact w
def Pp (P:Program)(X:cj)(M:Mf)(nt:Nat)(ops:List SR)(G:aK)(S:aJ)(Q:aK->aJ->Prop):Option Prop:=match ops with
 |[]=>some (Q G S)
 |⟨some d,op,g,_,_,_,_⟩::ops=>bif Nat.blt d nt then match cH G g with
  |some true=>Ov P X M d op G S (fun v S=>PG P X M nt ops ((d,v)::G) S Q)
  |some false=>some (PG P X M nt ops ((d,.bn [])::G) S Q)
  |none=>none
  else none
 |⟨none,op,g,_,_,_,_⟩::ops=>match cH G g with
  |some true=>Ov P X M nt op G S (fun v S=>PG P X M nt ops G S Q)
  |some false=>some (PG P X M nt ops G S Q)
  |none=>none
theorem pg {ops:List SR}{Q:aK->aJ->Prop}{J:Prop}(g:J)(e:Pp P X M nt ops G S Q=some J:=by exact rfl)(hnt:nt<=1000000:=by assumption):PG P X M nt ops G S Q:=by
 unfold Pp at e
 split at e
 ·cases e;exact Rq g
 ·rename_i d op g0 p m b f ops
  cases hd:Nat.blt d nt with
  |false=>rw[hd]at e;cases e
  |true=>
   rw[hd,cond_true]at e
   split at e
   ·rename_i q;exact Pa hnt q hd (GC e g)
   ·rename_i q
    cases e
    cases g0 with
    |none=>cases q
    |some g0=>exact Rv hnt q hd g
   ·cases e
 ·rename_i op g0 p m b f ops
  split at e
  ·rename_i q;exact Rt hnt q (GC e g)
  ·rename_i q
   cases e
   cases g0 with
   |none=>cases q
   |some g0=>exact Ot hnt q g
  ·cases e
/-! code -/
theorem Ow {Q:Ex->aK->aJ->Prop}(q:Q .normal G S):PC P X M nt .skip G S Q:=⟨fun c h F env s r=>Ox ⟨G,S,F,Ext.refl _ _ _,s,r,q⟩⟩
theorem Oy {id:Nat}{Q:Ex->aK->aJ->Prop}(q:Q (.exit id) G S):PC P X M nt (.exit id) G S Q:=⟨fun c h F env s r=>Oz ⟨G,S,F,Ext.refl _ _ _,s,r,q⟩⟩
theorem Rx {Q:Ex->aK->aJ->Prop}(q:Q .ret G S):PC P X M nt .ret G S Q:=⟨fun c h F env s r=>Ry ⟨G,S,F,Ext.refl _ _ _,s,r,q⟩⟩
theorem Rz {a b:SC}{Q:Ex->aK->aJ->Prop}(w:PC P X M nt a G S (Ma P X M nt b Q)):PC P X M nt (.seq a b) G S Q:=⟨fun c h F env s r=>
 RA ((w.run c h F env s r).mono fun e env' h' ⟨G',S',F',a1,a2,a3,a4⟩=> .mk (by
  cases e with
  |normal=>exact(a4.get.run c h' F' env' a2 a3).mono fun _ _ _ l=>l.after a1
  |exit id=>exact⟨G',S',F',a1,a2,a3,a4.get⟩
  |ret=>exact⟨G',S',F',a1,a2,a3,a4.get⟩))⟩
theorem RC {ops:List SR}{Q:Ex->aK->aJ->Prop}(w:PG P X M nt ops G S (Q .normal)):PC P X M nt (.cN ops) G S Q:=⟨fun c h F env s r=>RD (w.run c h F env s r)⟩
theorem Mb {id:Nat}{b:SC}{Q:Ex->aK->aJ->Prop}(w:PC P X M nt b G S (LS id Q)):PC P X M nt (.block id b) G S Q:=⟨fun c h F env s r=>
 Mc ((w.run c h F env s r).mono fun e env' h' ⟨G',S',F',a1,a2,a3,a4⟩=> .mk (by
  have a5:=a4.get
  cases e with
  |normal=>exact⟨G',S',F',a1,a2,a3,a5⟩
  |ret=>exact⟨G',S',F',a1,a2,a3,a5⟩
  |exit id'=>
   simp only at a5⊢
   cases hb:Nat.beq id' id with
   |true=>rw[hb]at a5;exact⟨G',S',F',a1,a2,a3,a5⟩
   |false=>rw[hb]at a5;exact⟨G',S',F',a1,a2,a3,a5⟩))⟩
theorem U9 {v:XV}{a b:SC}{Q:Ex->aK->aJ->Prop}(hv:bx G v=some (.bool true))(w:PC P X M nt a G S Q):PC P X M nt (.cond v a b) G S Q:=⟨fun c h F env s r=>by
 obtain⟨u,e1,q⟩:=r.ev hv
 cases q
 exact Va e1 (w.run c h F env s r)⟩
theorem Vb {v:XV}{a b:SC}{Q:Ex->aK->aJ->Prop}(hv:bx G v=some (.bool false))(w:PC P X M nt b G S Q):PC P X M nt (.cond v a b) G S Q:=⟨fun c h F env s r=>by
 obtain⟨u,e1,q⟩:=r.ev hv
 cases q
 exact Vc e1 (w.run c h F env s r)⟩
def Pq (P:Program)(X:cj)(M:Mf)(nt:Nat)(x:SC)(G:aK)(S:aJ)(Q:Ex->aK->aJ->Prop):Option Prop:=match x with
 | .seq a b=>some (PC P X M nt a G S (Ma P X M nt b Q))
 | .cN ops=>some (PG P X M nt ops G S (Q .normal))
 | .block id b=>some (PC P X M nt b G S (LS id Q))
 | .skip=>some (Q .normal G S)
 | .exit id=>some (Q (.exit id) G S)
 | .ret=>some (Q .ret G S)
 | .cond v a b=>match bx G v with
  |some (.bool true)=>some (PC P X M nt a G S Q)
  |some (.bool false)=>some (PC P X M nt b G S Q)
  |_=>none
 |_=>none
theorem pc {x:SC}{Q:Ex->aK->aJ->Prop}{J:Prop}(g:J)(e:Pq P X M nt x G S Q=some J:=by exact rfl):PC P X M nt x G S Q:=by
 unfold Pq at e
 split at e
 ·cases e;exact Rz g
 ·cases e;exact RC g
 ·cases e;exact Mb g
 ·cases e;exact Ow g
 ·cases e;exact Oy g
 ·cases e;exact Rx g
 ·split at e
  ·rename_i q;cases e;exact U9 q g
  ·rename_i q;cases e;exact Vb q g
  ·cases e
 ·cases e
def Ps (P:Program)(X:cj)(M:Mf)(nt:Nat)(b:SC)(Q:Ex->aK->aJ->Prop)(e:Ex)(G:aK)(S:aJ):Option Prop:=match e with
 | .normal=>some (PC P X M nt b G S Q)
 | .exit id=>some (Q (.exit id) G S)
 | .ret=>some (Q .ret G S)
theorem pt {b:SC}{Q:Ex->aK->aJ->Prop}{x:Ex}{J:Prop}(g:J)(e:Ps P X M nt b Q x G S=some J:=by exact rfl):Ma P X M nt b Q x G S:=by
 unfold Ps at e
 split at e
 ·cases e;exact⟨g⟩
 ·cases e;exact⟨g⟩
 ·cases e;exact⟨g⟩
def Pt (id:Nat)(Q:Ex->aK->aJ->Prop)(e:Ex)(G:aK)(S:aJ):Option Prop:=match e with
 | .normal=>some (Q .normal G S)
 | .exit id'=>bif Nat.beq id' id then some (Q .normal G S)else some (Q (.exit id') G S)
 | .ret=>some (Q .ret G S)
theorem pb {id:Nat}{Q:Ex->aK->aJ->Prop}{x:Ex}{J:Prop}(g:J)(e:Pt id Q x G S=some J:=by exact rfl):LS id Q x G S:=by
 unfold Pt at e
 split at e
 ·cases e;exact⟨g⟩
 ·rename_i id'
  refine⟨?_⟩
  simp only
  cases q:Nat.beq id' id with
  |true=>rw[q]at e;cases e;exact g
  |false=>rw[q]at e;cases e;exact g
 ·cases e;exact⟨g⟩
theorem DA {x:SC}{G':aK}{S':aJ}{Q:Ex->aK->aJ->Prop}(hG:je G G')(hS:kd S S')(w:PC P X M nt x G' S' Q):PC P X M nt x G S Q:=⟨fun c h F env s r=>by
 obtain⟨s1,x1⟩:=hS.lay s
 exact(w.run c h F env s1 (hG.lay s r)).mono fun _ _ _ l=>l.after x1⟩
theorem Ep {ops:List SR}{G':aK}{Q:aK->aJ->Prop}(hG:je G G')(w:PG P X M nt ops G' S Q):PG P X M nt ops G S Q:=⟨fun c h F env s r=>w.run c h F env s (hG.lay s r)⟩
theorem cz (k slot:Nat)(Pr:Prop){d:Nat}{op:SO}{ops:List SR}{Q:aK->aJ->Prop}(h2: ∀b,(b=true↔Pr)->PG P X M nt (ops.drop k) ((slot,.bool b)::G) S Q)(h1:(∀G' b,je G' G->fh G' slot=some (.bool b)->(b=true↔Pr)->PG P X M nt (ops.drop k) G' S Q)->PO P X M d op G S (fun v S=>PG P X M nt ops ((d,v)::G) S Q)):PO P X M d op G S (fun v S=>PG P X M nt ops ((d,v)::G) S Q):=
 h1 fun _ b hs hl hp=>Ep (.cons hl (.refl _) hs) (h2 b hp)
theorem tF (k slot:Nat)(Pr:Prop){d:Nat}{op:SO}{ops:List SR}{Q:aK->aJ->Prop}(h2: ∀b,(b=true↔Pr)->PG P X M nt (ops.drop k) ((slot,.bool b)::G) S Q)(h1:(∀G' b,je G' G->fh G' slot=some (.bool b)->(b=true↔Pr)->PG P X M nt (ops.drop k) G' S Q)->kM P X M op G (fun v=>PG P X M nt ops ((d,v)::G) S Q)):kM P X M op G (fun v=>PG P X M nt ops ((d,v)::G) S Q):=
 h1 fun _ b hs hl hp=>Ep (.cons hl (.refl _) hs) (h2 b hp)
theorem je.c {G G':aK}{t:Nat}{q:PV}(hs:je G G')(h:fh G t=some q:=by exact rfl):je G ((t,q)::G'):= .cons h (.refl _) hs
theorem kd.c {S S':aJ}{q:Nat}{aT:Option Nat}{b:PB}(hs:kd S S')(h:aC S q=some (aT,b):=by exact rfl):kd S ((q,aT,b)::S'):= .cons h (.refl _) hs
theorem je.su {G G':aK}(h:je G G':=by repeat'(first|exact je.nil|refine je.cons rfl (.refl _) ?_)):je G G':=h
theorem kd.su {S S':aJ}(h:kd S S':=by repeat'(first|exact kd.nil|refine kd.cons rfl (.refl _) ?_)):kd S S':=h
def RF {ι:Type}(Gf:ι->aK)(Sf:ι->aJ)(I:ι->Prop)(μ:ι->Nat)(i:ι)(Q:Ex->aK->aJ->Prop):Ex->aK->aJ->Prop:=fun e G S=>match e with
 | .normal=> ∃j,μ j<μ i/\I j/\je G (Gf j)/\kd S (Sf j)
 |e=>Q e G S
theorem aD {ι:Type}{b:SC}{Q:Ex->aK->aJ->Prop}(Gf:ι->aK)(Sf:ι->aJ)(I:ι->Prop)(μ:ι->Nat)(i0:ι)(h0:I i0)(hG:je G (Gf i0))(hS:kd S (Sf i0))(step: ∀i,I i->PC P X M nt b (Gf i) (Sf i) (RF Gf Sf I μ i Q)):PC P X M nt (.loop b) G S Q:=by
 refine DA hG hS ⟨?_⟩
 intro c h F env s r
 suffices key: ∀n i,μ i=n->I i-> ∀h F env,St c h F (Sf i)->RE h F (Gf i) env->WC P X M c nt (.loop b) env h (fun e env' h'=>Leaves c h F (Sf i) env' h' (Q e))from key _ i0 rfl h0 h F env s r
 intro n
 induction n using Nat.strongRecOn with
 |ind n ih=>
  intro i hn hi h F env s r
  have w:=(step i hi).run c h F env s r
  refine .mk fun sl hs=>?_
  obtain⟨e,sl1,h1,env1,⟨N,hN⟩,hs1,G1,S1,F1,a1,a2,a3,a4⟩:=w.run sl hs
  cases e with
  |normal=>
   obtain⟨j,hj,hI,sg,ss⟩:=a4
   obtain⟨s2,x2⟩:=ss.lay a2
   have w2:=ih (μ j) om j rfl hI h1 F1 env1 s2 (sg.lay a2 a3)
   obtain⟨e2,sl2,h2,env2,⟨N2,hN2⟩,hs2,q2⟩:=w2.run sl1 hs1
   refine⟨e2,sl2,h2,env2,⟨N+N2+1,fun n hn rd ds=>?_⟩,hs2,(q2.after x2).after a1⟩
   cases n with
   |zero=>omega
   |succ n=>
    show dT _ c nt rd (.loop b.den) (ev (cC P) (bJ P X) M n c (.code nt rd b.den sl ds) h)=_
    rw[hN n (by omega) rd ds]
    exact hN2 n om rd ds
  |exit id=>
   refine⟨.exit id,sl1,h1,env1,⟨N+1,fun n hn rd ds=>?_⟩,hs1,⟨G1,S1,F1,a1,a2,a3,a4⟩⟩
   cases n with
   |zero=>omega
   |succ n=>
    show dT _ c nt rd (.loop b.den) (ev (cC P) (bJ P X) M n c (.code nt rd b.den sl ds) h)=_
    rw[hN n (by omega) rd ds];rfl
  |ret=>
   refine⟨.ret,sl1,h1,env1,⟨N+1,fun n hn rd ds=>?_⟩,hs1,⟨G1,S1,F1,a1,a2,a3,a4⟩⟩
   cases n with
   |zero=>omega
   |succ n=>
    show dT _ c nt rd (.loop b.den) (ev (cC P) (bJ P X) M n c (.code nt rd b.den sl ds) h)=_
    rw[hN n (by omega) rd ds];rfl
/-! functions -/
def Et:List PV->Nat->aK->aK
 |[],_,G=>G
 |v::vs,i,G=>Et vs (i+1) ((i,v)::G)
theorem LX {h:H}{F:Nat->Prop}: ∀{ps:List PV} {azs:List AV} {i:Nat} {G:aK} {env:bo},Rs h F ps azs->RE h F G env->RE h F (Et ps i G) (OB azs i env)
 |_,_,_,_,_,.nil,r=>r
 |_,_,i,_,_,.cons p a ps azs q qs,r=>LX (i:=i+1) qs (r.put q)
def u7 (G:aK)(S:aJ):List (Nat×Option (Option Nat))->Option (List PV)
 |[]=>some []
 |r::rs=>match fh G r.1,u7 G S rs with
  |some v,some vs=>match r.2 with
   |none=>some (v::vs)
   |some none=>match v with
    | .ptr p id off=>match aC S p with
     |some (some _,.cells cs)=>match qn cs off with
      |some u=>some (u::vs)
      |none=>none
     |_=>none
    |_=>none
   |some (some n)=>match v with
    | .ptr p id off=>match aC S p with
     |some (some _,.cells cs)=>bif Nat.ble (off+n) cs.length then some (.agg ((cs.drop off).take n)::vs)else none
     |_=>none
    |_=>none
  |_,_=>none
def zJ (G:aK)(S:aJ):List (Nat×Option (Option Nat))->Prop
 |[]=>True
 |r::rs=>(match r.2 with
  |none=>True
  |some _=>match fh G r.1 with
   |some (.ptr p id off)=>match aC S p with
    |some (some id',_)=>id'=id
    |_=>False
   |_=>False)/\zJ G S rs
theorem LY {c:C}{h:H}{F:Nat->Prop}{G:aK}{S:aJ}{env:bo}(s:St c h F S)(r:RE h F G env): ∀{rs:List (Nat×Option (Option Nat))} {ps:List PV},u7 G S rs=some ps->zJ G S rs-> ∃azs,Dg c h env rs=some azs/\Rs h F ps azs
 |[],ps,e,_=>by cases e;exact⟨[],rfl,.nil⟩
 |x::rs,ps,e,hi=>by
  simp only[u7]at e
  split at e
  ·rename_i v vs h1 h2
   obtain⟨a,e1,q1⟩:=r.at_ _ _ h1
   obtain⟨azs,e2,q2⟩:=LY s r h2 hi.2
   obtain⟨t,x2⟩:=x
   cases x2 with
   |none=>
    cases e
    exact⟨a::azs,by simp only[Dg,e1,e2],.cons _ _ _ _ q1 q2⟩
   |some x2=>
    have hi1:=hi.1
    simp only[h1]at hi1
    cases x2 with
    |none=>
     simp only at e
     split at e
     ·rename_i p id off
      split at e
      ·rename_i id' cs hS
       split at e
       ·rename_i u hu
        cases e
        cases q1
        simp only[hS]at hi1
        subst hi1
        obtain⟨_,g2,_,ab,g3,g4⟩:=s.at_ hS (fun q=>by cases q)
        cases g4 with
        |cells _ bs q=>
         rw[kO]at hu
         obtain⟨w,e3,q3⟩:=q.get hu
         refine⟨w::azs,?_,.cons _ _ _ _ q3 q2⟩
         have e4:cr c h id'=some (.cells bs):=(bW g2).trans g3
         simp only[Dg,e1,e2,e4,gA,e3]
       ·cases e
      ·cases e
     ·cases e
    |some n=>
     simp only at e
     split at e
     ·rename_i p id off
      split at e
      ·rename_i id' cs hS
       cases hb:Nat.ble (off+n) cs.length with
       |false=>rw[hb]at e;cases e
       |true=>
        rw[hb]at e
        cases e
        cases q1
        simp only[hS]at hi1
        subst hi1
        obtain⟨_,g2,_,ab,g3,g4⟩:=s.at_ hS (fun q=>by cases q)
        cases g4 with
        |cells _ bs q=>
         have hl:=Nat.le_of_ble_eq_true hb
         obtain⟨q3,q4⟩:=q.part hl
         refine⟨.agg ((bs.drop off).take n)::azs,?_,.cons _ _ _ _ (.agg _ _ q3) q2⟩
         have e4:cr c h id'=some (.cells bs):=(bW g2).trans g3
         simp only[Dg,e1,e2,e4]
         rw[gM _ _ _ (by omega),gN _ _ _ (by simp;omega)]
      ·cases e
     ·cases e
  ·cases e
def zK:List PV->PV
 |[v]=>v
 |vs=> .bn vs
theorem Po {h:H}{F:Nat->Prop}{ps:List PV}{azs:List AV}(q:Rs h F ps azs):R h F (zK ps) (LZ azs):=by
 cases q with
 |nil=>exact .bn _ _ .nil
 |cons p a ps azs q1 q2=>
  cases q2 with
  |nil=>exact q1
  |cons p2 a2 ps2 as2 q3 q4=>exact .bn _ _ (.cons _ _ _ _ q1 (.cons _ _ _ _ q3 q4))
theorem qN {f:Nat}{args:List PV}{res:List (Nat×Option (Option Nat))}{s:SC}{K:PV->aJ->Prop}(ht:bJ P X f=some (.fn ⟨nt,res,s.den⟩))(hM: ∀azs c h,M f azs c h=none)(hl:args.length<=nt)(hnt:nt<=1000000)
    (w:PC P X M nt s (Et args 0 []) S (fun e G S=>(e= .normal\/e= .ret)/\zJ G S res/\ ∃vs,u7 G S res=some vs/\K (zK vs) S)):sc P X M f args S K:=fun c h F azs st r=>
 TD ht (hM azs c h) (by rw[r.len];exact hl) hnt ((w.run c h F _ st (LX r ⟨fun t p e=>(by cases e),st.gl⟩)).mono fun e env' h' ⟨G',S',F',a1,a2,a3,a4,a5,vs,a6,a7⟩=>by
  obtain⟨bs,e1,q⟩:=LY a2 a3 a6 a5
  exact⟨a4,bs,e1,_,S',F',a1,a2,Po q,a7⟩)
theorem Jj {f:Nat}{args:List PV}{g:List AV->Option AV}{K:PV->Prop}{p:PV}(ht:bJ P X f=some (.ext g))(hM: ∀azs c h,M f azs c h=none)(hg: ∀h F azs,Rs h F args azs-> ∃v,g azs=some v/\R h F p v)(hk:K p):PF P X M f args K:=fun c h F azs st r=>by
 obtain⟨v,e,q⟩:=hg h F azs r
 refine⟨v,h,⟨1,fun n hn=>?_⟩,p,[],F,Ext.refl _ _ _,st,q,hk⟩
 cases n with
 |zero=>omega
 |succ n=>
  show(match M f azs c h with|some r=>lh.call r.1 r.2|none=>jk (ev (cC P) (bJ P X) M n) c azs h (bJ P X f))=_
  rw[hM,ht]
  simp only[jk,e]
theorem E1 {G:aK}{S:aJ}{res:List (Nat×Option (Option Nat))}{K:PV->Prop}{r:PV}(k:K r)(a:zJ G S res:=by repeat'(first|exact trivial|refine⟨?_,?_⟩))(h:(u7 G S res).map zK=some r:=by exact rfl):(Ex.ret= .normal\/Ex.ret= .ret)/\zJ G S res/\ ∃vs r,u7 G S res=some vs/\Zf S (zK vs) r/\K r:=by
 cases q:u7 G S res with
 |none=>rw[q]at h;cases h
 |some vs=>
  rw[q]at h
  have e:zK vs=r:=Option.some.inj h
  exact⟨Or.inr rfl,a,vs,r,rfl,e▸ .refl _,k⟩
theorem bD {f:Nat}{args:List PV}{res:List (Nat×Option (Option Nat))}{s:SC}{K:PV->Prop}(ht:bJ P X f=some (.fn ⟨nt,res,s.den⟩))(hM: ∀azs c h,M f azs c h=none)(hl:args.length<=nt)(hnt:nt<=1000000)
    (w:PC P X M nt s (Et args 0 []) [] (fun e G S=>(e= .normal\/e= .ret)/\zJ G S res/\ ∃vs r,u7 G S res=some vs/\Zf S (zK vs) r/\K r)):PF P X M f args K:=by
 have w2:=qN (K:=fun p S=> ∃r,Zf S p r/\K r) ht hM hl hnt (w.mono fun e G S ⟨a4,a5,vs,r,a6,a7,a8⟩=>⟨a4,a5,vs,a6,r,a7,a8⟩)
 intro c h F azs st r
 refine(w2 c h F azs st r).mono fun v h' ⟨p,S',F',a1,a2,a3,q,z,hk⟩=>?_
 have hr:=z.lay a2 (fun _ _ e=>e) v a3
 have hf: ∀id,l8 F' S' id->id<h'.n/\seen c.cd id=true:=fun id q=>by
  rcases q with q|⟨p,b,e,hb⟩
  ·exact a2.fr id q
  ·obtain⟨g1,_,g3,_⟩:=a2.own p id b e hb
   exact⟨g1,g3⟩
 refine⟨q,[],l8 F' S',⟨a1.le,fun id x=>Or.inl (a1.sub id x),a1.same,fun id x=>?_,fun id x=>(bQ x).elim⟩,St.nil a2.cx (a2.gl.mono fun id x=>⟨Or.inl x,rfl⟩) hf,hr,hk⟩
 rcases x with x|x
 ·exact a1.rU id x
 ·rcases a1.rV id x with y|y
  ·exact Or.inr (Or.inl y)
  ·exact Or.inr (Or.inr y)
end
end Go.Proofs.YtemehfgkfidgjaaGreatDoor.Ev
