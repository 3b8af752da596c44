/- CoverStates, part 17 -/
import Derived.Test.YtemehfgkfidgjaaGreatDoorPvG
set_option linter.all false
namespace Go.Proofs.YtemehfgkfidgjaaGreatDoor.Ev
open Go
section
variable [Gb]
def el {α:Type} [Inhabited α] (l:List α)(i:Nat):α:=l.getD i default
def pS (s:List Nat):List PV:=[.str s]
def pI (n:Int):List PV:=[.int .i64 n]
def pL {α:Type} [Inhabited α] (e:Nat)(f:α->List PV)(l:List α):PV:= .tr e l.length fun i=>f (el l i)
def oL {α:Type}(p:Nat)(aT:Option Nat)(e:Nat)(l:List α):PV:= .own p aT l.length e
def aL {α:Type} [Inhabited α] (e:Nat)(f:α->List PV)(l:List α):PB:= .arr e l.length fun i=>f (el l i)
theorem ba {α:Type} [Inhabited α] {l:List α}{i:Nat}(h:i<l.length):el l i∈l:=by simp[el,h]
theorem cW {α β:Type} [Inhabited α] [Inhabited β] {l:List α}{f:α->β}{i:Nat}(h:i<l.length):el (l.map f) i=f (el l i):=by simp[el,h]
theorem gW {α:Type} [Inhabited α] {l m:List α}{i:Nat}:el (l++m) i=if i<l.length then el l i else el m (i-l.length):=by
 unfold el
 by_cases h:i<l.length
 ·simp[h,List.getElem?_append_left h]
 ·simp[h,List.getElem?_append_right (Nat.le_of_not_lt h)]
theorem M4 {α:Type} [Inhabited α] {l:List α}{n i:Nat}:el (l.drop n) i=el l (n+i):=by simp[el]
theorem zn {α:Type} [Inhabited α] {l:List α}{n i:Nat}(h:i<n):el (l.take n) i=el l i:=by simp[el,List.getElem?_take,h]
theorem cm {α:Type} [Inhabited α] {l:List α}{x:α}(h:x∈l): ∃i,i<l.length/\el l i=x:=by
 obtain⟨i,hi,e⟩:=List.mem_iff_getElem.1 h
 exact⟨i,hi,by simp[el,hi,e]⟩
theorem Zf.eq {S:aJ}{p q:PV}(e:p=q):Zf S p q:=e▸ .refl p
theorem cE {S:aJ}{α:Type} [Inhabited α] {p e:Nat}{aT:Option Nat}{f:α->List PV}{l:List α}(h:aC S p=some (aT,aL e f l):=by exact rfl):Zf S (oL p aT e l) (pL e f l):= .own _ _ _ _ _ _ _ h (Nat.le_refl _) fun i _=>dH.refl _
def JM (S S':aJ):Prop:= ∀p id d,aC S' p=some (some id,d)-> ∃b,aC S p=some (some id,b)/\wB b d
theorem JM.lay {c:C}{h:H}{F:Nat->Prop}{S S':aJ}(z:JM S S')(s:St c h F S):St c h F S'/\Ext h F S h F S':=by
 refine⟨⟨s.cx,s.gl,s.fr,fun p id d e hd=>?_,fun p q id b d e1 e2 hb hd=>?_⟩,Nat.le_refl _,fun _ q=>q,fun _ _ _=>rfl,fun _ q=>Or.inl q,fun id ⟨p,d,e,hd⟩=>?_⟩
 ·obtain⟨b,e1,cv⟩:=z p id d e
  obtain⟨g1,g2,g3,g4,ab,g5,g6⟩:=s.own p id b e1 (cv.dead hd)
  exact⟨g1,g2,g3,g4,ab,g5,cv.lay s g6⟩
 ·obtain⟨b1,f1,c1⟩:=z p id b e1
  obtain⟨b2,f2,c2⟩:=z q id d e2
  exact s.inj p q id b1 b2 f1 f2 (c1.dead hb) (c2.dead hd)
 ·obtain⟨b,e1,cv⟩:=z p id d e
  exact Or.inr ⟨p,b,e1,cv.dead hd⟩
section
variable {P:Program}{X:cj}{M:Mf}{d:Nat}{G:aK}{S:aJ}{K:PV->aJ->Prop}{op:SO}
theorem PO.JP (w:PO P X M d op G S fun p S1=> ∃p2 S2,Cv p p2/\JM S1 S2/\K p2 S2):PO P X M d op G S K:=⟨fun c h F env s r=>(w.run c h F env s r).mono fun v h' ⟨p,S',F',a1,a2,a3,p2,S2,z1,z2,hk⟩=>by
 obtain⟨s2,x2⟩:=z2.lay a2
 exact⟨p2,S2,F',a1.trans x2,s2,z1.cv a2 a3,hk⟩⟩
theorem wb {p:Nat}{aT:Option Nat}{b d:PB}(z:wB b d):JM ((p,aT,b)::S) ((p,aT,d)::S):=fun q id b' e=>by
 rw[aH]at e⊢
 by_cases h:p=q
 ·rw[if_pos h]at e⊢
  cases e;exact⟨b,rfl,z⟩
 ·rw[if_neg h]at e⊢
  exact⟨b',e,.refl _⟩
theorem OJ {α:Type} [Inhabited α] {e:Nat}{f:α->List PV}{l m:List α}{r:Nat->List PV}(h: ∀i,i<m.length->r i=f (el m i)):wB (.arr e (l.length+m.length) (oC l.length (fun i=>f (el l i)) r)) (aL e f (l++m)):=by
 unfold aL
 rw[List.length_append]
 refine .arr _ _ _ _ _ (by simp) fun i hi=>dH.of_eq ?_
 unfold oC
 rw[gW]
 by_cases x:i<l.length
 ·rw[if_pos x,if_pos x]
 ·rw[if_neg x,if_neg x];exact h _ om
theorem ml {α:Type} [Inhabited α] {e by_:Nat}{f:α->List PV}{l m:List α}{s x:XV}{t v:PV}{p:Nat}{r2:Nat->List PV}(hk: ∀aT,K (oL p aT e (l++m)) ((p,aT,aL e f (l++m))::S))(hs:bx G s=some t)(hx:bx G x=some v)(ht:Uk S e d t p l.length (fun i=>f (el l i)))(hv:Src S e v m.length r2)(hr: ∀i,i<m.length->r2 i=f (el m i))(ho: ∀y,PV.cy (f y)=true)(hb:(l.length+m.length)*by_<=140737488355328)(hby:0<by_:=by decide):PO P X M d (.append e by_ s x) G S K:=by
 refine PO.JP (jF (fun aT _=>⟨_,_,Zf.eq ?_,wb (OJ hr),hk aT⟩) hs hx ht hv (fun i hi=>by rw[hr i hi];exact ho _) hb hby)
 unfold oL
 rw[List.length_append]
theorem bV {α:Type} [Inhabited α] {e by_:Nat}{f:α->List PV}{l:List α}(y:α){s x:XV}{p q id:Nat}{aT:Option Nat}{r:Nat->List PV}(hk: ∀aT,K (oL p aT e (l++[y])) ((p,aT,aL e f (l++[y]))::S))(hs:bx G s=some (oL p aT e l):=by exact rfl)(hx:bx G x=some (.own q (some id) 1 e):=by exact rfl)(hS:aC S p=some (aT,aL e f l):=by exact rfl)(hX:aC S q=some (some id,.arr e 1 r):=by exact rfl)(hr:r 0=f y:=by exact rfl)(ho: ∀y,PV.cy (f y)=true:=by exact fun _=>rfl)(hb:(l.length+1)*by_<=140737488355328:=by omega)(hby:0<by_:=by decide):PO P X M d (.append e by_ s x) G S K:=
 ml hk hs hx (.own _ _ _ _ _ hS (Nat.le_refl _)) (.own _ _ _ _ _ hX (Nat.le_refl _)) (fun i hi=>by
  have:i=0:=by simpa using hi
  subst this;exact hr) ho hb hby
theorem fD {α:Type} [Inhabited α] {e by_:Nat}{f:α->List PV}(y:α){s x:XV}{q id:Nat}{r:Nat->List PV}(hk: ∀aT,K (oL d aT e [y]) ((d,aT,aL e f [y])::S))(hs:bx G s=some .aE:=by exact rfl)(hx:bx G x=some (.own q (some id) 1 e):=by exact rfl)(hX:aC S q=some (some id,.arr e 1 r):=by exact rfl)(hr:r 0=f y:=by exact rfl)(ho: ∀y,PV.cy (f y)=true:=by exact fun _=>rfl)(hb:by_<=140737488355328:=by decide)(hby:0<by_:=by decide):PO P X M d (.append e by_ s x) G S K:=
 ml (l:=[]) (m:=[y]) hk hs hx (.aE _) (.own _ _ _ _ _ hX (Nat.le_refl _)) (fun i hi=>by
  have:i=0:=by simpa using hi
  subst this;exact hr) ho (by show(0+1)*by_<=_;omega) hby
theorem yY {α:Type} [Inhabited α] {e by_:Nat}{f:α->List PV}{l m:List α}{s x:XV}{p:Nat}{aT:Option Nat}(hk: ∀aT,K (oL p aT e (l++m)) ((p,aT,aL e f (l++m))::S))(hs:bx G s=some (oL p aT e l):=by exact rfl)(hx:bx G x=some (pL e f m):=by exact rfl)(hS:aC S p=some (aT,aL e f l):=by exact rfl)(ho: ∀y,PV.cy (f y)=true:=by exact fun _=>rfl)(hb:(l.length+m.length)*by_<=140737488355328:=by omega)(hby:0<by_:=by decide):PO P X M d (.append e by_ s x) G S K:=
 ml hk hs hx (.own _ _ _ _ _ hS (Nat.le_refl _)) (.tr _ _) (fun i _=>rfl) ho hb hby
theorem uO {α:Type} [Inhabited α] {K0:PV->Prop}{x:XV}{p id i off e:Nat}{f:α->List PV}{l:List α}{v:PV}(hk:K0 v)(hx:bx G x=some (.gu p id i off e):=by exact rfl)(hS:aC S p=some (some id,aL e f l):=by exact rfl)(hv:qn (f (el l i)) off=some v:=by exact rfl)(hi:i<l.length:=by omega):zx P X M (.ax x) G S K0:=iy hk hx hS hv hi
theorem dJ {f:XV}{args:List XV}{g:Nat}{caps vs ws ws':List PV}(w:PF P X M g ws' fun r=>r.flat=true/\K r S)(hf:bx G f=some (.fn g caps):=by exact rfl)(ha:tA G args=some vs:=by exact rfl)(hw:vs++caps=ws:=by exact rfl)(hz:dH S ws ws':=by repeat(first|exact .nil|refine .cons _ _ _ _ (by first|exact cE|exact .refl _) ?_)):PO P X M d (.call f args) G S K:=ae (L9 hz w) hf ha hw
theorem PN {nt i al fm p:Nat}{wr fz b:Bool}{S0:aJ}{f:XV}{args:List XV}{g:Option (Nat×Bool)}{ops:List SR}{Q:aK->aJ->Prop}{k:Nat}{caps vs ws ws':List PV}(w:PF P X M k ws' fun v=>v.flat=true/\PD P X M nt ops (i+1) (al|||1<<<i) fm wr (fz&&v.flat) S0 ((d,v)::G) S Q)
    (hg:cH G g=some true:=by exact rfl) (hf:bx G f=some (.fn k caps):=by exact rfl) (ha:tA G args=some vs:=by exact rfl) (hws:vs++caps=ws:=by exact rfl) (hz:dH S ws ws':=by repeat(first|exact .nil|refine .cons _ _ _ _ (by first|exact cE|exact .refl _) ?_)) (hp:al|||p=p:=by decide) (hw:wr=false\/fm|||p=p:=by first|exact Or.inl rfl|exact Or.inr dc) (hd:Nat.blt d nt=true:=by exact rfl) (hnt:nt<=1000000:=by assumption):PD P X M nt (⟨some d,.call f args,g,p,true,b,none⟩::ops) i al fm wr fz S0 G S Q:=TG hnt hg hd hp hw hf ha hws (Md hz w)
end
end
section
variable [Gb] {P:Program}{X:cj}{M:Mf}{d:Nat}{G:aK}{S:aJ}
theorem y7 {neg:Bool}{x:XV}{e n:Nat}{rows:Nat->List PV}{K0:PV->Prop}(ht:n=0->K0 (.bool (!neg)))(hf:K0 (.bool neg))(hx:bx G x=some (.tr e n rows):=by exact rfl):kM P X M (.M7 neg x) G K0:=⟨fun c h F env r K' k=>by
 obtain⟨a,e1,q⟩:=r.ev hx
 cases q with
 |tX e rows av q=>
  rcases q with rfl|⟨oa,cp,rfl⟩|⟨id,off,cap,vs,rfl,_⟩
  ·exact bd (fun sl hs call k'=>by simp only[SO.den,pP,hs.ev e1]) (k _ _ (.bool _) (ht rfl))
  ·cases oa with
   |none=>exact bd (fun sl hs call k'=>by simp only[SO.den,pP,hs.ev e1]) (k _ _ (.bool _) (ht rfl))
   |some oa=>exact bd (fun sl hs call k'=>by simp only[SO.den,pP,hs.ev e1]) (k _ _ (.bool _) hf)
  ·exact bd (fun sl hs call k'=>by simp only[SO.den,pP,hs.ev e1]) (k _ _ (.bool _) hf)
 |tr _ _ _ id off cap vs h0 h1 h2 h3 h4 h5=>exact bd (fun sl hs call k'=>by simp only[SO.den,pP,hs.ev e1]) (k _ _ (.bool _) hf)⟩
end
section
variable [Gb]
inductive Dr (Z:aJ):PB->PB->Prop
 |refl (b:PB):Dr Z b b
 |cells (ps qs:List PV):dH Z ps qs->Dr Z (.cells ps) (.cells qs)
 |arr (e n m:Nat) (r1 r2:Nat->List PV):m<=n->(∀i,i<m->dH Z (r1 i) (r2 i))->Dr Z (.arr e n r1) (.arr e m r2)
theorem Dr.lay {Z S:aJ}{c:C}{h:H}{F:Nat->Prop}(st:St c h F S)(hS: ∀q x,aC Z q=some x->aC S q=some x){b d:PB}(z:Dr Z b d){ab:AB}(r:RB h F b ab):RB h (l8 F Z) d ab:=by
 cases z with
 |refl=>exact r.mono fun id q=>⟨Or.inl q,rfl⟩
 |cells ps qs z=>cases r with|cells _ azs q=>exact .cells _ _ (z.lay st hS q)
 |arr e n m r1 r2 hm z=>
  cases r with
  |arr _ _ _ azs q1 q2 q3=>exact .arr _ _ _ _ (Nat.le_trans (Nat.mul_le_mul_right e hm) q1) (fun i hi=>by rw[(z i hi).len];exact q2 i om) fun i hi=>(z i hi).lay st hS (q3 i om)
theorem Dr.dead {Z:aJ}{b d:PB}(z:Dr Z b d)(h:d≠ .dead):b≠ .dead:=by
 cases z<;>first|exact h|(intro q;cases q)
structure ZS (Z:aJ)(r:Nat->Nat)(S S':aJ):Prop where
 sub: ∀q x,aC Z q=some x->aC S q=some x
 get: ∀p id d,aC S' p=some (some id,d)->d≠ .dead->aC Z (r p)=none/\ ∃b,aC S (r p)=some (some id,b)/\Dr Z b d
 inj: ∀p q id b d,aC S' p=some (some id,b)->aC S' q=some (some id,d)->b≠ .dead->d≠ .dead->r p=r q->p=q
theorem ZS.lay {Z S S':aJ}{r:Nat->Nat}(z:ZS Z r S S'){c:C}{h:H}{F:Nat->Prop}(s:St c h F S):St c h (l8 F Z) S'/\Ext h F S h (l8 F Z) S':=by
 refine⟨⟨s.cx,s.gl.mono fun id q=>⟨Or.inl q,rfl⟩,fun id q=>?_,fun p id d e hd=>?_,fun p q id b d e1 e2 hb hd=>?_⟩,Nat.le_refl _,fun _ q=>Or.inl q,fun _ _ _=>rfl,fun id q=>?_,fun id ⟨p,d,e,hd⟩=>?_⟩
 ·rcases q with q|⟨p,b,e,hb⟩
  ·exact s.fr id q
  ·obtain⟨g1,_,g3,_⟩:=s.own p id b (z.sub _ _ e) hb
   exact⟨g1,g3⟩
 ·obtain⟨hz,b,e1,zb⟩:=z.get p id d e hd
  obtain⟨g1,g2,g3,g4,ab,g5,g6⟩:=s.own _ id b e1 (zb.dead hd)
  refine⟨g1,g2,g3,fun q=>?_,ab,g5,zb.lay s z.sub g6⟩
  rcases q with q|⟨p',b',e',hb'⟩
  ·exact g4 q
  ·have:=s.inj p' _ id b' b (z.sub _ _ e') e1 hb' (zb.dead hd)
   subst this
   rw[hz]at e';cases e'
 ·obtain⟨_,b1,f1,c1⟩:=z.get p id b e1 hb
  obtain⟨_,b2,f2,c2⟩:=z.get q id d e2 hd
  exact z.inj p q id b d e1 e2 hb hd (s.inj _ _ id b1 b2 f1 f2 (c1.dead hb) (c2.dead hd))
 ·rcases q with q|⟨p,b,e,hb⟩
  ·exact Or.inl q
  ·exact Or.inr (Or.inr ⟨p,b,z.sub _ _ e,hb⟩)
 ·obtain⟨_,b,e1,zb⟩:=z.get p id d e hd
  exact Or.inr ⟨_,b,e1,zb.dead hd⟩
inductive jr (Z:aJ)(G:aK):aK->Prop
 |nil:jr Z G []
 |cons {t:Nat} {p q:PV} {G':aK}:fh G t=some p->Zf Z p q->jr Z G G'->jr Z G ((t,q)::G')
theorem jr.get {Z:aJ}{G G':aK}(s:jr Z G G'): ∀{t:Nat} {q:PV},fh G' t=some q-> ∃p,fh G t=some p/\Zf Z p q:=by
 induction s with
 |nil=>intro t q e;cases e
 | @cons k p u G' h1 h2 _ ih=>
  intro t q e
  simp only[fh]at e
  cases hb:Nat.beq k t with
  |true=>rw[hb]at e;cases e;rw[<-Nat.eq_of_beq_eq_true hb];exact⟨p,h1,h2⟩
  |false=>rw[hb]at e;exact ih e
inductive C6 (S:aJ):aJ->Prop
 |nil:C6 S []
 |cons {q:Nat} {x:Option Nat×PB} {Z:aJ}:aC S q=some x->C6 S Z->C6 S ((q,x)::Z)
theorem C6.get {S Z:aJ}(z:C6 S Z): ∀q x,aC Z q=some x->aC S q=some x:=by
 induction z with
 |nil=>intro q x e;cases e
 | @cons k y Z h1 _ ih=>
  intro q x e
  rw[aH]at e
  by_cases hk:k=q
  ·rw[if_pos hk]at e;cases e;rw[<-hk];exact h1
  ·rw[if_neg hk]at e;exact ih q x e
theorem jr.c {Z:aJ}{G G':aK}{t:Nat}{q:PV}(hs:jr Z G G')(h:fh G t=some q:=by exact rfl):jr Z G ((t,q)::G'):= .cons h (.refl _) hs
theorem jr.su {Z:aJ}{G G':aK}(h:jr Z G G':=by repeat'(first|exact jr.nil|refine jr.cons rfl (.refl _) ?_)):jr Z G G':=h
inductive b9 (Z S:aJ):aJ->Prop
 |nil:b9 Z S []
 |cons {q:Nat} {aT:Option Nat} {b d:PB} {S':aJ}:aC Z q=none->aC S q=some (aT,b)->Dr Z b d->b9 Z S S'->b9 Z S ((q,aT,d)::S')
 |kR {q:Nat} {d:PB} {S':aJ}:b9 Z S S'->b9 Z S ((q,none,d)::S')
theorem b9.zs {Z S S':aJ}(hz:C6 S Z)(s:b9 Z S S'):ZS Z (fun p=>p) S S':=by
 refine⟨hz.get,?_,fun p q _ _ _ _ _ _ _ e=>e⟩
 induction s with
 |nil=>intro p id d e;cases e
 | @cons k aT b u S' h0 h1 h2 _ ih=>
  intro p id d e hd
  rw[aH]at e
  by_cases hb:k=p
  ·rw[if_pos hb]at e;cases e;rw[<-hb];exact⟨h0,b,h1,h2⟩
  ·rw[if_neg hb]at e;exact ih p id d e hd
 | @kR k u S' _ ih=>
  intro p id d e hd
  rw[aH]at e
  by_cases hb:k=p
  ·rw[if_pos hb]at e;cases e
  ·rw[if_neg hb]at e;exact ih p id d e hd
section
variable {P:Program}{X:cj}{M:Mf}{nt d:Nat}{G:aK}{S:aJ}{K:PV->aJ->Prop}
theorem oV {x:SC}{G':aK}{S' Z:aJ}{r:Nat->Nat}{Q:Ex->aK->aJ->Prop}(hG:jr Z G G')(hS:ZS Z r S S')(w:PC P X M nt x G' S' Q):PC P X M nt x G S Q:=⟨fun c h F env s re=>by
 obtain⟨s1,x1⟩:=hS.lay s
 refine(w.run c h _ env s1 ⟨fun t q e=>?_,s1.gl⟩).mono fun e _ h l=>l.after x1
 obtain⟨p,e1,zf⟩:=hG.get e
 obtain⟨a,e2,r1⟩:=re.at_ t p e1
 exact⟨a,e2,zf.lay s hS.sub a r1⟩⟩
theorem zd {x:SC}(Z:aJ)(G':aK)(S':aJ){Q:Ex->aK->aJ->Prop}(hz:C6 S Z)(hG:jr Z G G')(hS:b9 Z S S')(w:PC P X M nt x G' S' Q):PC P X M nt x G S Q:=oV hG (hS.zs hz) w
def I3 (S S':aJ):Prop:= ∀p id d,aC S' p=some (some id,d)->d≠ .dead-> ∃b,aC S p=some (some id,b)/\Dr [] b d
theorem I3.zs {S S':aJ}(h:I3 S S'):ZS [] (fun p=>p) S S':=⟨fun q x e=>(by cases e),fun p id d e hd=>⟨rfl,h p id d e hd⟩,fun p q _ _ _ _ _ _ _ e=>e⟩
theorem I3.refl (S:aJ):I3 S S:=fun p id d e _=>⟨d,e,.refl _⟩
theorem I3.cons {S:aJ}{p:Nat}{aT:Option Nat}{b d:PB}(h:aC S p=some (aT,b))(z:Dr [] b d):I3 S ((p,aT,d)::S):=fun q id d' e hd=>by
 rw[aH]at e
 by_cases hq:p=q
 ·rw[if_pos hq]at e;cases e;rw[<-hq];exact⟨b,h,z⟩
 ·rw[if_neg hq]at e;exact⟨d',e,.refl _⟩
theorem lz {f:Nat}{args:List PV}(w:sc P X M f args S fun v S1=> ∃Z r S2 v2,ZS Z r S1 S2/\Zf Z v v2/\K v2 S2):sc P X M f args S K:=fun c h F azs s r=>
 (w c h F azs s r).mono fun v h' ⟨p,S',F',a1,a2,a3,Z,r2,S2,v2,z1,z2,hk⟩=>by
  obtain⟨s1,x1⟩:=z1.lay a2
  exact⟨v2,S2,_,a1.trans x1,s1,z2.lay a2 z1.sub v a3,hk⟩
def Fa {ι:Type}(Gf:ι->aK)(Sf:ι->aJ)(I:ι->Prop)(μ:ι->Nat)(i:ι)(Q:Ex->aK->aJ->Prop):Ex->aK->aJ->Prop:=fun e G S=>match e with
 | .normal=> ∃j,μ j<μ i/\I j/\ ∃Z r,jr Z G (Gf j)/\ZS Z r S (Sf j)
 |e=>Q e G S
theorem JT {ι:Type}{b:SC}{Q:Ex->aK->aJ->Prop}(Gf:ι->aK)(Sf:ι->aJ)(I:ι->Prop)(μ:ι->Nat)(i0:ι)(h0:I i0)(Z:aJ)(r:Nat->Nat)(hG:jr Z G (Gf i0))(hS:ZS Z r S (Sf i0))(step: ∀i,I i->PC P X M nt b (Gf i) (Sf i) (Fa Gf Sf I μ i Q)):PC P X M nt (.loop b) G S Q:=by
 refine oV hG hS ⟨?_⟩
 intro c h F env s r
 suffices key: ∀n i,μ i=n->I i-> ∀h F env,St c h F (Sf i)->RE h F (Gf i) env->WC P X M c nt (.loop b) env h (fun e env' h'=>Leaves c h F (Sf i) env' h' (Q e))from key _ i0 rfl h0 h F env s r
 intro n
 induction n using Nat.strongRecOn with
 |ind n ih=>
  intro i hn hi h F env s r
  have w:=(step i hi).run c h F env s r
  refine .mk fun sl hs=>?_
  obtain⟨e,sl1,h1,env1,⟨N,hN⟩,hs1,G1,S1,F1,a1,a2,a3,a4⟩:=w.run sl hs
  cases e with
  |normal=>
   obtain⟨j,hj,hI,Z,ρ,sg,ss⟩:=a4
   obtain⟨s2,x2⟩:=ss.lay a2
   have r2:RE h1 (l8 F1 Z) (Gf j) env1:=⟨fun t q e=>by
    obtain⟨p,e1,zf⟩:=sg.get e
    obtain⟨a,e2,r1⟩:=a3.at_ t p e1
    exact⟨a,e2,zf.lay a2 ss.sub a r1⟩,s2.gl⟩
   have w2:=ih (μ j) om j rfl hI h1 _ env1 s2 r2
   obtain⟨e2,sl2,h2,env2,⟨N2,hN2⟩,hs2,q2⟩:=w2.run sl1 hs1
   refine⟨e2,sl2,h2,env2,⟨N+N2+1,fun n hn rd ds=>?_⟩,hs2,(q2.after x2).after a1⟩
   cases n with
   |zero=>omega
   |succ n=>
    show dT _ c nt rd (.loop b.den) (ev (cC P) (bJ P X) M n c (.code nt rd b.den sl ds) h)=_
    rw[hN n (by omega) rd ds]
    exact hN2 n om rd ds
  |exit id=>
   refine⟨.exit id,sl1,h1,env1,⟨N+1,fun n hn rd ds=>?_⟩,hs1,⟨G1,S1,F1,a1,a2,a3,a4⟩⟩
   cases n with
   |zero=>omega
   |succ n=>
    show dT _ c nt rd (.loop b.den) (ev (cC P) (bJ P X) M n c (.code nt rd b.den sl ds) h)=_
    rw[hN n (by omega) rd ds];rfl
  |ret=>
   refine⟨.ret,sl1,h1,env1,⟨N+1,fun n hn rd ds=>?_⟩,hs1,⟨G1,S1,F1,a1,a2,a3,a4⟩⟩
   cases n with
   |zero=>omega
   |succ n=>
    show dT _ c nt rd (.loop b.den) (ev (cC P) (bJ P X) M n c (.code nt rd b.den sl ds) h)=_
    rw[hN n (by omega) rd ds];rfl
theorem de: ∀(L S:aJ) (p:Nat),aC (L++S) p=match aC L p with
    |some x=>some x
    |none=>aC S p
 |[],S,p=>rfl
 |(k,v)::L,S,p=>by
  rw[List.cons_append,aH,aH]
  by_cases hk:k=p
  ·rw[if_pos hk,if_pos hk]
  ·rw[if_neg hk,if_neg hk];exact de L S p
theorem Hl (T:Nat){f:Nat}{args:List PV}{K0:PV->Option Nat->PB->Prop}(w:sc P X M f args [] fun v S1=> ∃aT b,S1=[(T,aT,b)]/\K0 v aT b)(hk: ∀v aT b,K0 v aT b->K v ((T,aT,b)::S)):sc P X M f args S K:=fun c h F azs s r=>
 (w c h F azs (St.nil s.cx s.gl s.fr) r).mono fun v h' ⟨p,S1,F',a1,a2,a3,aT,b,e1,a4⟩=>by
  subst e1
  obtain⟨s1,x1⟩:=s.frame (S':=[(T,aT,b)]) a1 a2.cx a2.fr
  have hnew: ∀id d,aC [(T,aT,b)] T=some (some id,d)->d≠ .dead->h.n<=id:=fun id d e hd=>by
   rcases a1.rV id ⟨T,d,e,hd⟩with y|y
   ·exact y
   ·exact(bQ y).elim
  have one: ∀q x,aC ((T,aT,b)::S) q=some x->(q=T/\aC [(T,aT,b)] T=some x)\/(q≠T/\aC S q=some x):=fun q x e=>by
   rw[aH]at e
   by_cases hq:T=q
   ·rw[if_pos hq]at e;refine Or.inl ⟨hq.symm,?_⟩;rw[aH,if_pos rfl];exact e
   ·rw[if_neg hq]at e;exact Or.inr ⟨fun w=>hq w.symm,e⟩
  refine⟨p,(T,aT,b)::S,F',⟨x1.le,x1.sub,x1.same,x1.rU,fun id ⟨q,d,e,hd⟩=>?_⟩,⟨s1.cx,s1.gl,s1.fr,fun q id d e hd=>?_,fun q1 q2 id d1 d2 e1 e2 h1 h2=>?_⟩,a3,hk _ _ _ a4⟩
  ·rcases one q _ e with⟨rfl,y⟩|⟨_,y⟩
   ·exact Or.inl (hnew id d y hd)
   ·exact Or.inr ⟨q,d,y,hd⟩
  ·rcases one q _ e with⟨rfl,y⟩|⟨_,y⟩
   ·exact a2.own _ id d y hd
   ·exact s1.own q id d y hd
  ·rcases one q1 _ e1 with⟨w1,y1⟩|⟨_,y1⟩<;>rcases one q2 _ e2 with⟨w2,y2⟩|⟨_,y2⟩
   ·rw[w1,w2]
   ·have z1:=hnew id d1 y1 h1
    have z2:=(s.own q2 id d2 y2 h2).1
    omega
   ·have z1:=hnew id d2 y2 h2
    have z2:=(s.own q1 id d1 y1 h1).1
    omega
   ·exact s.inj q1 q2 id d1 d2 y1 y2 h1 h2
def wS (S:aJ):Prop:= ∀p,p<1000->aC S p=none
theorem I3.top {S:aJ}{p:Nat}{aT:Option Nat}{b d:PB}(z:Dr [] b d):I3 ((p,aT,b)::S) ((p,aT,d)::S):=fun q id d' e hd=>by
 rw[aH]at e⊢
 by_cases hq:p=q
 ·rw[if_pos hq]at e⊢;cases e;exact⟨b,rfl,z⟩
 ·rw[if_neg hq]at e⊢;exact⟨d',e,.refl _⟩
theorem I3.head {S S':aJ}{p:Nat}{aT:Option Nat}{b d:PB}(h:aC S p=some (aT,b))(z:Dr [] b d)(t:I3 S S'):I3 S ((p,aT,d)::S'):=fun q id d' e hd=>by
 rw[aH]at e
 by_cases hq:p=q
 ·rw[if_pos hq]at e;cases e;rw[<-hq];exact⟨b,h,z⟩
 ·rw[if_neg hq]at e;exact t q id d' e hd
theorem wS.cons {S:aJ}{p:Nat}{x:Option Nat×PB}(hl:wS S)(hp: ¬p<1000):wS ((p,x)::S):=fun q hq=>by
 rw[aH,if_neg (by omega)];exact hl q hq
theorem I3.two {S:aJ}{p:Nat}{aT:Option Nat}{b d:PB}{x:Option Nat×PB}(z:Dr [] b d):I3 ((p,aT,b)::(p,x)::S) ((p,aT,d)::S):=fun q id d' e hd=>by
 rw[aH]at e⊢
 by_cases hq:p=q
 ·rw[if_pos hq]at e⊢;cases e;exact⟨b,rfl,z⟩
 ·rw[if_neg hq]at e⊢;rw[aH,if_neg hq];exact⟨d',e,.refl _⟩
theorem y8 {α:Type} [Inhabited α] {e by_:Nat}{f:α->List PV}{m:List α}{s x:XV}{p n:Nat}{aT:Option Nat}{r:Nat->List PV}(hk: ∀aT,(0<m.length-> ∃id,aT=some id)->K (oL p aT e m) ((p,aT,aL e f m)::S))(hs:bx G s=some (.own p aT 0 e):=by exact rfl)(hx:bx G x=some (pL e f m):=by exact rfl)(hS:aC S p=some (aT,.arr e n r):=by exact rfl)(ho: ∀y,PV.cy (f y)=true:=by exact fun _=>rfl)(hb:m.length*by_<=140737488355328:=by omega)(hby:0<by_:=by decide):PO P X M d (.append e by_ s x) G S K:=by
 refine PO.JP (jF (k:=0) (fun aT ho2=>⟨_,_,Zf.eq ?_,wb (.arr _ _ _ _ _ (by rw[Nat.zero_add];exact Nat.le_refl _) fun i hi=>dH.of_eq ?_),hk aT (by rw[Nat.zero_add]at ho2;exact ho2)⟩) hs hx (.own _ _ _ _ _ hS (Nat.zero_le _)) (.tr _ _) (fun i _=>ho _) (by rw[Nat.zero_add];exact hb) hby)
 ·unfold oL;rw[Nat.zero_add]
 ·unfold oC;rw[if_neg (Nat.not_lt_zero _)];rfl
end
section
variable {P:Program}{X:cj}{M:Mf}{nt d:Nat}{G:aK}{S:aJ}{K0:PV->Prop}
theorem DS {e:Nat}{x:XV}{lo hi:Option XV}{p n:Nat}{aT:Option Nat}{u:Int}(j:Nat)(hk:K0 (.own p aT j e))(hx:bx G x=some (.own p aT n e):=by exact rfl)(hl:nx G 0 lo=some 0:=by exact rfl)(hu:nx G n hi=some u:=by exact rfl)(hj:u=(j:Int):=by omega)(h1:j<=n:=by omega):kM P X M (.slice e x lo hi) G K0:=by
 subst hj
 exact IZ hk hx hl hu
theorem DR {e:Nat}{x i:XV}{k:IntKind}{z:Int}{p n:Nat}{aT:Option Nat}(j:Nat)(hk: ∀id,aT=some id->K0 (.gu p id j 0 e))(hx:bx G x=some (.own p aT n e):=by exact rfl)(hi:bx G i=some (.int k z):=by exact rfl)(hj:z=(j:Int):=by omega)(h1:j<n:=by omega):kM P X M (.aQ e x i) G K0:=by
 subst hj
 exact dW hk hx hi h1
theorem mc {e:Nat}{x i:XV}{k:IntKind}{z:Int}{n:Nat}{rows:Nat->List PV}(j:Nat)(hk:K0 (.fp (rows j) 0))(hx:bx G x=some (.tr e n rows):=by exact rfl)(hi:bx G i=some (.int k z):=by exact rfl)(hj:z=(j:Int):=by omega)(h1:j<n:=by omega):kM P X M (.aQ e x i) G K0:=by
 subst hj
 exact aj hk hx hi h1
end
section
variable {P:Program}{X:cj}{M:Mf}{nt d:Nat}{G:aK}{S:aJ}{K0:PV->Prop}{K1:(Nat->PV)->PB->Prop}
theorem Fy {z:List AV}{ps:List (Nat×Nat×XV)}{zs:List PV}(hk:K1 (fun id=> .IS d id z.length) (.arr z.length 0 fun _=>[]))(hz:ek z=some zs:=by exact rfl)(hp:l9 G ps (List.replicate 0 zs).flatten=some []:=by exact rfl):IU P X M d (.bq 0 z ps) G K1:=⟨fun c h F env r K' k=>by
 obtain⟨azs,e1,q⟩:=tW r ps _ [] _ hp (jl h F _ _ (rY hz 0))
 exact yC e1 (Nat.lt_succ_self _) (k _ _ _ _ (.arr _ _ _ _ om (fun i hi=>absurd hi (Nat.not_lt_zero _)) fun i hi=>absurd hi (Nat.not_lt_zero _)) (fun h'=> .IS _ _ _) (fun q=>by cases q) hk)⟩
theorem OK {f1 f2:Nat}{v:List (Nat×Nat)}{h:H}{e:Nat}{a:AV}{k:Nat->List AV->Out}:xA ⟨f1,v⟩ h e a k=xA ⟨f2,v⟩ h e a k:=by
 unfold xA dB cr
 cases a<;>rfl
theorem Vy {i al fm p e by_ p0 id0 m n:Nat}{wr fz b:Bool}{S0:aJ}{s x:XV}{v:PV}{g:Option (Nat×Bool)}{ops:List SR}{Q:aK->aJ->Prop}{r0 r2:Nat->List PV}(hk: ∀aT,(0<m-> ∃id,aT=some id)->PD P X M nt ops (i+1) (al|||1<<<i) fm wr false S0 ((d,.own p0 aT m e)::G) ((p0,aT,.arr e m r2)::S) Q)
    (hs:bx G s=some (.IS p0 id0 e)) (hx:bx G x=some v) (hS:aC S p0=some (some id0,.arr e n r0)) (hv:Src S e v m r2) (ho: ∀i,i<m->PV.cy (r2 i)=true) (hb:m*by_<=140737488355328) (hby:0<by_)
    (hg:cH G g=some true:=by exact rfl) (hp:al|||p=p:=by decide) (hw:wr=false\/fm|||p=p:=by first|exact Or.inl rfl|exact Or.inr dc) (hd:Nat.blt d nt=true:=by exact rfl) (hnt:nt<=1000000:=by assumption):PD P X M nt (⟨some d,.append e by_ s x,g,p,true,b,none⟩::ops) i al fm wr fz S0 G S Q:=⟨fun c n0 h F env rs bs fs di r=>by
 obtain⟨a,e1,q1⟩:=r.ev hs
 obtain⟨y,e2,q2⟩:=r.ev hx
 cases q1
 have hle:=di.le
 have s0:St ⟨0,(h.n,gQ)::cI p (bw n0 c.cd) rs⟩ h F S:=⟨Cx.mem (Nat.zero_le _),di.st.gl,fun id q=>⟨(di.st.fr id q).1,di.all hp (di.st.fr id q).2 (di.st.fr id q).1⟩,fun pl id b e hb=>by
  obtain⟨g1,g2,g3,g4,g5⟩:=di.st.own pl id b e hb
  exact⟨g1,Nat.zero_le _,di.all hp g3 g1,g4,g5⟩,di.st.inj⟩
 obtain⟨us,l2,hsrc⟩:=L8 s0 hv q2
 have hones:=l2.cy ho
 obtain⟨t1,t2,_,ab,t3,t4⟩:=s0.at_ hS (fun q=>by cases q)
 have hfl: ∀fl,fl<=h.n->WO P X M ⟨fl,(h.n,gQ)::cI p (bw n0 c.cd) rs⟩ (.append e by_ s x) env h (fun v h'=> ∃aT,h.n<=h'.n/\(∀id,id<h.n->h'.get id=h.get id)/\(∀id,aT=some id->PB.arr e m r2≠ .dead->(id=h.n/\h.n<h'.n\/ ∃b,aC S p0=some (some id,b)/\b≠ .dead)/\ ∃ab,h'.get id=some ab/\ ∀F':Nat->Prop,(∀i,F i->F' i/\h'.get i=h.get i)->RB h' F' (.arr e m r2) ab)/\R h' F (.own p0 aT m e) v/\(0<m-> ∃id,aT=some id)):=fun fl hfl=>by
  have hsrc': ∀k:Nat->List AV->Out,xA ⟨fl,(h.n,gQ)::cI p (bw n0 c.cd) rs⟩ h e y k=k m us:=fun k=>OK.trans (hsrc k)
  cases t4 with
  |arr _ _ _ azs w1 w2 w3=>
  by_cases hm:m=0
  ·subst hm
   have hu:us=[]:=by have:=l2.len;simpa using this
   subst hu
   refine bd (v:= .sl id0 0 0 e (some 0)) (h':=h) (fun sl hh call k=>by
    simp only[SO.den,eo,hh.ev e1,hh.ev e2];rw[hsrc']
    have:Nat.beq e e=true:=by simp
    simp only[Ev.cy,cond,pV,this]) ⟨some id0,Nat.le_refl _,fun _ _=>rfl,fun id q _=>?_,.own _ _ _ _ _ om,fun q=>absurd q om⟩
   cases q
   exact⟨Or.inr ⟨_,hS,fun q=>by cases q⟩,_,t3,fun F' hm=> .arr _ _ _ _ om (fun i hi=>absurd hi (Nat.not_lt_zero _)) fun i hi=>absurd hi (Nat.not_lt_zero _)⟩
  ·have hnb:Nat.beq m 0=false:=by rw[mB];simp[hm]
   have hbl:Nat.blt 140737488355328 (Nat.mul (0+m) by_)=false:=yD (by rw[Nat.zero_add];exact hb)
   have hbe:Nat.beq e e=true:=by simp
   have hgr:fK (some 0) (0+m)=true:=by
    show Nat.blt 0 (0+m)=true
    have h9:0<0+m:=by omega
    exact Nat.ble_eq_true_of_le h9
   have hkm:m<=140737488355328:=Nat.le_trans (Nat.le_mul_of_pos_right _ hby) hb
   refine bd (v:= .sl h.n 0 (0+m) e none) (h':=h.new (.cells us)) (fun sl hh call k'=>?_) ⟨some h.n,by rw[wg];omega,fun j hj=>gL (Nat.lt_succ_self _) _ om,fun id q _=>?_,by rw[Nat.zero_add];exact .own _ _ _ _ _ om,fun _=>⟨_,rfl⟩⟩
   ·simp only[SO.den,eo,hh.ev e1,hh.ev e2]
    rw[hsrc']
    simp only[hones,cond,pV,hbe,hnb,dB,bW (c:=⟨fl,(h.n,gQ)::cI p (bw n0 c.cd) rs⟩) t2,t3]
    rw[gM _ _ _ (by omega)]
    show fI (0*e) _ _=_
    rw[gN _ _ _ (by simp)]
    simp only[ep,aZ]
    show(bif Nat.blt 140737488355328 (Nat.mul (0+m) by_)then _ else _)=_
    rw[hbl]
    simp only[cond]
    show(bif fK (some 0) (0+m)then _ else _)=_
    rw[hgr]
    simp only[cond]
    rw[eS (Nat.lt_succ_self _)]
    simp
   ·cases q
    refine⟨Or.inl ⟨rfl,by rw[wg];omega⟩,_,kP (Nat.lt_succ_self _) _,fun F' hm=>l2.rb.mono fun i hi=>⟨(hm i hi).1,(hm i hi).2⟩⟩
 have next: ∀v h',(∃aT,h.n<=h'.n/\(∀id,id<h.n->h'.get id=h.get id)/\(∀id,aT=some id->PB.arr e m r2≠ .dead->(id=h.n/\h.n<h'.n\/ ∃b,aC S p0=some (some id,b)/\b≠ .dead)/\ ∃ab,h'.get id=some ab/\ ∀F':Nat->Prop,(∀i,F i->F' i/\h'.get i=h.get i)->RB h' F' (.arr e m r2) ab)/\R h' F (.own p0 aT m e) v/\(0<m-> ∃id,aT=some id))->iQ p h.t h'.t fs=true/\ ∀bs',(bs'=bs\/bs'=(i,h.t,h'.t)::bs)->WD P X M c nt (bw n0 c.cd) ops (i+1) (eF i h.n h'.n rs) bs' fs ((d,v)::env) h' (fun env' h'=>Leaves c h F S env' h' Q):=fun v h' ⟨aT,hle',same,hnew,b3,a4⟩=>by
  refine⟨kc fun f x=>?_,fun bs' hbs=>?_⟩
  ·rcases hw with y|y
   ·obtain⟨g1,us,g2⟩:=di.Hx y f x
    exact Or.inr ⟨us,g2,(same _ g1).trans g2⟩
   ·rcases di.Fb f x with z|⟨z,us,g2⟩
    ·exact Or.inl (testBit_or y z)
    ·exact Or.inr ⟨us,g2,(same _ (di.st.fr _ z).1).trans g2⟩
  ·obtain⟨s4,x4⟩:=di.st.tH hle' (fun id hid _=>same id hid) hnew
   refine WD.mono ((hk aT a4).run c n0 h' F _ _ _ fs ⟨s4,om,qm hle' di.Oh,fun r q=>?_,fun b q=>?_,fun hw b q id hid=>?_,fun f q=>(di.Fb f q).imp id fun⟨z,vs,e⟩=>⟨z,vs,(same _ (di.st.fr _ z).1).trans e⟩,fun hw f q=>?_,fun x=>(by cases x),di.old⟩ ((r.mono fun id q=>⟨q,same id (di.st.fr id q).1⟩).put b3)) fun _ _ l=>l.after x4
   ·rcases fP _ q with q|q
    ·exact di.lo r q
    ·subst q;exact hle
   ·rcases hbs with rfl|rfl
    ·rw[Nat.testBit_or,di.Gx b q];rfl
    ·rcases List.mem_cons.1 q with rfl|q
     ·rw[Nat.testBit_or];simp[Nat.testBit_shiftLeft]
     ·rw[Nat.testBit_or,di.Gx b q];rfl
   ·have e3:=same id om
    have old: ∀b∈bs,Tr.get b.2.1 id=h'.get id/\Tr.get b.2.2 id=h'.get id:=fun b q=>by
     obtain⟨e1,e2⟩:=di.Oi hw b q id hid
     rw[e3];exact⟨e1,e2⟩
    rcases hbs with rfl|rfl
    ·exact old b q
    ·rcases List.mem_cons.1 q with rfl|q
     ·exact⟨e3.symm,rfl⟩
     ·exact old b q
   ·obtain⟨e1,us,e2⟩:=di.Hx hw f q
    exact⟨om,us,(same _ e1).trans e2⟩
 cases b with
 |true=>exact Ax hnt (cY r hg) hd ((hfl c.floor di.st.cx.low).mono fun v h' x=>⟨(next v h' x).1,(next v h' x).2 _ (Or.inr rfl)⟩)
 |false=>exact Fc hnt (cY r hg) hd ((hfl h.n (Nat.le_refl _)).mono fun v h' x=>(next v h' x).2 _ (Or.inl rfl))⟩
theorem R.rows {h:H}{F:Nat->Prop}{e n:Nat}{r1 r2:Nat->List PV}{a:AV}(q:R h F (.tr e n r1) a)(hr: ∀i,i<n->r1 i=r2 i):R h F (.tr e n r2) a:=by
 cases q with
 |tX _ _ _ q=>exact .tX _ _ _ q
 |tr _ _ _ id off cap vs g0 g1 g2 g3 g4 g5=>exact .tr _ _ _ id off cap vs g0 g1 g2 g3 (fun i hi=>by rw[<-hr i hi];exact g4 i hi) fun i hi=>by rw[<-hr i hi];exact g5 i hi
theorem kM.rows {op:SO}{e n:Nat}{r1 r2:Nat->List PV}(w:kM P X M op G fun v=>v= .tr e n r1)(hr: ∀i,i<n->r1 i=r2 i)(hk:K0 (.tr e n r2)):kM P X M op G K0:=⟨fun c h F env r K' k=>w.run c h F env r K' fun p a q e=>by
 subst e
 exact k _ _ (q.rows hr) hk⟩
theorem uo {α:Type} [Inhabited α] {e:Nat}{f:α->List PV}{l:List α}{x:XV}{lo hi:Option XV}{u:Int}(j:Nat)(hk:K0 (pL e f (l.take j)))(hx:bx G x=some (pL e f l):=by exact rfl)(hl:nx G 0 lo=some 0:=by exact rfl)(hu:nx G l.length hi=some u:=by exact rfl)(hj:u=(j:Int):=by omega)(h1:j<=l.length:=by omega)(hn:0<l.length:=by omega):kM P X M (.slice e x lo hi) G K0:=by
 subst hj
 have w:kM P X M (.slice e x lo hi) G fun v=>v= .tr e ((j:Int)-0).toNat (fun i=>f (el l (i+(0:Int).toNat))):=jM rfl hx hl hu hn om om om
 have hlen:(l.take j).length=((j:Int)-0).toNat:=by rw[List.length_take];omega
 refine w.rows (r2:=fun i=>f (el (l.take j) i)) (fun i hi=>?_) (by rw[<-hlen];exact hk)
 rw[zn (by omega)];rfl
theorem DF {α:Type} [Inhabited α] {e:Nat}{f:α->List PV}{l:List α}{x:XV}{lo hi:Option XV}{u:Int}(j:Nat)(hk:K0 (pL e f (l.drop j)))(hx:bx G x=some (pL e f l):=by exact rfl)(hl:nx G 0 lo=some u:=by exact rfl)(hu:nx G l.length hi=some l.length:=by exact rfl)(hj:u=(j:Int):=by omega)(h1:j<=l.length:=by omega)(hn:0<l.length:=by omega):kM P X M (.slice e x lo hi) G K0:=by
 subst hj
 have w:kM P X M (.slice e x lo hi) G fun v=>v= .tr e ((l.length:Int)-(j:Int)).toNat (fun i=>f (el l (i+(j:Int).toNat))):=jM rfl hx hl hu hn om om om
 have hlen:(l.drop j).length=((l.length:Int)-(j:Int)).toNat:=by rw[List.length_drop];omega
 refine w.rows (r2:=fun i=>f (el (l.drop j) i)) (fun i hi=>?_) (by rw[<-hlen];exact hk)
 show f (el l (i+(j:Int).toNat))=_
 rw[Int.toNat_natCast,show el (l.drop j) i=el l (i+j)by simp[el,List.getElem?_drop,Nat.add_comm]]
theorem He {e:Nat}{x:XV}{lo hi:Option XV}(hk:K0 .aE)(hx:bx G x=some .aE:=by exact rfl)(hl:nx G 0 lo=some 0:=by exact rfl)(hu:nx G 0 hi=some 0:=by exact rfl):kM P X M (.slice e x lo hi) G K0:=⟨fun c h F env r K' k=>by
 obtain⟨a,e1,q⟩:=r.ev hx
 have l1:=sQ r (z:=0) hl om
 have l2:=sQ r (z:=0) hu om
 cases q
 refine bd (fun sl hs call k'=>?_) (k _ _ .aE hk)
 have o1:cQ sl 0 lo=some 0:=ju hs l1
 have o2:cQ sl 0 hi=some 0:=ju hs l2
 simp only[SO.den,lQ,hs.ev e1,o1,o2]⟩
end
mutual
def kI:Sh->Dt->List PV
 | .int k,d=>[.int k d.n]
 | .str,d=>[.str d.s]
 | .bool,d=>[.bool d.b]
 | .row shs,d=>Vh shs 0 d.l
 | .arr e,d=>[.tr e.sz d.l.length fun i=>kI e (d.l.getD i (.int 0))]
def Vh:List Sh->Nat->List Dt->List PV
 |[],_,_=>[]
 |s::shs,i,ds=>kI s (ds.getD i (.int 0))++Vh shs (i+1) ds
end
mutual
theorem Rp.pv {B:Nat}(hB:9223372036854775807<=B){h:H}{F:Nat->Prop}(hF: ∀id,id<h.n->F id): ∀{sh:Sh} {d:Dt} {cs:List AV},Rp B false h sh d cs->Rs h F (kI sh d) cs
 | .int k,d,cs,q=>by
  obtain⟨n,rfl,rfl⟩:=RP q
  exact .cons _ _ _ _ (.int _ _) .nil
 | .str,d,cs,q=>by
  obtain⟨n,rfl,rfl⟩:=RQ q
  exact .cons _ _ _ _ (.str _) .nil
 | .bool,d,cs,q=>by
  obtain⟨n,rfl,rfl⟩:=OL q
  exact .cons _ _ _ _ (.bool _) .nil
 | .row shs,d,cs,q=>by
  obtain⟨ds,e,q2⟩:=RR q
  subst e
  exact kg.pv hB hF [] q2
 | .arr e,d,cs,q=>by
  rcases wo.1 q with⟨l,sv,rfl,rfl,_,sl⟩|⟨_,n,oa,cp,_,_,h1,_,h2⟩
  ·obtain⟨id,rows,e3,e4,e5,e6⟩:=sl.out
   have hlen:=sl.le
   refine .cons _ _ _ _ ?_ .nil
   show R h F (.tr e.sz l.length fun i=>kI e (l.getD i (.int 0))) sv
   have hrow: ∀i,i<l.length-> ∃row,rows[i]? =some row/\Rs h F (kI e (l.getD i (.int 0))) row:=fun i hi=>by
    refine⟨rows[i]'om,List.getElem?_eq_getElem om,?_⟩
    have e1:l[i]? =some (l.getD i (.int 0)):=by simp[hi]
    exact Rp.pv hB hF (e6 i _ _ e1 (List.getElem?_eq_getElem om))
   rcases e4.at_ with⟨q1,q2⟩|⟨q1,⟨cap,q2⟩,q3,vs,q4,q5,q6⟩
   ·have hl0:l.length=0:=by rw[<-e5,q1];rfl
    rw[hl0]
    refine .tX _ _ _ ?_
    rcases q2 with q2|⟨oa,cp,q2⟩
    ·exact Or.inl q2
    ·exact Or.inr (Or.inl ⟨oa,cp,q2⟩)
   ·subst q2
    rw[<-e5]
    refine .tr _ _ _ id 0 cap vs ⟨q1,om⟩ (hF id q3) q4 om (fun i hi=>?_) fun i hi=>?_
    ·obtain⟨row,h1,h2⟩:=hrow i om
     have h3:=q6 i row h1
     have h4:=h2.len
     have h5:(vs.drop (i*e.sz)).take e.sz=row:=h3
     have h6:=Nat.mul_le_mul_right e.sz (show i+1<=rows.length by omega)
     rw[Nat.succ_mul]at h6
     rw[<-h4,<-h5,List.length_take,List.length_drop]
     omega
    ·obtain⟨row,h1,h2⟩:=hrow i om
     have h5:(vs.drop (i*e.sz)).take e.sz=row:=q6 i row h1
     rw[Nat.zero_add,h5]
     exact h2
  ·omega
theorem kg.pv {B:Nat}(hB:9223372036854775807<=B){h:H}{F:Nat->Prop}(hF: ∀id,id<h.n->F id): ∀{shs:List Sh} (pre:List Dt) {ds:List Dt} {cs:List AV},kg B false h shs ds cs->Rs h F (Vh shs pre.length (pre++ds)) cs
 |[],pre,ds,cs,q=>by
  obtain⟨rfl,rfl⟩:=OM q
  exact .nil
 |s::shs,pre,ds,cs,q=>by
  obtain⟨d,ds',a,b,rfl,rfl,q1,q2⟩:=Mg q
  have e1:(pre++d::ds').getD pre.length (.int 0)=d:=by simp
  have e2:=kg.pv hB hF (pre++[d]) q2
  rw[List.length_append,List.length_singleton,List.append_assoc]at e2
  show Rs h F (kI s ((pre++d::ds').getD pre.length (.int 0))++_) (a++b)
  rw[e1]
  exact(Rp.pv hB hF q1).app e2
end
end
end Go.Proofs.YtemehfgkfidgjaaGreatDoor.Ev
