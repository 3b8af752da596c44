/- CoverStates, part 14 -/
import Derived.Test.YtemehfgkfidgjaaGreatDoorPvA
set_option linter.all false
namespace Go.Proofs.YtemehfgkfidgjaaGreatDoor.Ev
open Go
variable [Gb]
theorem St.tH {c:C}{h h':H}{F:Nat->Prop}{S:aJ}{p:Nat}{aT:Option Nat}{b':PB}(s:St c h F S)(hle:h.n<=h'.n)
    (hsame: ∀id,id<h.n->(∀b,aC S p=some (some id,b)->b= .dead)->h'.get id=h.get id)
    (hnew: ∀id,aT=some id->b'≠ .dead->(id=h.n/\h.n<h'.n\/ ∃b,aC S p=some (some id,b)/\b≠ .dead)/\ ∃ab,h'.get id=some ab/\ ∀F':Nat->Prop,(∀i,F i->F' i/\h'.get i=h.get i)->RB h' F' b' ab):St c h' F ((p,aT,b')::S)/\Ext h F S h' F ((p,aT,b')::S):=by
 have keep: ∀id,F id->F id/\h'.get id=h.get id:=fun id q=>⟨q,hsame id (s.fr id q).1 fun b e=>by
  by_cases hb:b= .dead
  ·exact hb
  ·exact absurd q (s.own p id b e hb).2.2.2.1⟩
 refine⟨⟨s.cx.mono hle,s.gl.mono keep,fun id q=>⟨Nat.lt_of_lt_of_le (s.fr id q).1 hle,(s.fr id q).2⟩,fun q id b e hb=>?_,fun q1 q2 id b d e1 e2 hb hd=>?_⟩,hle,fun _ q=>q,fun id hid hl=>hsame id hid fun b e=>?_,fun id q=>Or.inl q,fun id ⟨q,b,e,hb⟩=>?_⟩
 ·rw[aH]at e
  by_cases hq:p=q
  ·rw[if_pos hq]at e
   cases e
   obtain⟨h1,ab,h2,h3⟩:=hnew id rfl hb
   have h4:=h3 F keep
   rcases h1 with⟨rfl,hlt⟩|⟨b0,h5,h6⟩
   ·exact⟨hlt,s.cx.low,s.cx.cd _ (Nat.le_refl _),fun x=>absurd (s.fr _ x).1 (Nat.lt_irrefl _),ab,h2,h4⟩
   ·obtain⟨g1,g2,g3,g4,_⟩:=s.own p id b0 h5 h6
    exact⟨Nat.lt_of_lt_of_le g1 hle,g2,g3,g4,ab,h2,h4⟩
  ·rw[if_neg hq]at e
   obtain⟨g1,g2,g3,g4,ab,g5,g6⟩:=s.own q id b e hb
   refine⟨Nat.lt_of_lt_of_le g1 hle,g2,g3,g4,ab,(hsame id g1 fun b0 e0=>?_).trans g5,g6.mono keep⟩
   by_cases hb0:b0= .dead
   ·exact hb0
   ·exact absurd (s.inj p q id b0 b e0 e hb0 hb) hq
 ·rw[aH]at e1 e2
  have aux: ∀q b d,p≠q->(some (aT,b'):Option (Option Nat×PB))=some (some id,b)->aC S q=some (some id,d)->b≠ .dead->d≠ .dead->False:=fun q b d hq f1 f2 hb hd=>by
   have ho:aT=some id:=by cases f1;rfl
   have hbb:b'=b:=by cases f1;rfl
   obtain⟨h1,_⟩:=hnew id ho (by rw[hbb];exact hb)
   rcases h1 with⟨hid,hlt⟩|⟨b0,h5,h6⟩
   ·have:=(s.own q _ d f2 hd).1;omega
   ·exact hq (s.inj p q id b0 d h5 f2 h6 hd)
  by_cases x1:p=q1
  ·by_cases x2:p=q2
   ·exact x1.symm.trans x2
   ·rw[if_pos x1]at e1;rw[if_neg x2]at e2
    exact(aux q2 b d x2 e1 e2 hb hd).elim
  ·rw[if_neg x1]at e1
   by_cases x2:p=q2
   ·rw[if_pos x2]at e2
    exact(aux q1 d b x1 e2 e1 hd hb).elim
   ·rw[if_neg x2]at e2
    exact s.inj q1 q2 id b d e1 e2 hb hd
 ·by_cases hb:b= .dead
  ·exact hb
  ·exact absurd ⟨p,b,e,hb⟩ hl
 ·rw[aH]at e
  by_cases hq:p=q
  ·rw[if_pos hq]at e
   cases e
   obtain⟨h1,_⟩:=hnew id rfl hb
   rcases h1 with⟨rfl,hlt⟩|⟨b0,h5,h6⟩
   ·exact Or.inl (Nat.le_refl _)
   ·exact Or.inr ⟨p,b0,h5,h6⟩
  ·rw[if_neg hq]at e
   exact Or.inr ⟨q,b,e,hb⟩
theorem St.new {c:C}{h:H}{F:Nat->Prop}{S:aJ}(s:St c h F S)(p:Nat){b:PB}{ab:AB}(hb:RB h F b ab):St c (h.new ab) F ((p,some h.n,b)::S)/\Ext h F S (h.new ab) F ((p,some h.n,b)::S):=by
 refine s.tH (by rw[wg];omega) (fun id hid _=>gL (Nat.lt_succ_self _) _ hid) fun id e _=>?_
 cases e
 exact⟨Or.inl ⟨rfl,by rw[wg];omega⟩,ab,kP (Nat.lt_succ_self _) _,fun F' hm=>hb.mono hm⟩
theorem St.put {c:C}{h:H}{F:Nat->Prop}{S:aJ}(s:St c h F S){p id:Nat}{b0 b:PB}{ab:AB}(e:aC S p=some (some id,b0))(h0:b0≠ .dead)(hb:RB h F b ab):St c (h.put id ab) F ((p,some id,b)::S)/\Ext h F S (h.put id ab) F ((p,some id,b)::S):=by
 refine s.tH (Nat.le_refl _) (fun j hj hd=>jt (Nat.lt_succ_self _) _ fun q=>?_) fun j ej _=>?_
 ·subst q
  exact h0 (hd b0 e)
 ·cases ej
  exact⟨Or.inr ⟨b0,e,h0⟩,ab,AA (Nat.lt_succ_self _) _,fun F' hm=>hb.mono hm⟩
theorem St.Pn {c:C}{h h':H}{F:Nat->Prop}{S S':aJ}(s:St c h F S)(x:Ext h F S h' F S'){p:PV}{a:AV}(q:R h F p a):R h' F p a:=q.mono fun id hid=>s.keep x id hid
section
variable {P:Program}{X:cj}{M:Mf}{d:Nat}{G:aK}{S:aJ}{K:PV->aJ->Prop}{op:SO}{K0:PV->Prop}{K1:(Nat->PV)->PB->Prop}
theorem ai {x:XV}{v:PV}(hk:K1 (fun id=> .ptr d id 0) (.cells v.cells))(hx:bx G x=some v:=by exact rfl):IU P X M d (.box x) G K1:=⟨fun c h F env r K' k=>by
 obtain⟨a,e1,q⟩:=r.ev hx
 exact Rn e1 (Nat.lt_succ_self _) (k _ _ _ _ (RB.cells _ _ q.cells) (fun h'=> .ptr _ _ _) (fun q=>by cases q) hk) q.Cj⟩
theorem yB: ∀{a b:List AV} {x y:List PV},ek a=some x->ek b=some y->ek (a++b)=some (x++y)
 |[],b,x,y,h1,h2=>by simp only[ek]at h1;cases h1;simpa using h2
 |v::a,b,x,y,h1,h2=>by
  simp only[ek]at h1
  split at h1
  ·rename_i p ps e1 e2
   cases h1
   have:=yB e2 h2
   simp only[List.cons_append,ek,e1,this]
  ·cases h1
theorem rY {z:List AV}{zs:List PV}(hz:ek z=some zs): ∀n,ek (List.replicate n z).flatten=some (List.replicate n zs).flatten
 |0=>rfl
 |n+1=>by simpa[List.replicate_succ]using yB hz (rY hz n)
theorem rZ: ∀{a:List AV} {x:List PV},ek a=some x->x.length=a.length
 |[],x,h1=>by simp only[ek]at h1;cases h1;rfl
 |v::a,x,h1=>by
  simp only[ek]at h1
  split at h1
  ·rename_i p ps e1 e2
   cases h1
   simp[rZ e2]
  ·cases h1
theorem Da {off:Nat}{news l:List PV}(h:off+news.length<=l.length):(wP off news l).length=l.length:=by
 unfold wP;simp;omega
theorem wh: ∀{ps:List (Nat×Nat×XV)} {l l':List PV},l9 G ps l=some l'->l'.length=l.length
 |[],l,l',e=>by cases e;rfl
 |p::ps,l,l',e=>by
  simp only[l9]at e
  split at e
  ·rename_i v hv
   cases hb:(Nat.beq v.cells.length p.2.1&&Nat.ble (p.1+v.cells.length) l.length)with
   |false=>rw[hb]at e;cases e
   |true=>
    rw[hb]at e
    rw[wh e,Da (Nat.le_of_ble_eq_true ((Bool.and_eq_true _ _).mp hb).2)]
  ·cases e
def xX (e:Nat)(l:List PV):Nat->List PV:=fun i=>(l.drop (i*e)).take e
theorem Ro {h:H}{F:Nat->Prop}{l:List PV}{azs:List AV}{e n:Nat}(q:Rs h F l azs)(hl:l.length=n*e):RB h F (.arr e n (xX e l)) (.cells azs):=by
 have hi: ∀i,i<n->i*e+e<=n*e:=fun i hi=>by
  have:=Nat.mul_le_mul_right e hi
  rwa [Nat.succ_mul]at this
 refine .arr _ _ _ _ (by rw[q.len,hl];exact Nat.le_refl _) (fun i h1=>?_) fun i h1=>?_
 ·have:=hi i h1
  simp[xX];omega
 ·exact(q.drop _).take _
theorem bb {n:Nat}{z:List AV}{ps:List (Nat×Nat×XV)}{zs l:List PV}(hk:K1 (fun id=> .own d (some id) n z.length) (.arr z.length n (xX z.length l)))(hz:ek z=some zs:=by exact rfl)(hp:l9 G ps (List.replicate n zs).flatten=some l:=by exact rfl)(hn:n<=9223372036854775807:=by decide):IU P X M d (.bq n z ps) G K1:=⟨fun c h F env r K' k=>by
 obtain⟨azs,e1,q⟩:=tW r ps _ l _ hp (jl h F _ _ (rY hz n))
 have hl:l.length=n*z.length:=by
  rw[wh hp,List.length_flatten]
  simp[rZ hz]
 exact yC e1 (Nat.lt_succ_self _) (k _ _ _ _ (Ro q hl) (fun h'=> .own _ _ _ _ _ hn) (fun q=>by cases q) hk)⟩
theorem Rs.part {h:H}{F:Nat->Prop}{ps:List PV}{azs:List AV}(q:Rs h F ps azs){o n:Nat}(hl:o+n<=ps.length):Rs h F ((ps.drop o).take n) ((azs.drop o).take n)/\o+n<=azs.length:=⟨(q.drop o).take n,by rw[q.len];exact hl⟩
theorem ad {x:XV}{p id off:Nat}{vs:List PV}{v:PV}(hk:K0 v)(hx:bx G x=some (.ptr p id off):=by exact rfl)(hS:aC S p=some (some id,.cells vs):=by exact rfl)(hv:qn vs off=some v:=by exact rfl):zx P X M (.ax x) G S K0:=
 mK (p:=v) (fun h F env r s=>by
  obtain⟨a,e1,q⟩:=r.ev hx
  cases q
  obtain⟨ab,h2,h3⟩:=s p id _ hS (fun q=>by cases q)
  cases h3 with
  |cells _ azs q=>
   rw[kO]at hv
   obtain⟨u,e2,q2⟩:=q.get hv
   exact⟨_,_,_,_,rfl,e1,h2,Or.inr ⟨p,_,hS,fun q=>by cases q⟩,fun c h1 K' k=>wi e1 h1 h2 e2 (k _ q2)⟩) hk
theorem bz {n:Nat}{x:XV}{p id off:Nat}{vs us:List PV}(hk:K0 (.agg us))(hx:bx G x=some (.ptr p id off):=by exact rfl)(hS:aC S p=some (some id,.cells vs):=by exact rfl)(hu:off+n<=vs.length/\(vs.drop off).take n=us:=by exact⟨dc,rfl⟩):zx P X M (.ao n x) G S K0:=
 mK (p:= .agg us) (fun h F env r s=>by
  obtain⟨a,e1,q⟩:=r.ev hx
  cases q
  obtain⟨ab,h2,h3⟩:=s p id _ hS (fun q=>by cases q)
  cases h3 with
  |cells _ azs q=>
   obtain⟨q1,q2⟩:=q.part hu.1
   rw[hu.2]at q1
   exact⟨_,_,_,_,rfl,e1,h2,Or.inr ⟨p,_,hS,fun q=>by cases q⟩,fun c h1 K' k=>wj e1 h1 h2 q2 rfl (k _ (.agg _ _ q1))⟩) hk
theorem au {n:Nat}{x:XV}{p id:Nat}{vs:List PV}(hk:K0 (.agg vs))(hx:bx G x=some (.ptr p id 0):=by exact rfl)(hS:aC S p=some (some id,.cells vs):=by exact rfl)(hu:vs.length=n:=by exact rfl):zx P X M (.ao n x) G S K0:=
 bz hk hx hS ⟨om,by rw[List.drop_zero,<-hu,List.take_length]⟩
theorem ah {x:XV}{off:Nat}{row:List PV}{v:PV}(hk:K0 v)(hx:bx G x=some (.fp row off):=by exact rfl)(hv:qn row off=some v:=by exact rfl):zx P X M (.ax x) G S K0:=
 mK (p:=v) (fun h F env r s=>by
  obtain⟨a,e1,q⟩:=r.ev hx
  cases q with
  |fp _ _ id base vs h1 h2 h3 h4=>
   rw[kO]at hv
   obtain⟨b,e2,q2⟩:=h4.get hv
   rw[List.getElem?_take]at e2
   split at e2
   ·rw[List.getElem?_drop]at e2
    exact⟨_,_,_,_,rfl,e1,h2,Or.inl h1,fun c hc K' k=>wi e1 hc h2 e2 (k _ q2)⟩
   ·cases e2) hk
theorem iF {n:Nat}{x:XV}{off:Nat}{row us:List PV}(hk:K0 (.agg us))(hx:bx G x=some (.fp row off):=by exact rfl)(hu:off+n<=row.length/\(row.drop off).take n=us:=by exact⟨dc,rfl⟩):zx P X M (.ao n x) G S K0:=
 mK (p:= .agg us) (fun h F env r s=>by
  obtain⟨a,e1,q⟩:=r.ev hx
  cases q with
  |fp _ _ id base vs h1 h2 h3 h4=>
   obtain⟨q1,q2⟩:=h4.part hu.1
   rw[hu.2]at q1
   rw[List.length_take,List.length_drop]at q2
   have e2:(vs.drop (base+off)).take n=(((vs.drop base).take row.length).drop off).take n:=by
    rw[List.drop_take,List.take_take,List.drop_drop]
    congr 1
    omega
   exact⟨_,_,_,_,rfl,e1,h2,Or.inl h1,fun c hc K' k=>wj e1 hc h2 om e2 (k _ (.agg _ _ q1))⟩) hk
theorem ay {n:Nat}{x:XV}{row:List PV}(hk:K0 (.agg row))(hx:bx G x=some (.fp row 0):=by exact rfl)(hu:row.length=n:=by first|exact rfl|(simp;done)):zx P X M (.ao n x) G S K0:=
 iF hk hx ⟨om,by rw[List.drop_zero,<-hu,List.take_length]⟩
theorem iy {x:XV}{p id i off e n:Nat}{rows:Nat->List PV}{v:PV}(hk:K0 v)(hx:bx G x=some (.gu p id i off e):=by exact rfl)(hS:aC S p=some (some id,.arr e n rows):=by exact rfl)(hv:qn (rows i) off=some v:=by exact rfl)(hi:i<n:=by omega):zx P X M (.ax x) G S K0:=
 mK (p:=v) (fun h F env r s=>by
  obtain⟨a,e1,q⟩:=r.ev hx
  cases q
  obtain⟨ab,h2,h3⟩:=s p id _ hS (fun q=>by cases q)
  cases h3 with
  |arr _ _ _ azs q1 q2 q3=>
   rw[kO]at hv
   obtain⟨u,e2,q4⟩:=(q3 i hi).get hv
   rw[List.getElem?_take]at e2
   split at e2
   ·rw[List.getElem?_drop]at e2
    exact⟨_,_,_,_,rfl,e1,h2,Or.inr ⟨p,_,hS,fun q=>by cases q⟩,fun c h1 K' k=>wi e1 h1 h2 e2 (k _ q4)⟩
   ·cases e2) hk
theorem HB {e:Nat}{x:XV}{p id i n:Nat}{rows:Nat->List PV}(hk:K0 (.agg (rows i)))(hx:bx G x=some (.gu p id i 0 e):=by exact rfl)(hS:aC S p=some (some id,.arr e n rows):=by exact rfl)(hi:i<n:=by omega):zx P X M (.ao e x) G S K0:=
 mK (p:= .agg (rows i)) (fun h F env r s=>by
  obtain⟨a,e1,q⟩:=r.ev hx
  cases q
  obtain⟨ab,h2,h3⟩:=s p id _ hS (fun q=>by cases q)
  cases h3 with
  |arr _ _ _ azs q1 q2 q3=>
   have:=Nat.mul_le_mul_right e hi
   rw[Nat.succ_mul]at this
   exact⟨_,_,_,_,rfl,e1,h2,Or.inr ⟨p,_,hS,fun q=>by cases q⟩,fun c h1 K' k=>wj e1 h1 h2 om rfl (k _ (.agg _ _ (q3 i hi)))⟩) hk
theorem aI {n:Nat}{a x:XV}{p id off:Nat}{vs:List PV}{v:PV}(hk:K (.bn []) ((p,some id,.cells (wP off v.cells vs))::S))(ha:bx G a=some (.ptr p id off):=by exact rfl)(hx:bx G x=some v:=by exact rfl)(hS:aC S p=some (some id,.cells vs):=by exact rfl)(hn:v.cells.length=n:=by exact rfl)(ho:PV.cy v.cells=true:=by exact rfl)(hl:off+n<=vs.length:=by first|exact Nat.le_of_ble_eq_true rfl|decide|(simp;done)):PO P X M d (.store n a x) G S K:=⟨fun c h F env s r=>by
 obtain⟨a',e1,q1⟩:=r.ev ha
 obtain⟨v',e2,q2⟩:=r.ev hx
 cases q1
 obtain⟨h0,h1,_,ab,h2,h3⟩:=s.at_ hS (fun q=>by cases q)
 cases h3 with
 |cells _ azs q=>
  have hc:=q2.cells
  obtain⟨s1,x1⟩:=s.put hS (fun q=>by cases q) (RB.cells _ _ (q.dM hc off))
  exact Db e1 e2 h0 h1 h2 (by rw[hc.len];exact hn) (hc.cy ho) (by rw[q.len];exact hl) ⟨_,_,F,x1,s1,.bn _ _ .nil,hk⟩⟩
theorem xT {n:Nat}{a x:XV}{p id i off e m:Nat}{rows:Nat->List PV}{v:PV}(hk:K (.bn []) ((p,some id,.arr e m (fun j=>if j=i then wP off v.cells (rows i)else rows j))::S))(ha:bx G a=some (.gu p id i off e):=by exact rfl)(hx:bx G x=some v:=by exact rfl)(hS:aC S p=some (some id,.arr e m rows):=by exact rfl)(hn:v.cells.length=n:=by exact rfl)(ho:PV.cy v.cells=true:=by exact rfl)(hl:off+n<=e:=by first|exact Nat.le_of_ble_eq_true rfl|decide|(simp;done))(hi:i<m:=by omega):PO P X M d (.store n a x) G S K:=⟨fun c h F env s r=>by
 obtain⟨a',e1,q1⟩:=r.ev ha
 obtain⟨v',e2,q2⟩:=r.ev hx
 cases q1
 obtain⟨h0,h1,_,ab,h2,h3⟩:=s.at_ hS (fun q=>by cases q)
 cases h3 with
 |arr _ _ _ azs r1 r2 r3=>
  have hc:=q2.cells
  have hcl:=hc.len
  have him:=Nat.mul_le_mul_right e hi
  rw[Nat.succ_mul]at him
  have hlen:(dM (i*e+off) v'.cells azs).length=azs.length:=by
   unfold Ev.dM;simp;omega
  have hrow: ∀j,j<m->((dM (i*e+off) v'.cells azs).drop (j*e)).take e=if j=i then dM off v'.cells ((azs.drop (i*e)).take e)else(azs.drop (j*e)).take e:=fun j hj=>by
   have hjm:=Nat.mul_le_mul_right e hj
   rw[Nat.succ_mul]at hjm
   by_cases hji:j=i
   ·subst hji
    rw[if_pos rfl]
    apply List.ext_getElem?
    intro t
    unfold Ev.dM
    simp only[List.getElem?_take,List.getElem?_drop,List.getElem?_append,List.length_append,List.length_take,List.length_drop]
    by_cases t1:t<off
    ·have a1:j*e+t<min (j*e+off) azs.length:=by omega
     have a2:t<min off (min e (azs.length-j*e)):=by omega
     have a3:j*e+t<min (j*e+off) azs.length+v'.cells.length:=by omega
     have a4:t<min off (min e (azs.length-j*e))+v'.cells.length:=by omega
     have a5:t<e:=by omega
     have a6:j*e+t<j*e+off:=by omega
     simp[a1,a2,a3,a4,a5,a6,t1]
    ·by_cases t2:t<off+v'.cells.length
     ·have a1: ¬j*e+t<min (j*e+off) azs.length:=by omega
      have a2: ¬t<min off (min e (azs.length-j*e)):=by omega
      have a3:j*e+t<min (j*e+off) azs.length+v'.cells.length:=by omega
      have a4:t<min off (min e (azs.length-j*e))+v'.cells.length:=by omega
      have a5:t<e:=by omega
      have a6:j*e+t-min (j*e+off) azs.length=t-min off (min e (azs.length-j*e)):=by omega
      simp only[a1,a2,a3,a4,a5,a6,if_true,if_false]
     ·have a3: ¬j*e+t<min (j*e+off) azs.length+v'.cells.length:=by omega
      have a4: ¬t<min off (min e (azs.length-j*e))+v'.cells.length:=by omega
      simp only[a3,a4,if_false]
      by_cases t3:t<e
      ·have a6:j*e+off+v'.cells.length+(j*e+t-(min (j*e+off) azs.length+v'.cells.length))=j*e+t:=by omega
       have a7:j*e+(off+v'.cells.length+(t-(min off (min e (azs.length-j*e))+v'.cells.length)))=j*e+t:=by omega
       have a8:off+v'.cells.length+(t-(min off (min e (azs.length-j*e))+v'.cells.length))<e:=by omega
       simp only[a6,a7,a8,t3,if_true]
      ·have a8: ¬off+v'.cells.length+(t-(min off (min e (azs.length-j*e))+v'.cells.length))<e:=by omega
       simp only[a8,t3,if_false]
   ·rw[if_neg hji]
    apply List.ext_getElem?
    intro t
    unfold Ev.dM
    simp only[List.getElem?_take,List.getElem?_drop,List.getElem?_append,List.length_append,List.length_take]
    by_cases t0:t<e
    ·rw[if_pos t0,if_pos t0]
     rcases Nat.lt_or_gt_of_ne hji with y|y
     ·have:=Nat.mul_le_mul_right e y
      rw[Nat.succ_mul]at this
      have a1:j*e+t<min (i*e+off) azs.length:=by omega
      have a3:j*e+t<min (i*e+off) azs.length+v'.cells.length:=by omega
      have a6:j*e+t<i*e+off:=by omega
      simp[a1,a3,a6]
     ·have:=Nat.mul_le_mul_right e y
      rw[Nat.succ_mul]at this
      have a3: ¬j*e+t<min (i*e+off) azs.length+v'.cells.length:=by omega
      have a6:i*e+off+v'.cells.length+(j*e+t-(min (i*e+off) azs.length+v'.cells.length))=j*e+t:=by omega
      simp only[a3,a6,if_false]
    ·rw[if_neg t0,if_neg t0]
  have hrb:RB h F (.arr e m (fun j=>if j=i then wP off v.cells (rows i)else rows j)) (.cells (dM (i*e+off) v'.cells azs)):=by
   refine .arr _ _ _ _ (by rw[hlen];exact r1) (fun j hj=>?_) fun j hj=>?_
   ·by_cases hji:j=i
    ·rw[if_pos hji,Da (by rw[r2 i hi];omega)];exact r2 i hi
    ·rw[if_neg hji];exact r2 j hj
   ·rw[hrow j hj]
    by_cases hji:j=i
    ·rw[if_pos hji,if_pos hji];exact(r3 i hi).dM hc off
    ·rw[if_neg hji,if_neg hji];exact r3 j hj
  obtain⟨s1,x1⟩:=s.put hS (fun q=>by cases q) hrb
  exact Db e1 e2 h0 h1 h2 (by rw[hc.len];exact hn) (hc.cy ho) om ⟨_,_,F,x1,s1,.bn _ _ .nil,hk⟩⟩
/-! places of slices -/
theorem bA {e:Nat}{x i:XV}{k:IntKind}{z:Int}{n:Nat}{rows:Nat->List PV}(hk:K0 (.fp (rows z.toNat) 0))(hx:bx G x=some (.tr e n rows):=by exact rfl)(hi:bx G i=some (.int k z):=by exact rfl)(h0:0<=z:=by omega)(h1:z<(n:Int):=by omega):kM P X M (.aQ e x i) G K0:=
 ez (p:= .fp (rows z.toNat) 0) (fun c h F env r K k=>by
  obtain⟨a,e1,q⟩:=r.ev hx
  obtain⟨b,e2,q2⟩:=r.ev hi
  cases q2
  have hz:z=((z.toNat:Nat):Int):=by omega
  have hlt:z.toNat<n:=by omega
  cases q with
  |tX _ _ _ _=>omega
  |tr _ _ _ id off cap vs g0 g1 g2 g3 g4 g5=>
   refine Dc e1 e2 hz hlt (k _ ?_)
   have g6:=g5 _ hlt
   have g7:=g4 _ hlt
   have:=Nat.mul_le_mul_right e hlt
   rw[Nat.succ_mul]at this
   have q:=R.fp (F:=F) (rows z.toNat) 0 id (off+z.toNat*e) vs g1 g2 om (by rw[g7];exact g6)
   rwa [Nat.add_zero]at q) hk
theorem aj {e:Nat}{x i:XV}{k:IntKind}{j:Nat}{n:Nat}{rows:Nat->List PV}(hk:K0 (.fp (rows j) 0))(hx:bx G x=some (.tr e n rows):=by exact rfl)(hi:bx G i=some (.int k (j:Int)):=by exact rfl)(h1:j<n:=by omega):kM P X M (.aQ e x i) G K0:=bA hk hx hi om om
theorem aG {x:XV}{p id off:Nat}{vs:List PV}{v:Bool}(ht:v=true->K0 (.bool true))(hf:v=false->K0 (.bool false))(hx:bx G x=some (.ptr p id off):=by exact rfl)(hS:aC S p=some (some id,.cells vs):=by exact rfl)(hv:qn vs off=some (.bool v):=by exact rfl):zx P X M (.ax x) G S K0:=
 ad (v:= .bool v) (by cases v with|true=>exact ht rfl|false=>exact hf rfl) hx hS hv
theorem dK {x:XV}{off:Nat}{row:List PV}{v:Bool}(ht:v=true->K0 (.bool true))(hf:v=false->K0 (.bool false))(hx:bx G x=some (.fp row off):=by exact rfl)(hv:qn row off=some (.bool v):=by exact rfl):zx P X M (.ax x) G S K0:=
 ah (v:= .bool v) (by cases v with|true=>exact ht rfl|false=>exact hf rfl) hx hv
theorem qX {e:Nat}{x i:XV}{k:IntKind}{z:Int}{p n:Nat}{aT:Option Nat}(hk: ∀id,aT=some id->K0 (.gu p id z.toNat 0 e))(hx:bx G x=some (.own p aT n e):=by exact rfl)(hi:bx G i=some (.int k z):=by exact rfl)(h0:0<=z:=by omega)(h1:z<(n:Int):=by omega):kM P X M (.aQ e x i) G K0:=by
 have hz:z=((z.toNat:Nat):Int):=by omega
 have hlt:z.toNat<n:=by omega
 cases aT with
 |none=>exact⟨fun c h F env r K' k=>by
     obtain⟨a,e1,q⟩:=r.ev hx
     cases q
     omega⟩
 |some id=>exact ez (p:= .gu p id z.toNat 0 e) (fun c h F env r K k=>by
     obtain⟨a,e1,q⟩:=r.ev hx
     obtain⟨b,e2,q2⟩:=r.ev hi
     cases q2
     cases q with
     |own _ _ _ _ cap hb=>
      refine Dc e1 e2 hz hlt (k _ ?_)
      rw[Nat.zero_add]
      exact .gu _ _ _ _ _) (hk id rfl)
theorem dW {e:Nat}{x i:XV}{k:IntKind}{j p n:Nat}{aT:Option Nat}(hk: ∀id,aT=some id->K0 (.gu p id j 0 e))(hx:bx G x=some (.own p aT n e):=by exact rfl)(hi:bx G i=some (.int k (j:Int)):=by exact rfl)(h1:j<n:=by omega):kM P X M (.aQ e x i) G K0:=qX (z:=(j:Int)) hk hx hi om om
theorem JZ {n:Nat}(l:List (List Nat)){x i:XV}{k:IntKind}{j:Nat}(hk:K0 (.str (l.getD j [])))(hx:bx G x=some (.agg (l.map PV.str)):=by exact rfl)(hi:bx G i=some (.int k (j:Int)):=by exact rfl)(hn:n<=l.length:=by decide)(h1:j<n:=by omega):kM P X M (.P9 n x i) G K0:=
 ez (p:= .str (l.getD j [])) (fun c h F env r K k=>by
  obtain⟨a,e1,q1⟩:=r.ev hx
  obtain⟨b,e2,q2⟩:=r.ev hi
  cases q2
  cases q1 with
  |agg _ azs q=>
   have hj:j<l.length:=by omega
   have e3:(l.map PV.str)[j]? =some (.str (l.getD j [])):=by simp[hj]
   obtain⟨u,e4,q4⟩:=q.get e3
   refine bd (fun sl hs call k'=>?_) (k _ q4)
   simp only[SO.den,Cs,hs.ev e1,hs.ev e2]
   show(match AV.agg azs,some j with| .agg vs,some i=>_|_,_=>none)=_
   have b1:Nat.blt j n=true:=by simpa[Nat.blt_eq]using h1
   simp only[b1,cond,gA,e4]) hk
theorem HI {n:Nat}(l:List (List Nat)){x i:XV}{k:IntKind}{z:Int}(hk:K0 (.fp [.str (l.getD z.toNat [])] 0))(hx:bx G x=some (.fp (l.map PV.str) 0):=by exact rfl)(hi:bx G i=some (.int k z):=by exact rfl)(hn:n<=l.length:=by decide)(h0:0<=z:=by omega)(h1:z<(n:Int):=by omega):kM P X M (.rf n 1 x i) G K0:=
 ez (p:= .fp [.str (l.getD z.toNat [])] 0) (fun c h F env r K k=>by
  obtain⟨a,e1,q1⟩:=r.ev hx
  obtain⟨b,e2,q2⟩:=r.ev hi
  cases q2
  obtain⟨j,rfl⟩:=Int.eq_ofNat_of_zero_le h0
  have hj:j<l.length:=by omega
  cases q1 with
  |fp _ _ id base vs h1 h2 h3 h4=>
   have e3:(l.map PV.str)[j]? =some (.str (l.getD j [])):=by simp[hj]
   obtain⟨u,e4,q4⟩:=h4.get e3
   rw[List.length_map]at h3 e4
   rw[List.getElem?_take,if_pos hj,List.getElem?_drop]at e4
   have hb:Nat.blt j n=true:=by simp[Nat.blt_eq];omega
   refine bd (fun sl hs call k'=>?_) (k (.ptr id (base+0+j*1)) ?_)
   ·simp only[SO.den,mr,hs.ev e1,hs.ev e2]
    show(match AV.ptr id (base+0),some j with| .ptr id off,some i=>_|_,_=>none)=_
    simp only[hb,cond,aZ];rfl
   ·have:=R.fp (F:=F) [.str (l.getD j [])] 0 id (base+j) vs h1 h2 (by simp;omega) (by
      have e5:(vs.drop (base+j)).take 1=[u]:=by
       rw[List.take_one,List.head?_drop,e4];rfl
      show Rs h F _ ((vs.drop (base+j)).take 1)
      rw[e5]
      exact .cons _ _ _ _ q4 .nil)
    rw[show base+0+j*1=base+j+0 by omega]
    exact this) hk
end
theorem Dd: ∀{l:List AV},(∀x∈l,Ev.one x=true)->Ev.cy l=true
 |[],_=>rfl
 |x::l,h=>by
  simp only[Ev.cy,h x (by simp)]
  exact Dd fun y hy=>h y (by simp[hy])
theorem De: ∀{l:List AV},Ev.cy l=true-> ∀x∈l,Ev.one x=true
 |[],_,x,hx=>by simp at hx
 |y::l,h,x,hx=>by
  unfold Ev.cy at h
  cases hy:Ev.one y with
  |false=>rw[hy]at h;cases h
  |true=>
   rw[hy]at h
   rcases List.mem_cons.1 hx with rfl|q
   ·exact hy
   ·exact De h x q
inductive Src (S:aJ)(e:Nat):PV->Nat->(Nat->List PV)->Prop
 |tr (m:Nat) (rows:Nat->List PV):Src S e (.tr e m rows) m rows
 |own (q:Nat) (aT:Option Nat) (m n:Nat) (rows:Nat->List PV):aC S q=some (aT,.arr e n rows)->m<=n->Src S e (.own q aT m e) m rows
 |aE (rows:Nat->List PV):Src S e .aE 0 rows
inductive Uk (S:aJ)(e d:Nat):PV->Nat->Nat->(Nat->List PV)->Prop
 |aE (rows:Nat->List PV):Uk S e d .aE d 0 rows
 |own (p:Nat) (aT:Option Nat) (k n:Nat) (rows:Nat->List PV):aC S p=some (aT,.arr e n rows)->k<=n->Uk S e d (.own p aT k e) p k rows
def oC (k:Nat)(r1 r2:Nat->List PV):Nat->List PV:=fun i=>if i<k then r1 i else r2 (i-k)
structure nv (h:H)(F:Nat->Prop)(e m:Nat)(rows:Nat->List PV)(us:List AV):Prop where
 len:us.length=m*e
 rl: ∀i,i<m->(rows i).length=e
 at_: ∀i,i<m->Rs h F (rows i) ((us.drop (i*e)).take e)
theorem nv.cy {h:H}{F:Nat->Prop}{e m:Nat}{rows:Nat->List PV}{us:List AV}(l:nv h F e m rows us)(ho: ∀i,i<m->PV.cy (rows i)=true):Ev.cy us=true:=Dd fun x hx=>by
 obtain⟨t,ht,rfl⟩:=List.mem_iff_getElem.1 hx
 have hl:=l.len
 have he:0<e:=by
  rcases Nat.eq_zero_or_pos e with q|q
  ·subst q;rw[Nat.mul_zero]at hl;omega
  ·exact q
 have hi:t/e<m:=(Nat.div_lt_iff_lt_mul he).2 (by rw[<-hl];exact ht)
 have h1:=(l.at_ _ hi).cy (ho _ hi)
 refine De h1 _ ?_
 have h2:t/e*e+t % e=t:=by rw[Nat.mul_comm];exact Nat.div_add_mod t e
 have h3:=Nat.mod_lt t he
 refine List.mem_of_getElem? (i:=t % e) ?_
 rw[List.getElem?_take,if_pos h3,List.getElem?_drop,h2]
 simp[ht]
theorem nv.app {h:H}{F:Nat->Prop}{e k m:Nat}{r1 r2:Nat->List PV}{us vs:List AV}(a:nv h F e k r1 us)(b:nv h F e m r2 vs):nv h F e (k+m) (oC k r1 r2) (us++vs):=by
 have hal:=a.len
 have hbl:=b.len
 refine⟨by rw[List.length_append,hal,hbl,Nat.add_mul],fun i hi=>?_,fun i hi=>?_⟩
 ·unfold oC
  by_cases x:i<k
  ·rw[if_pos x];exact a.rl i x
  ·rw[if_neg x];exact b.rl _ om
 ·unfold oC
  by_cases x:i<k
  ·rw[if_pos x]
   have:=Nat.mul_le_mul_right e x
   rw[Nat.succ_mul]at this
   rw[List.drop_append_of_le_length (by omega),List.take_append_of_le_length (by rw[List.length_drop];omega)]
   exact a.at_ i x
  ·rw[if_neg x]
   have hk:k<=i:=by omega
   have h2:=Nat.mul_le_mul_right e hk
   have h3:(us++vs).drop (i*e)=vs.drop ((i-k)*e):=by
    rw[List.drop_append,List.drop_eq_nil_of_le (by omega),List.nil_append,hal,Nat.sub_mul]
   rw[h3]
   exact b.at_ _ om
theorem nv.rb {h:H}{F:Nat->Prop}{e m:Nat}{rows:Nat->List PV}{us:List AV}(l:nv h F e m rows us):RB h F (.arr e m rows) (.cells us):= .arr _ _ _ _ (by rw[l.len];exact Nat.le_refl _) l.rl l.at_
theorem AD {h:H}{F:Nat->Prop}{e m:Nat}{rows:Nat->List PV}{vs:List AV}{off:Nat}(hl:off+m*e<=vs.length)(h1: ∀i,i<m->(rows i).length=e)(h2: ∀i,i<m->Rs h F (rows i) ((vs.drop (off+i*e)).take e)):nv h F e m rows ((vs.drop off).take (m*e)):=by
 refine⟨by simp;omega,h1,fun i hi=>?_⟩
 have:=Nat.mul_le_mul_right e hi
 rw[Nat.succ_mul]at this
 have e1:(((vs.drop off).take (m*e)).drop (i*e)).take e=(vs.drop (off+i*e)).take e:=by
  rw[List.drop_take,List.take_take,List.drop_drop]
  congr 1
  omega
 rw[e1]
 exact h2 i hi
theorem L8 {c:C}{h:H}{F:Nat->Prop}{S:aJ}(s:St c h F S){e m:Nat}{v:PV}{rows:Nat->List PV}(q:Src S e v m rows){a:AV}(r:R h F v a): ∃us,nv h F e m rows us/\ ∀k:Nat->List AV->Out,xA c h e a k=k m us:=by
 have nil: ∀rows,nv h F e 0 rows []:=fun rows=>⟨by simp,fun i hi=>absurd hi (Nat.not_lt_zero _),fun i hi=>absurd hi (Nat.not_lt_zero _)⟩
 cases q with
 |tr=>
  cases r with
  |tX _ _ _ q=>
   rcases q with rfl|⟨oa,cp,rfl⟩|⟨id,off,cap,vs,rfl,q1,q2,q3⟩
   ·exact⟨[],nil _,fun k=>rfl⟩
   ·exact⟨[],nil _,fun k=>rfl⟩
   ·exact⟨[],nil _,fun k=>AE (s.fr id q1).2 q2 rfl om (by simp)⟩
  |tr _ _ _ id off cap vs g0 g1 g2 g3 g4 g5=>exact⟨_,AD g3 g4 g5,fun k=>AE (s.fr id g1).2 g2 rfl g3 rfl⟩
 |own p aT m n rows e1 hle=>
  cases r with
  |own _ id _ _ cap hbn=>
   obtain⟨_,h1,_,ab,h2,h3⟩:=s.at_ e1 (fun q=>by cases q)
   cases h3 with
   |arr _ _ _ azs q1 q2 q3=>
    have:=Nat.mul_le_mul_right e hle
    exact⟨(azs.drop 0).take (m*e),AD om (fun i hi=>q2 i om) (fun i hi=>by rw[Nat.zero_add];exact q3 i om),fun k=>AE h1 h2 rfl om rfl⟩
  |hY=>exact⟨[],nil _,fun k=>rfl⟩
 |aE rows=>cases r;exact⟨[],nil _,fun k=>rfl⟩
section
variable {P:Program}{X:cj}{M:Mf}{d:Nat}{G:aK}{S:aJ}{K:PV->aJ->Prop}{op:SO}{K0:PV->Prop}{K1:(Nat->PV)->PB->Prop}
theorem jF {e by_:Nat}{s x:XV}{t v:PV}{p k m:Nat}{r1 r2:Nat->List PV}(hk: ∀aT,(0<k+m-> ∃id,aT=some id)->K (.own p aT (k+m) e) ((p,aT,.arr e (k+m) (oC k r1 r2))::S))(hs:bx G s=some t)(hx:bx G x=some v)(ht:Uk S e d t p k r1)(hv:Src S e v m r2)(ho: ∀i,i<m->PV.cy (r2 i)=true)(hb:(k+m)*by_<=140737488355328)(hby:0<by_):PO P X M d (.append e by_ s x) G S K:=⟨fun c h F env st r=>by
 obtain⟨a,e1,q1⟩:=r.ev hs
 obtain⟨b,e2,q2⟩:=r.ev hx
 obtain⟨us,l2,hsrc⟩:=L8 st hv q2
 have hones:=l2.cy ho
 have fin: ∀(h1:H) (aT:Option Nat) (av:AV),(0<k+m-> ∃id,aT=some id)->St c h1 F ((p,aT,.arr e (k+m) (oC k r1 r2))::S)/\Ext h F S h1 F ((p,aT,.arr e (k+m) (oC k r1 r2))::S)->R h1 F (.own p aT (k+m) e) av-> ∃p' S' F',Ext h F S h1 F' S'/\St c h1 F' S'/\R h1 F' p' av/\K p' S':=fun h1 aT av g1 g2 g3=>⟨_,_,F,g2.2,g2.1,g3,hk aT g1⟩
 have zero:m=0->dP env s=some a->WO P X M c (.append e by_ s x) env h (fun v h'=> ∃p S' F',Ext h F S h' F' S'/\St c h' F' S'/\R h' F' p v/\K p S'):=fun hm es=>by
  subst hm
  have hu:us=[]:=by have:=l2.len;simpa using this
  subst hu
  have key: ∀aT,(0<k+0-> ∃id,aT=some id)->(∀id,aT=some id->(∃b,aC S p=some (some id,b)/\b≠ .dead)/\ ∃ab,h.get id=some ab/\ ∀F':Nat->Prop,(∀i,F i->F' i/\h.get i=h.get i)->RB h F' (.arr e (k+0) (oC k r1 r2)) ab)->R h F (.own p aT (k+0) e) a-> ∃p' S' F',Ext h F S h F' S'/\St c h F' S'/\R h F' p' a/\K p' S':=fun aT g1 g2 g3=>
   fin h aT a g1 (st.tH (Nat.le_refl _) (fun _ _ _=>rfl) fun id hid _=>⟨Or.inr (g2 id hid).1,(g2 id hid).2⟩) g3
  cases ht with
  |aE=>
   cases q1
   exact bd (fun sl hh call k=>by simp only[SO.den,eo,hh.ev e1,hh.ev e2];rw[hsrc];rfl) (key none (fun x=>absurd x om) (fun id q=>by cases q) (.hY _ _))
  |own _ aT _ n _ g1 g2=>
   cases q1 with
   |hY=>exact bd (fun sl hh call k=>by simp only[SO.den,eo,hh.ev e1,hh.ev e2];rw[hsrc];rfl) (key none (fun x=>absurd x om) (fun id q=>by cases q) (.hY _ _))
   |own _ id _ _ cap hbn=>
    refine bd (fun sl hh call k=>by
     simp only[SO.den,eo,hh.ev e1,hh.ev e2];rw[hsrc]
     have:Nat.beq e e=true:=by simp
     simp only[Ev.cy,cond,pV,this]) (key (some id) (fun _=>⟨id,rfl⟩) (fun i q=>?_) (.own _ _ _ _ cap hbn))
    cases q
    obtain⟨_,_,_,ab,h2,h3⟩:=st.at_ g1 (fun q=>by cases q)
    refine⟨⟨_,g1,fun q=>by cases q⟩,ab,h2,fun F' hm=>?_⟩
    have h4:=h3.mono hm
    cases h4 with
    |arr _ _ _ azs w1 w2 w3=>
     have:=Nat.mul_le_mul_right e g2
     refine .arr _ _ _ _ (by rw[Nat.add_zero];omega) (fun i hi=>?_) fun i hi=>?_
     ·unfold oC;rw[if_pos (by omega)];exact w2 i om
     ·unfold oC;rw[if_pos (by omega)];exact w3 i om
 by_cases hm:m=0
 ·exact zero hm e1
 have hnb:Nat.beq m 0=false:=by rw[mB];simp[hm]
 have hbl:Nat.blt 140737488355328 (Nat.mul (k+m) by_)=false:=yD hb
 have hkm:k+m<=140737488355328:=Nat.le_trans (Nat.le_mul_of_pos_right _ hby) hb
 have made: ∀(h0:H) (l:List AV),h0.n=h.n->(∀j,j<h.n->(∀b,aC S p=some (some j,b)->b= .dead)->h0.get j=h.get j)->(∀i,F i->h0.get i=h.get i)->nv h F e (k+m) (oC k r1 r2) l-> ∃p' S' F',Ext h F S (h0.new (.cells l)) F' S'/\St c (h0.new (.cells l)) F' S'/\R (h0.new (.cells l)) F' p' (.sl h0.n 0 (k+m) e none)/\K p' S':=fun h0 l hn hg hgF hl=>by
  refine fin _ (some h0.n) _ (fun _=>⟨_,rfl⟩) (st.tH (by rw[wg];omega) (fun j hj hd=>?_) fun id hid _=>?_) (.own _ _ _ _ _ om)
  ·rw[gL (Nat.lt_succ_self _) _ (by omega)];exact hg j hj hd
  ·cases hid
   refine⟨Or.inl ⟨hn,by rw[wg];omega⟩,_,kP (Nat.lt_succ_self _) _,fun F' hm=>hl.rb.mono fun i hi=>⟨(hm i hi).1,?_⟩⟩
   exact(hm i hi).2
 have fr: ∀(id:Nat),F id->id<h.n:=fun id q=>(st.fr id q).1
 cases ht with
 |aE=>
  cases q1
  have l0:nv h F e 0 r1 []:=⟨by simp,fun i hi=>absurd hi (Nat.not_lt_zero _),fun i hi=>absurd hi (Nat.not_lt_zero _)⟩
  have hl:=l0.app l2
  rw[List.nil_append]at hl
  have q:=made h us rfl (fun _ _ _=>rfl) (fun _ _=>rfl) hl
  rw[Nat.zero_add]at hbl q
  exact bd (fun sl hh call k=>by
   simp only[SO.den,eo,hh.ev e1,hh.ev e2];rw[hsrc]
   simp only[hones,cond,pV,hnb,hbl]
   rw[eS (Nat.lt_succ_self _)]) q
 |own _ aT _ n _ g1 g2=>
  cases q1 with
  |hY=>
   have l0:nv h F e 0 r1 []:=⟨by simp,fun i hi=>absurd hi (Nat.not_lt_zero _),fun i hi=>absurd hi (Nat.not_lt_zero _)⟩
   have hl:=l0.app l2
   rw[List.nil_append]at hl
   have q:=made h us rfl (fun _ _ _=>rfl) (fun _ _=>rfl) hl
   rw[Nat.zero_add]at hbl q
   exact bd (fun sl hh call k=>by
    simp only[SO.den,eo,hh.ev e1,hh.ev e2];rw[hsrc]
    simp only[hones,cond,pV,hnb,hbl]
    rw[eS (Nat.lt_succ_self _)]) q
  |own _ id _ _ cap hbn=>
   obtain⟨f1,f2,f3,ab,h2,h3⟩:=st.at_ g1 (fun q=>by cases q)
   cases h3 with
   |arr _ _ _ azs w1 w2 w3=>
    have hke:=Nat.mul_le_mul_right e g2
    have l1:nv h F e k r1 ((azs.drop 0).take (k*e)):=AD om (fun i hi=>w2 i om) (fun i hi=>by rw[Nat.zero_add];exact w3 i om)
    have hl:=l1.app l2
    have hbe:Nat.beq e e=true:=by simp
    cases hc:fK cap (k+m)with
    |true=>
     refine bd (fun sl hh call k'=>?_) (made h _ rfl (fun _ _ _=>rfl) (fun _ _=>rfl) hl)
     simp only[SO.den,eo,hh.ev e1,hh.ev e2]
     rw[hsrc]
     simp only[hones,cond,pV,hbe,hnb,dB,bW f2,h2]
     rw[gM _ _ _ (by omega)]
     show fI (k*e) _ _=_
     rw[gN _ _ _ (by simp;omega)]
     simp only[ep,aZ]
     show(bif Nat.blt 140737488355328 (Nat.mul (k+m) by_)then _ else _)=_
     rw[hbl]
     simp only[cond]
     show(bif fK cap (k+m)then _ else _)=_
     rw[hc]
     simp only[cond]
     rw[eS (Nat.lt_succ_self _)];rfl
    |false=>
     refine bd (fun sl hh call k'=>?_) (made (h.put id .dead) _ rfl (fun j hj hd=>?_) (fun i hi=>?_) hl)
     ·simp only[SO.den,eo,hh.ev e1,hh.ev e2]
      rw[hsrc]
      simp only[hones,cond,pV,hbe,hnb,dB,bW f2,h2]
      rw[gM _ _ _ (by omega)]
      show fI (k*e) _ _=_
      rw[gN _ _ _ (by simp;omega)]
      simp only[ep,aZ]
      show(bif Nat.blt 140737488355328 (Nat.mul (k+m) by_)then _ else _)=_
      rw[hbl]
      simp only[cond]
      show(bif fK cap (k+m)then _ else _)=_
      rw[hc]
      simp only[cond]
      rw[kK f1 f2,eS (h:=h.put id .dead) (Nat.lt_succ_self _)];rfl
     ·exact jt (Nat.lt_succ_self _) _ fun q=>by
        subst q
        have:=hd _ g1
        cases this
     ·exact jt (Nat.lt_succ_self _) _ fun q=>by
        subst q
        exact(st.own p _ _ g1 (fun q=>by cases q)).2.2.2.1 hi⟩
/-! parts of slices -/
def nx (G:aK)(z:Int):Option XV->Option Int
 |none=>some z
 |some x=>match bx G x with
  |some (.int _ n)=>some n
  |_=>none
theorem sQ {h:H}{F:Nat->Prop}{env:bo}(r:RE h F G env){z:Nat}{x:Option XV}{n:Int}(e:nx G z x=some n)(h0:0<=n):IY env z x=some n.toNat:=by
 cases x with
 |none=>cases e;rfl
 |some x=>
  simp only[nx]at e
  split at e
  ·rename_i k m hx
   cases e
   obtain⟨a,e1,q⟩:=r.ev hx
   cases q
   obtain⟨j,rfl⟩:=Int.eq_ofNat_of_zero_le h0
   simp only[IY,e1];rfl
  ·cases e
theorem IZ {e:Nat}{x:XV}{lo hi:Option XV}{p n:Nat}{aT:Option Nat}{u:Int}(hk:K0 (.own p aT u.toNat e))(hx:bx G x=some (.own p aT n e):=by exact rfl)(hl:nx G 0 lo=some 0:=by exact rfl)(hu:nx G n hi=some u:=by exact rfl)(h0:0<=u:=by omega)(h1:u<=(n:Int):=by omega):kM P X M (.slice e x lo hi) G K0:=
 ez (p:= .own p aT u.toNat e) (fun c h F env r K k=>by
  obtain⟨a,e1,q⟩:=r.ev hx
  have l1:=sQ r (z:=0) hl (Int.le_refl 0)
  have l2:=sQ r (z:=n) hu h0
  cases q with
  |own _ id _ _ cap hbn=>
   have q2:u.toNat<=n:=by omega
   refine bd (fun sl hs call k'=>?_) (k (.sl id 0 u.toNat e (cap.map fun c=>c-0)) (.own _ _ _ _ _ om))
   have b1:Nat.ble 0 u.toNat=true:=Nat.ble_eq_true_of_le (Nat.zero_le _)
   have b2:Nat.ble u.toNat n=true:=Nat.ble_eq_true_of_le q2
   have b3:Nat.beq e e=true:=by simp
   have o1:cQ sl 0 lo=some 0:=ju hs l1
   have o2:cQ sl n hi=some u.toNat:=ju hs l2
   simp only[SO.den,lQ,hs.ev e1,o1,o2,b1,b2,b3,Bool.and_self,cond,aZ]
   have z1:Nat.add 0 (Nat.mul 0 e)=0:=by simp
   have z2:Nat.sub u.toNat 0=u.toNat:=by simp
   rw[z1,z2]
   cases cap<;>rfl
  |hY=>
   have hu0:u=0:=by omega
   subst hu0
   exact I0 e1 l1 l2 (k _ (.hY _ _))) hk
theorem jM {e:Nat}{x:XV}{lo hi:Option XV}{n:Nat}{rows:Nat->List PV}{l u:Int}(hk:K0 (.tr e (u-l).toNat (fun i=>rows (i+l.toNat))))(hx:bx G x=some (.tr e n rows):=by exact rfl)(hl:nx G 0 lo=some l:=by exact rfl)(hu:nx G n hi=some u:=by exact rfl)(hn:0<n:=by omega)(h0:0<=l:=by omega)(h1:l<=u:=by omega)(h2:u<=(n:Int):=by omega):kM P X M (.slice e x lo hi) G K0:=
 ez (p:= .tr e (u-l).toNat (fun i=>rows (i+l.toNat))) (fun c h F env r K k=>by
  obtain⟨a,e1,q⟩:=r.ev hx
  have l1:=sQ r (z:=0) hl h0
  have l2:=sQ r (z:=n) hu om
  cases q with
  |tX=>omega
  |tr _ _ _ id off cap vs g0 g1 g2 g3 g4 g5=>
   have q1:l.toNat<=u.toNat:=by omega
   have q2:u.toNat<=n:=by omega
   have hm:(u-l).toNat=u.toNat-l.toNat:=by omega
   rw[hm]at k
   refine bd (fun sl hs call k'=>?_) (k (.sl id (off+l.toNat*e) (u.toNat-l.toNat) e (cap.map fun c=>c-l.toNat)) ?_)
   ·have b1:Nat.ble l.toNat u.toNat=true:=Nat.ble_eq_true_of_le q1
    have b2:Nat.ble u.toNat n=true:=Nat.ble_eq_true_of_le q2
    have b3:Nat.beq e e=true:=by simp
    have o1:cQ sl 0 lo=some l.toNat:=ju hs l1
    have o2:cQ sl n hi=some u.toNat:=ju hs l2
    simp only[SO.den,lQ,hs.ev e1,o1,o2,b1,b2,b3,Bool.and_self,cond,aZ]
    cases cap<;>rfl
   ·have h6:=Nat.mul_le_mul_right e q2
    have h7:l.toNat*e+(u.toNat-l.toNat)*e=u.toNat*e:=by rw[<-Nat.add_mul];congr 1;omega
    by_cases hz:u.toNat-l.toNat=0
    ·rw[hz]
     exact .tX _ _ _ (Or.inr (Or.inr ⟨id,_,_,vs,rfl,g1,g2,om⟩))
    ·refine .tr _ _ _ id _ _ vs ⟨om,by have:=g0.2;omega⟩ g1 g2 om (fun i hi=>g4 _ om) fun i hi=>?_
     have e2:off+l.toNat*e+i*e=off+(i+l.toNat)*e:=by rw[Nat.add_mul];omega
     rw[e2]
     exact g5 _ om) hk
/-! texts -/
theorem GA {x i:XV}{s:List Nat}{ik:IntKind}{z:Int}(hk:K0 (.int .u8 ((s.getD z.toNat 0:Nat):Int)))(hx:bx G x=some (.str s):=by exact rfl)(hi:bx G i=some (.int ik z):=by exact rfl)(h0:0<=z:=by omega)(h1:z<(s.length:Int):=by omega):kM P X M (.lM x i) G K0:=
 ez (p:= .int .u8 ((s.getD z.toNat 0:Nat):Int)) (fun c h F env r K k=>by
  obtain⟨a,e1,q1⟩:=r.ev hx
  obtain⟨b,e2,q2⟩:=r.ev hi
  cases q1;cases q2
  obtain⟨j,rfl⟩:=Int.eq_ofNat_of_zero_le h0
  have hj:j<s.length:=by omega
  refine bd (fun sl hs call k'=>?_) (k _ (.int _ _))
  have e3:asNat (.int ik (Int.ofNat j))=some j:=rfl
  have e4:(Int.ofNat j).toNat=j:=rfl
  simp only[SO.den,Cn,hs.ev e1,hs.ev e2]
  show(match AV.str s,asNat (.int ik (Int.ofNat j))with| .str s,some i=>_|_,_=>none)=_
  rw[e3]
  simp only[gA]
  have e5:s[j]? =some (s.getD j 0):=by simp[hj]
  rw[e5];rfl) hk
theorem B9 {x i:XV}{s:List Nat}{ik:IntKind}(hk:K0 (.int .u8 ((s.getD 0 0:Nat):Int)))(hx:bx G x=some (.str s):=by exact rfl)(hi:bx G i=some (.int ik 0):=by exact rfl)(h1:0<s.length:=by omega):kM P X M (.lM x i) G K0:=GA (z:=0) hk hx hi om om
theorem Kc {x i:XV}{s:List Nat}{ik:IntKind}{j:Nat}(hk:K0 (.int .u8 ((s.getD j 0:Nat):Int)))(hx:bx G x=some (.str s):=by exact rfl)(hi:bx G i=some (.int ik (j:Int)):=by exact rfl)(h1:j<s.length:=by omega):kM P X M (.lM x i) G K0:=GA hk hx hi om om
theorem qW {x:XV}{lo hi:Option XV}{s:List Nat}{l u:Int}(hk:K0 (.str ((s.drop l.toNat).take (u-l).toNat)))(hx:bx G x=some (.str s):=by exact rfl)(hl:nx G 0 lo=some l:=by exact rfl)(hu:nx G s.length hi=some u:=by exact rfl)(h0:0<=l:=by omega)(h1:l<=u:=by omega)(h2:u<=(s.length:Int):=by omega):kM P X M (.vc x lo hi) G K0:=
 ez (p:= .str ((s.drop l.toNat).take (u-l).toNat)) (fun c h F env r K k=>by
  obtain⟨a,e1,q1⟩:=r.ev hx
  cases q1
  have l1:=sQ r (z:=0) hl h0
  have l2:=sQ r (z:=s.length) hu om
  refine bd (fun sl hs call k'=>?_) (k _ (.str _))
  have o1:cQ sl 0 lo=some l.toNat:=ju hs l1
  have o2:cQ sl s.length hi=some u.toNat:=ju hs l2
  have b1:Nat.ble l.toNat u.toNat=true:=Nat.ble_eq_true_of_le om
  have b2:Nat.ble u.toNat s.length=true:=Nat.ble_eq_true_of_le om
  have hm:Nat.sub u.toNat l.toNat=(u-l).toNat:=by show u.toNat-l.toNat=_;omega
  simp only[SO.den,pR,hs.ev e1,cX,o1,o2,b1,b2,Bool.and_self,cond]
  rw[gM _ _ _ (by omega),hm,gN _ _ _ (by simp;omega)]) hk
/-! new slices -/
theorem TA {h:H}{F:Nat->Prop}{z:List AV}{zs:List PV}(hz:ek z=some zs)(n:Nat):nv h F z.length n (fun _=>zs) (List.replicate n z).flatten:=by
 have hzl:=rZ hz
 have hr:=jl h F z zs hz
 have key: ∀i n,i<n->(((List.replicate n z).flatten).drop (i*z.length)).take z.length=z:=by
  intro i
  induction i with
  |zero=>intro n hn;cases n with|zero=>omega|succ n=>simp[List.replicate_succ]
  |succ i ih=>intro n hn;cases n with
   |zero=>omega
   |succ n=>
    rw[List.replicate_succ,List.flatten_cons,Nat.succ_mul,Nat.add_comm,List.drop_append,List.drop_eq_nil_of_le (by omega),List.nil_append]
    have:=ih n om
    rw[show z.length+i*z.length-z.length=i*z.length by omega]
    exact this
 refine⟨by simp,fun i _=>hzl,fun i hi=>?_⟩
 rw[key i n hi];exact hr
theorem DL {z:List AV}{zs:List PV}{l cp:XV}{k1 k2:IntKind}{a b:Int}(hk:K1 (fun id=> .own d (some id) a.toNat z.length) (.arr z.length b.toNat (fun _=>zs)))(hz:ek z=some zs:=by exact rfl)(hl:bx G l=some (.int k1 a):=by exact rfl)(hc:bx G cp=some (.int k2 b):=by exact rfl)(h0:0<=a:=by omega)(h1:a<=b:=by omega)(h2:b<1000000:=by omega):IU P X M d (.tO z l cp) G K1:=⟨fun c h F env r K' k=>by
 obtain⟨u,e1,q1⟩:=r.ev hl
 obtain⟨v,e2,q2⟩:=r.ev hc
 cases q1;cases q2
 obtain⟨i,rfl⟩:=Int.eq_ofNat_of_zero_le h0
 obtain⟨j,rfl⟩:=Int.eq_ofNat_of_zero_le (show 0<=b by omega)
 have b1:Nat.ble i j=true:=Nat.ble_eq_true_of_le om
 have b2:Nat.blt j 1000000=true:=by simp[Nat.blt_eq];omega
 refine bd (fun sl hs call k'=>?_) (k _ _ _ (.sl h.n 0 i z.length (some j)) (TA (h:=h) (F:=F) hz j).rb (fun h'=> .own _ _ _ _ (some j) (by show i<=_;omega)) (fun q=>by cases q) hk)
 have c1:asNat (.int k1 ((i:Nat):Int))=some i:=rfl
 have c2:asNat (.int k2 ((j:Nat):Int))=some j:=rfl
 simp only[SO.den,lR,hs.ev e1,hs.ev e2,c1,c2,b1,b2,Bool.and_self,cond,qe]
 rw[eS (Nat.lt_succ_self _),cX]⟩
end
end Go.Proofs.YtemehfgkfidgjaaGreatDoor.Ev
