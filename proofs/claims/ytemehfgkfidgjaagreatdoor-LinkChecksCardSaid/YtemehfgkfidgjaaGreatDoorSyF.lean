/- CoverStates, part 12 -/
import Derived.Test.YtemehfgkfidgjaaGreatDoorSyA
import Derived.ProofKit
import Derived.OpenShut
import Derived.Deep.Slices
set_option linter.all false
namespace Go.Proofs.YtemehfgkfidgjaaGreatDoor.Ev
section
open Go
structure AN (h:H)(sv:AV)(esz:Nat)(rows:List (List AV))(id:Nat):Prop where
 at_:(rows=[]/\(sv= .aE\/ ∃oa cp,sv= .raw oa 0 cp))\/(0<rows.length/\(∃cap,sv= .sl id 0 rows.length esz cap)/\id<h.n/\ ∃vs,h.get id=some (.cells vs)/\rows.length*esz<=vs.length/\ ∀i row,rows[i]? =some row->(vs.drop (i*esz)).take esz=row)
theorem AN.xD {h h':H}{sv:AV}{esz:Nat}{rows:List (List AV)}{id:Nat}(a:AN h sv esz rows id)(hg:ny h h'):AN h' sv esz rows id:=by
 rcases a.at_ with q|⟨q1,q2,q3,vs,q4,q5⟩
 ·exact⟨Or.inl q⟩
 ·exact⟨Or.inr ⟨q1,q2,Nat.lt_of_lt_of_le q3 hg.le,vs,(hg.get id q3).trans q4,q5⟩⟩
theorem AN.keep {h h':H}{sv:AV}{esz:Nat}{rows:List (List AV)}{id:Nat}(a:AN h sv esz rows id)(hle:h.n<=h'.n)(hg:id<h.n->h'.get id=h.get id):AN h' sv esz rows id:=by
 rcases a.at_ with q|⟨q1,q2,q3,vs,q4,q5⟩
 ·exact⟨Or.inl q⟩
 ·exact⟨Or.inr ⟨q1,q2,Nat.lt_of_lt_of_le q3 hle,vs,(hg q3).trans q4,q5⟩⟩
section
variable {P:Program}{X:cj}{M:Mf}{c:C}{env:bo}{h:H}{K:AV->H->Prop}
end
/-! flat values:the same whatever the places -/
inductive Flat:AV->Value->Prop where
 |int (k:IntKind) (n:Int):Flat (.int k n) (.int k n)
 |bool (b:Bool):Flat (.bool b) (.bool b)
 |str (s:ByteArray):Flat (.str (s.data.toList.map UInt8.toNat)) (.string s)
 |raw (oa:Option Addr) (n cp:Nat):Flat (.raw oa n cp) (.slice oa n cp)
theorem Flat.vr {a:AV}{v:Value}(h:Flat a v)(β:bS):VR β a v:=by
 cases h with
 |int k n=>simp[VR]
 |bool b=>simp[VR]
 |str s=>simp[VR]
 |raw oa n cp=>simp[VR]
def I5 (w:World)(v:Value)(esz:Nat)(rows:List (List AV)):Prop:=
 (rows=[]/\ ∃oa cp,v= .slice oa 0 cp)\/(0<rows.length/\ ∃b off cp,∃(cur:Array Value) (t:TypeId×(Nat×Nat)),v= .slice (some ⟨b,off,none⟩) rows.length cp/\rows.length<=cp/\w.heap[b]? =some (.cells cur t.1 t.2)/\(off+cp*esz<=cur.size/\ ∀i,off<=i->i<off+cp*esz->(decide (t.2.1<=i)&&decide (i<t.2.2))=false)/\
  ∀i row,rows[i]? =some row->row.length=esz/\ ∀j a,row[j]? =some a-> ∃u,cur[off+i*esz+j]? =some u/\Flat a u)
def Mq:Value->AV
 | .slice oa n cp=> .raw oa n cp
 |_=> .aE
def I6 (id esz:Nat)(rows:List (List AV))(v:Value):AV:=if rows=[]then Mq v else .sl id 0 rows.length esz none
def Mr (v:Value)(esz:Nat):Loc:=match v with
 | .slice (some a) _ cp=>⟨a.block,a.off,a.off+cp*esz,dv⟩
 |_=>⟨0,0,0,dv⟩
theorem jm {esz:Nat}: ∀{rows:List (List AV)},(∀row∈rows,row.length=esz)-> ∀(i:Nat) (row:List AV),rows[i]? =some row->(rows.flatten.drop (i*esz)).take esz=row
 |[],_,i,row,h=>by simp at h
 |r::rows,hl,i,row,h=>by
  have h0:=hl r (by simp)
  cases i with
  |zero=>
   simp at h;subst h
   simp[List.take_append,h0]
  |succ i=>
   have:=jm (rows:=rows) (fun q hq=>hl q (by simp[hq])) i row (by simpa using h)
   rw[List.flatten_cons,List.drop_append,Nat.succ_mul,h0]
   have e1:(r.drop (i*esz+esz))=[]:=List.drop_eq_nil_of_le om
   have e2:i*esz+esz-esz=i*esz:=by omega
   rw[e1,e2,List.nil_append];exact this
theorem gO {esz:Nat}: ∀{rows:List (List AV)},(∀row∈rows,row.length=esz)->rows.flatten.length=rows.length*esz
 |[],_=>by simp
 |r::rows,hl=>by
  rw[List.flatten_cons,List.length_append,gO (fun q hq=>hl q (by simp[hq])),hl r (by simp),List.length_cons,Nat.succ_mul];omega
theorem wx {esz:Nat}(he:0<esz): ∀{rows:List (List AV)},(∀row∈rows,row.length=esz)-> ∀(k:Nat) (a:AV),rows.flatten[k]? =some a-> ∃row,rows[k/esz]? =some row/\row[k % esz]? =some a
 |[],_,k,a,h=>by simp at h
 |r::rows,hl,k,a,h=>by
  have h0:=hl r (by simp)
  rw[List.flatten_cons]at h
  by_cases hk:k<esz
  ·rw[List.getElem?_append_left (by omega)]at h
   rw[Nat.div_eq_of_lt hk,Nat.mod_eq_of_lt hk]
   exact⟨r,rfl,h⟩
  ·rw[List.getElem?_append_right (by omega),h0]at h
   obtain⟨row,q1,q2⟩:=wx he (rows:=rows) (fun q hq=>hl q (by simp[hq])) (k-esz) a h
   have e1:k/esz=(k-esz)/esz+1:=by rw[Nat.div_eq_sub_div he (by omega)]
   have e2:k % esz=(k-esz) % esz:=Nat.mod_eq_sub_mod om
   rw[e1,e2]
   exact⟨row,by simpa using q1,q2⟩
theorem I5.br {w:World}{v:Value}{esz:Nat}{rows:List (List AV)}(h:I5 w v esz rows)(hne:rows≠[])(he:0<esz)(β:bS):(Mr v esz).blk<w.heap.size/\BR β (Mr v esz) w (.cells rows.flatten):=by
 rcases h with⟨rfl,_⟩|⟨_,b,off,cp,cur,t,rfl,hcp,hb,hsz,hr⟩
 ·exact absurd rfl hne
 ·have hl: ∀row∈rows,row.length=esz:=fun row hm=>by
    obtain⟨i,hi,rfl⟩:=List.mem_iff_getElem.1 hm
    exact(hr i _ (by simp[hi])).1
  refine⟨?_,cur,t,hb,⟨hsz.1,?_,hsz.2⟩,fun k a hk=>?_⟩
  ·show b<w.heap.size
   rcases Nat.lt_or_ge b w.heap.size with q|q
   ·exact q
   ·rw[Array.getElem?_eq_none q]at hb;cases hb
  ·show off+rows.flatten.length<=off+cp*esz
   rw[gO hl]
   exact Nat.add_le_add_left (Nat.mul_le_mul_right _ hcp) _
  ·obtain⟨row,q1,q2⟩:=wx he hl k a hk
   obtain⟨u,q3,q4⟩:=(hr _ row q1).2 _ a q2
   refine⟨u,?_,q4.vr β⟩
   have e:off+k/esz*esz+k % esz=off+k:=by
    have:=Nat.div_add_mod k esz
    rw[Nat.mul_comm]at this
    omega
   rw[e]at q3
   exact q3
theorem I5.vr {w:World}{v:Value}{esz id:Nat}{rows:List (List AV)}(h:I5 w v esz rows){β:bS}(hβ:rows≠[]->β id=some (Mr v esz)):VR β (I6 id esz rows v) v:=by
 rcases h with⟨rfl,oa,cp,rfl⟩|⟨h0,b,off,cp,cur,t,rfl,hcp,hb,hsz,hr⟩
 ·simp[I6,Mq,VR]
 ·have hne:rows≠[]:=fun q=>by rw[q]at h0;simp at h0
  unfold I6
  rw[if_neg hne]
  simp only[VR]
  exact⟨_,off,cp,hβ hne,rfl,hcp,Nat.le_refl _,Or.inl rfl,fun c q=>by cases q⟩
theorem I5.arr {w:World}{v:Value}{esz id:Nat}{rows:List (List AV)}(h:I5 w v esz rows){h0:H}(hid:id<h0.n)(hg:rows≠[]->h0.get id=some (.cells rows.flatten)):AN h0 (I6 id esz rows v) esz rows id:=by
 rcases h with⟨rfl,oa,cp,rfl⟩|⟨hl,b,off,cp,cur,t,rfl,hcp,hb,hsz,hr⟩
 ·exact⟨Or.inl ⟨rfl,Or.inr ⟨oa,cp,by simp[I6,Mq]⟩⟩⟩
 ·have hne:rows≠[]:=fun q=>by rw[q]at hl;simp at hl
  have hlen: ∀row∈rows,row.length=esz:=fun row hm=>by
   obtain⟨i,hi,rfl⟩:=List.mem_iff_getElem.1 hm
   exact(hr i _ (by simp[hi])).1
  refine⟨Or.inr ⟨hl,⟨none,by unfold I6;rw[if_neg hne]⟩,hid,_,hg hne,by rw[gO hlen];exact Nat.le_refl _,fun i row hi=>jm hlen i row hi⟩⟩
section
variable {P:Program}{X:cj}{M:Mf}{c:C}{nt:Nat}{env:bo}{h:H}{K:AV->H->Prop}{ops:List SR}
section
variable {Q:bo->H->Prop}{n d p1 p2 p3:Nat}{m1 b1 m2 b2 m3 b3:Bool}{f1 f2 f3:Option XV}{x y:XV}{zs row:List AV}{v u:AV}
end
/-! arrays:their cells -/
theorem yG {esz:Nat}: ∀(rows:List (List AV)) (vs:List AV),rows.length*esz<=vs.length->(∀i row,rows[i]? =some row->(vs.drop (i*esz)).take esz=row)->vs.take (rows.length*esz)=rows.flatten
 |[],vs,_,_=>by simp
 |r::rows,vs,hl,hr=>by
  have h0:=hr 0 r rfl
  simp only[Nat.zero_mul,List.drop_zero]at h0
  rw[List.length_cons,Nat.succ_mul]at hl
  have ih:=yG (esz:=esz) rows (vs.drop esz) (by rw[List.length_drop];omega) fun i row hi=>by
   have:=hr (i+1) row (by simpa using hi)
   rw[List.drop_drop,Nat.add_comm esz,<-Nat.succ_mul];exact this
  rw[List.length_cons,Nat.succ_mul,Nat.add_comm,List.take_add,h0,ih,List.flatten_cons]
theorem AN.full {sv:AV}{esz id:Nat}{rows:List (List AV)}(a:AN h sv esz rows id)(hp:0<rows.length):(∃cap,sv= .sl id 0 rows.length esz cap)/\id<h.n/\(∃vs,h.get id=some (.cells vs)/\rows.length*esz<=vs.length/\vs.take (rows.length*esz)=rows.flatten)/\ ∀row∈rows,row.length=esz:=by
 rcases a.at_ with⟨rfl,_⟩|⟨_,q2,q3,vs,q4,q5,q6⟩
 ·simp at hp
 ·refine⟨q2,q3,⟨vs,q4,q5,yG _ _ q5 q6⟩,fun row hm=>?_⟩
  obtain⟨i,hi,rfl⟩:=List.mem_iff_getElem.1 hm
  have e:=q6 i _ (List.getElem?_eq_getElem hi)
  have:(i+1)*esz<=rows.length*esz:=Nat.mul_le_mul_right _ hi
  rw[Nat.succ_mul]at this
  rw[<-e,List.length_take,List.length_drop]
  omega
theorem AN.mk' {esz id:Nat}{cap:Option Nat}{rows:List (List AV)}{vs:List AV}(hp:0<rows.length)(hlt:id<h.n)(hg:h.get id=some (.cells vs))(hv:vs=rows.flatten)(hl: ∀row∈rows,row.length=esz):AN h (.sl id 0 rows.length esz cap) esz rows id:=by
 subst hv
 exact⟨Or.inr ⟨hp,⟨cap,rfl⟩,hlt,_,hg,by rw[gO hl];exact Nat.le_refl _,fun i row hi=>jm hl i row hi⟩⟩
theorem AN.take {sv:AV}{esz id:Nat}{rows:List (List AV)}(a:AN h sv esz rows id){m:Nat}(hm:0<m)(hle:m<=rows.length){cap:Option Nat}:AN h (.sl id 0 m esz cap) esz (rows.take m) id:=by
 rcases a.at_ with⟨rfl,_⟩|⟨_,q2,q3,vs,q4,q5,q6⟩
 ·simp at hle;omega
 ·have hl:(rows.take m).length=m:=by rw[List.length_take];omega
  refine⟨Or.inr ⟨om,⟨cap,by rw[hl]⟩,q3,vs,q4,?_,fun i row hi=>?_⟩⟩
  ·rw[hl]
   exact Nat.le_trans (Nat.mul_le_mul_right _ hle) q5
  ·rw[List.getElem?_take]at hi
   split at hi
   ·exact q6 i row hi
   ·cases hi
end
/-! what is seen in a region that draws -/
/-! maps azs functions -/
def eY {κ:Type} [DecidableEq κ] (a:κ):List (κ×AV×Nat)->Option (Nat×AV)
 |[]=>none
 |p::l=>if a=p.1 then some (0,p.2.1)else(eY a l).map fun q=>(q.1+1,q.2)
def lj {κ:Type}(ky:κ->AV)(l:List (κ×AV×Nat)):List (AV×AV×Nat):=l.map fun p=>(ky p.1,p.2.1,p.2.2)
structure Mp {κ:Type} [DecidableEq κ] (ky:κ->AV)(h:H)(id:Nat)(f:κ->Option AV):Prop where
 ex: ∃(l:List (κ×AV×Nat)) (clock:Nat),h.get id=some (.map (lj ky l) clock)/\ ∀a,f a=(eY a l).map Prod.snd
theorem Mp.keep {κ:Type} [DecidableEq κ] {ky:κ->AV}{h h':H}{id:Nat}{f:κ->Option AV}(m:Mp ky h id f)(e:h'.get id=h.get id):Mp ky h' id f:=by
 obtain⟨l,ck,h1,h2⟩:=m.ex
 exact⟨l,ck,e.trans h1,h2⟩
theorem Mp.nil {κ:Type} [DecidableEq κ] {ky:κ->AV}{h:H}{id:Nat}(hg:h.get id=some (.map [] 0)):Mp ky h id fun _=>none:=⟨[],0,hg,fun _=>rfl⟩
section
variable {κ:Type} [DecidableEq κ] {ky:κ->AV}{eq:hJ}
theorem kb (hq: ∀a b,eq (ky a) (ky b)=some (decide (a=b)))(a:κ): ∀(l:List (κ×AV×Nat)) (j:Nat),fJ eq (ky a) (lj ky l) j=some ((eY a l).map fun q=>(j+q.1,q.2))
 |[],j=>rfl
 |p::l,j=>by
  simp only[lj,List.map_cons,fJ,hq,eY]
  by_cases e:a=p.1
  ·rw[if_pos e,decide_eq_true e];simp
  ·rw[if_neg e,decide_eq_false e]
   have:=kb hq a l (j+1)
   simp only[lj]at this
   simp only
   rw[show Nat.succ j=j+1 from rfl,this]
   cases eY a l with
   |none=>rfl
   |some q=>simp;omega
def qp (a:κ)(u:AV):List (κ×AV×Nat)->List (κ×AV×Nat)
 |[]=>[]
 |p::l=>if a=p.1 then(p.1,u,p.2.2)::l else p::qp a u l
theorem GJ (a:κ)(u:AV)(b:κ): ∀(l:List (κ×AV×Nat)),eY a l≠none->(eY b (qp a u l)).map Prod.snd=if b=a then some u else(eY b l).map Prod.snd
 |[],hne=>absurd rfl hne
 |p::l,hne=>by
  simp only[eY]at hne
  by_cases e:a=p.1
  ·simp only[qp,if_pos e,eY]
   by_cases e2:b=p.1
   ·rw[if_pos e2,if_pos (e2.trans e.symm)];rfl
   ·rw[if_neg e2,if_neg (fun q=>e2 (q.trans e)),if_neg e2]
  ·rw[if_neg e]at hne
   have ih:=GJ a u b l (fun q=>hne (by rw[q];rfl))
   simp only[qp,if_neg e,eY]
   by_cases e2:b=p.1
   ·rw[if_pos e2,if_pos e2,if_neg (fun q=>e (q.symm.trans e2))]
   ·rw[if_neg e2,if_neg e2,Option.map_map,Option.map_map]
    exact ih
theorem GI (a:κ)(u:AV): ∀(l:List (κ×AV×Nat)) (i:Nat) (v:AV),eY a l=some (i,v)-> ∃hi:i<(lj ky l).length,(lj ky l).set i ((lj ky l)[i].1,u,(lj ky l)[i].2.2)=lj ky (qp a u l)
 |[],i,v,h=>by cases h
 |p::l,i,v,h=>by
  simp only[eY]at h
  by_cases e:a=p.1
  ·rw[if_pos e]at h;cases h
   refine⟨by simp[lj],?_⟩
   simp[lj,qp,if_pos e]
  ·rw[if_neg e]at h
   cases hf:eY a l with
   |none=>rw[hf]at h;cases h
   |some q=>
    rw[hf]at h
    simp only[Option.map_some,Option.some.injEq,Prod.mk.injEq]at h
    obtain⟨rfl,rfl⟩:=h
    obtain⟨hi,e2⟩:=GI a u l q.1 q.2 hf
    refine⟨by simpa[lj]using hi,?_⟩
    simp only[lj,qp,if_neg e,List.map_cons,List.set_cons_succ,List.getElem_cons_succ]at e2⊢
    rw[e2]
theorem GH (a b:κ)(u:AV)(ck:Nat): ∀(l:List (κ×AV×Nat)),eY a l=none->(eY b (l++[(a,u,ck)])).map Prod.snd=if b=a then some u else(eY b l).map Prod.snd
 |[],_=>by
  simp only[List.nil_append,eY]
  by_cases e:b=a
  ·rw[if_pos e,if_pos e];rfl
  ·rw[if_neg e,if_neg e];rfl
 |p::l,h=>by
  simp only[eY]at h
  by_cases e:a=p.1
  ·rw[if_pos e]at h;cases h
  ·rw[if_neg e]at h
   have hl:eY a l=none:=by
    cases hf:eY a l with
    |none=>rfl
    |some q=>rw[hf]at h;cases h
   have ih:=GH a b u ck l hl
   simp only[List.cons_append,eY]
   by_cases e2:b=p.1
   ·rw[if_pos e2,if_pos e2,if_neg (fun q=>e (q.symm.trans e2))]
   ·rw[if_neg e2,if_neg e2,Option.map_map,Option.map_map]
    exact ih
variable {P:Program}{X:cj}{M:Mf}{c:C}{env:bo}{h:H}{K:AV->H->Prop}
end
inductive Dt where
 |int (n:Int)
 |str (s:List Nat)
 |bool (b:Bool)
 |row (l:List Dt)
 |arr (l:List Dt)
 |gQ (n:Nat)
 deriving Inhabited
inductive Sh where
 |int (k:IntKind)
 |str
 |bool
 |row (l:List Sh)
 |arr (e:Sh)
 deriving Inhabited
mutual
def Sh.sz:Sh->Nat
 | .row l=>RU l
 | .int _=>1
 | .str=>1
 | .bool=>1
 | .arr _=>1
def RU:List Sh->Nat
 |[]=>0
 |s::l=>s.sz+RU l
end
mutual
def Sh.GP (B:Nat):Sh->Nat
 | .row l=>Mt B l
 | .arr e=>1+B*e.GP B
 | .int _=>0
 | .str=>0
 | .bool=>0
def Mt (B:Nat):List Sh->Nat
 |[]=>0
 |s::l=>s.GP B+Mt B l
end
/-! the parts of data -/
def Dt.n:Dt->Int
 | .int n=>n
 |_=>0
def Dt.s:Dt->List Nat
 | .str s=>s
 |_=>[]
def Dt.b:Dt->Bool
 | .bool b=>b
 |_=>false
def Dt.len:Dt->Nat
 | .row l=>l.length
 | .arr l=>l.length
 | .gQ n=>n
 |_=>0
def Dt.l:Dt->List Dt
 | .row l=>l
 | .arr l=>l
 |_=>[]
def Dt.f (d:Dt)(i:Nat):Dt:=d.l.getD i (.int 0)
mutual
def Rp (B:Nat)(fl:Bool)(h:H):Sh->Dt->List AV->Prop
 | .int k,d,cs=> ∃n,d= .int n/\cs=[.int k n]
 | .str,d,cs=> ∃s,d= .str s/\cs=[.str s]
 | .bool,d,cs=> ∃b,d= .bool b/\cs=[.bool b]
 | .row shs,d,cs=> ∃l,d= .row l/\kg B fl h shs l cs
 | .arr e,d,cs=>(∃l sv id rows,d= .arr l/\cs=[sv]/\((l.length<=B\/e.GP B=0)/\l.length<=9223372036854775807)/\one sv=true/\AN h sv e.sz rows id/\rows.length=l.length/\ ∀(i:Nat) (x:Dt) (row:List AV),l[i]? =some x->rows[i]? =some row->Rp B fl h e x row)\/fl=false/\ ∃n oa cp,d= .gQ n/\cs=[.raw oa n cp]/\B<n/\e.GP B≠0/\n<=9223372036854775807
def kg (B:Nat)(fl:Bool)(h:H):List Sh->List Dt->List AV->Prop
 |[],ds,cs=>ds=[]/\cs=[]
 |s::shs,ds,cs=> ∃d ds' a b,ds=d::ds'/\cs=a++b/\Rp B fl h s d a/\kg B fl h shs ds' b
end
mutual
theorem Rp.len {B:Nat}{fl:Bool}{h:H}: ∀{sh:Sh} {d:Dt} {cs:List AV},Rp B fl h sh d cs->cs.length=sh.sz
 | .int k,d,cs,q=>by
  simp only[Rp]at q
  obtain⟨n,_,rfl⟩:=q
  rfl
 | .str,d,cs,q=>by
  simp only[Rp]at q
  obtain⟨n,_,rfl⟩:=q
  rfl
 | .bool,d,cs,q=>by
  simp only[Rp]at q
  obtain⟨n,_,rfl⟩:=q
  rfl
 | .row shs,d,cs,q=>by
  simp only[Rp]at q
  obtain⟨l,_,q⟩:=q
  simp only[Sh.sz]
  exact kg.len q
 | .arr e,d,cs,q=>by
  simp only[Rp]at q
  rcases q with⟨l,sv,id,rows,_,rfl,_⟩|⟨_,n,oa,cp,_,rfl,_⟩
  ·rfl
  ·rfl
theorem kg.len {B:Nat}{fl:Bool}{h:H}: ∀{shs:List Sh} {ds:List Dt} {cs:List AV},kg B fl h shs ds cs->cs.length=RU shs
 |[],ds,cs,q=>by
  simp only[kg]at q
  obtain⟨_,rfl⟩:=q
  rfl
 |s::shs,ds,cs,q=>by
  simp only[kg]at q
  obtain⟨d,ds',a,b,_,rfl,q1,q2⟩:=q
  simp only[RU,List.length_append]
  rw[Rp.len q1,kg.len q2]
end
mutual
theorem Rp.xD {B:Nat}{fl:Bool}{h h':H}(hg:ny h h'): ∀{sh:Sh} {d:Dt} {cs:List AV},Rp B fl h sh d cs->Rp B fl h' sh d cs
 | .int k,d,cs,q=>by simpa only[Rp]using q
 | .str,d,cs,q=>by simpa only[Rp]using q
 | .bool,d,cs,q=>by simpa only[Rp]using q
 | .row shs,d,cs,q=>by
  simp only[Rp]at q⊢
  obtain⟨l,e,q⟩:=q
  exact⟨l,e,kg.xD hg q⟩
 | .arr e,d,cs,q=>by
  simp only[Rp]at q⊢
  rcases q with⟨l,sv,id,rows,e1,e2,e0,e3,e4,e5,e6⟩|q
  ·exact Or.inl ⟨l,sv,id,rows,e1,e2,e0,e3,e4.xD hg,e5,fun i x row h1 h2=>Rp.xD hg (e6 i x row h1 h2)⟩
  ·exact Or.inr q
theorem kg.xD {B:Nat}{fl:Bool}{h h':H}(hg:ny h h'): ∀{shs:List Sh} {ds:List Dt} {cs:List AV},kg B fl h shs ds cs->kg B fl h' shs ds cs
 |[],ds,cs,q=>by simpa only[kg]using q
 |s::shs,ds,cs,q=>by
  simp only[kg]at q⊢
  obtain⟨d,ds',a,b,e1,e2,q1,q2⟩:=q
  exact⟨d,ds',a,b,e1,e2,Rp.xD hg q1,kg.xD hg q2⟩
end
structure Sl (B:Nat)(fl:Bool)(h:H)(e:Sh)(l:List Dt)(sv:AV):Prop where
 le:l.length<=9223372036854775807
 out: ∃id rows,one sv=true/\AN h sv e.sz rows id/\rows.length=l.length/\ ∀(i:Nat) (x:Dt) (row:List AV),l[i]? =some x->rows[i]? =some row->Rp B fl h e x row
theorem Sl.xD {B:Nat}{fl:Bool}{h h':H}{e:Sh}{l:List Dt}{sv:AV}(q:Sl B fl h e l sv)(hg:ny h h'):Sl B fl h' e l sv:=by
 obtain⟨id,rows,e3,e4,e5,e6⟩:=q.out
 exact⟨q.le,⟨id,rows,e3,e4.xD hg,e5,fun i x row h1 h2=>Rp.xD hg (e6 i x row h1 h2)⟩⟩
theorem Sl.one {B:Nat}{fl:Bool}{h:H}{e:Sh}{l:List Dt}{sv:AV}(q:Sl B fl h e l sv):Ev.one sv=true:=by
 obtain⟨id,rows,e3,_⟩:=q.out
 exact e3
theorem wo {B:Nat}{fl:Bool}{h:H}{e:Sh}{d:Dt}{cs:List AV}:Rp B fl h (.arr e) d cs↔(∃l sv,d= .arr l/\cs=[sv]/\(l.length<=B\/e.GP B=0)/\Sl B fl h e l sv)\/fl=false/\ ∃n oa cp,d= .gQ n/\cs=[.raw oa n cp]/\B<n/\e.GP B≠0/\n<=9223372036854775807:=by
 simp only[Rp]
 constructor
 ·rintro(⟨l,sv,id,rows,e1,e2,e0,e3,e4,e5,e6⟩|q)
  ·exact Or.inl ⟨l,sv,e1,e2,e0.1,⟨e0.2,⟨id,rows,e3,e4,e5,e6⟩⟩⟩
  ·exact Or.inr q
 ·rintro(⟨l,sv,e1,e2,e0,⟨e7,⟨id,rows,e3,e4,e5,e6⟩⟩⟩|q)
  ·exact Or.inl ⟨l,sv,id,rows,e1,e2,⟨e0,e7⟩,e3,e4,e5,e6⟩
  ·exact Or.inr q
theorem Sl.row {B:Nat}{fl:Bool}{h:H}{e:Sh}{l:List Dt}{sv:AV}(q:Sl B fl h e l sv){i:Nat}(hi:i<l.length): ∃id rows row,AN h sv e.sz rows id/\rows.length=l.length/\rows[i]? =some row/\Rp B fl h e (l.getD i (.int 0)) row:=by
 obtain⟨id,rows,e3,e4,e5,e6⟩:=q.out
 refine⟨id,rows,rows[i]'om,e4,e5,List.getElem?_eq_getElem om,?_⟩
 have:l[i]? =some (l.getD i (.int 0)):=by simp[hi]
 exact e6 i _ _ this (List.getElem?_eq_getElem om)
theorem sS: ∀{a b:List AV},cy a=true->cy b=true->cy (a++b)=true
 |[],b,_,h=>h
 |x::a,b,h1,h2=>by
  unfold cy at h1
  cases hx:Ev.one x with
  |false=>rw[hx]at h1;cases h1
  |true=>
   rw[hx]at h1
   simp only[List.cons_append,cy,hx]
   exact sS h1 h2
mutual
theorem Rp.cy {B:Nat}{fl:Bool}{h:H}: ∀{sh:Sh} {d:Dt} {cs:List AV},Rp B fl h sh d cs->Ev.cy cs=true
 | .int k,d,cs,q=>by
  simp only[Rp]at q
  obtain⟨n,_,rfl⟩:=q
  rfl
 | .str,d,cs,q=>by
  simp only[Rp]at q
  obtain⟨n,_,rfl⟩:=q
  rfl
 | .bool,d,cs,q=>by
  simp only[Rp]at q
  obtain⟨n,_,rfl⟩:=q
  rfl
 | .row shs,d,cs,q=>by
  simp only[Rp]at q
  obtain⟨l,_,q⟩:=q
  exact kg.cy q
 | .arr e,d,cs,q=>by
  simp only[Rp]at q
  rcases q with⟨l,sv,id,rows,_,rfl,_,ho,_⟩|⟨_,n,oa,cp,_,rfl,_⟩
  ·simp only[Ev.cy,ho];rfl
  ·rfl
theorem kg.cy {B:Nat}{fl:Bool}{h:H}: ∀{shs:List Sh} {ds:List Dt} {cs:List AV},kg B fl h shs ds cs->Ev.cy cs=true
 |[],ds,cs,q=>by
  simp only[kg]at q
  obtain⟨_,rfl⟩:=q
  rfl
 |s::shs,ds,cs,q=>by
  simp only[kg]at q
  obtain⟨d,ds',a,b,_,rfl,q1,q2⟩:=q
  exact sS (Rp.cy q1) (kg.cy q2)
end
/-! one step -/
section
variable {B:Nat}{fl:Bool}{h:H}{d:Dt}{ds:List Dt}{cs:List AV}
theorem RP {k:IntKind}(q:Rp B fl h (.int k) d cs): ∃n,d= .int n/\cs=[.int k n]:=by simpa only[Rp]using q
theorem RQ (q:Rp B fl h .str d cs): ∃s,d= .str s/\cs=[.str s]:=by simpa only[Rp]using q
theorem OL (q:Rp B fl h .bool d cs): ∃b,d= .bool b/\cs=[.bool b]:=by simpa only[Rp]using q
theorem RR {l:List Sh}(q:Rp B fl h (.row l) d cs): ∃ds,d= .row ds/\kg B fl h l ds cs:=by simpa only[Rp]using q
theorem Mg {s:Sh}{l:List Sh}(q:kg B fl h (s::l) ds cs): ∃d ds' a b,ds=d::ds'/\cs=a++b/\Rp B fl h s d a/\kg B fl h l ds' b:=by simpa only[kg]using q
theorem OM (q:kg B fl h [] ds cs):ds=[]/\cs=[]:=by simpa only[kg]using q
end
/-! data without slices that are not looked into -/
mutual
def nb:Sh->Dt->Prop
 | .row shs,d=>Ul shs d.l
 | .arr e,d=>(∃l,d= .arr l)/\ ∀(i:Nat) (x:Dt),d.l[i]? =some x->nb e x
 | .int _,_=>True
 | .str,_=>True
 | .bool,_=>True
def Ul:List Sh->List Dt->Prop
 |[],_=>True
 |s::shs,ds=>match ds with
  |[]=>True
  |d::ds=>nb s d/\Ul shs ds
end
mutual
theorem Rp.full {B:Nat}{h:H}: ∀{sh:Sh} {d:Dt} {cs:List AV},Rp B false h sh d cs->nb sh d->Rp B true h sh d cs
 | .int k,d,cs,q,_=>by simpa only[Rp]using q
 | .str,d,cs,q,_=>by simpa only[Rp]using q
 | .bool,d,cs,q,_=>by simpa only[Rp]using q
 | .row shs,d,cs,q,hn=>by
  simp only[Rp]at q⊢
  obtain⟨l,rfl,q⟩:=q
  simp only[nb]at hn
  exact⟨l,rfl,kg.full q hn⟩
 | .arr e,d,cs,q,hn=>by
  simp only[nb]at hn
  obtain⟨⟨l0,rfl⟩,hn⟩:=hn
  simp only[Rp]at q⊢
  rcases q with⟨l,sv,id,rows,e1,e2,e0,e3,e4,e5,e6⟩|⟨_,n,oa,cp,e1,_⟩
  ·cases e1
   exact Or.inl ⟨l0,sv,id,rows,rfl,e2,e0,e3,e4,e5,fun i x row h1 h2=>Rp.full (e6 i x row h1 h2) (hn i x h1)⟩
  ·cases e1
theorem kg.full {B:Nat}{h:H}: ∀{shs:List Sh} {ds:List Dt} {cs:List AV},kg B false h shs ds cs->Ul shs ds->kg B true h shs ds cs
 |[],ds,cs,q,_=>by simpa only[kg]using q
 |s::shs,ds,cs,q,hn=>by
  simp only[kg]at q⊢
  obtain⟨d,ds',a,b,rfl,e2,q1,q2⟩:=q
  simp only[Ul]at hn
  exact⟨d,ds',a,b,rfl,e2,Rp.full q1 hn.1,kg.full q2 hn.2⟩
end
end
section
open Go Go.RowKit Go.Deep
/-! the shape of a type -/
def Ms (g:TypeId->Option (Sh×Nat)):List Field->Nat->Option (List Sh)
 |[],_=>some []
 |f::fs,off=>if f.offset=off then match g f.type with
   |some (s,_)=>match Ms g fs (off+s.sz)with
    |some l=>some (s::l)
    |none=>none
   |none=>none
  else none
def IJ (P:Program):Nat->TypeId->Option (Sh×Nat)
 |0,_=>none
 |n+1,t=>
  let ok (s:Sh):Option (Sh×Nat):=if P.cellsOf t=s.sz then some (s,s.sz)else none
  match P.underlying t with
  |some (.int k)=>ok (.int k)
  |some .string=>ok .str
  |some .bool=>ok .bool
  |some (.struct fs)=>match Ms (IJ P n) fs.toList 0 with
   |some l=>if l.length<=1000 then ok (.row l)else none
   |none=>none
  |some (.slice e)=>match IJ P n e with
   |some (s,_)=>if 0<s.sz/\8<=P.bytesOf e then ok (.arr s)else none
   |none=>none
  |_=>none
inductive AM (n:Nat):Dt->Prop
 |int (z:Int):AM n (.int z)
 |str (s:List Nat):AM n (.str s)
 |bool (b:Bool):AM n (.bool b)
 |gQ (k:Nat):AM n (.gQ k)
 |row (l:List Dt):l.length<=n->(∀x∈l,AM n x)->AM n (.row l)
 |arr (l:List Dt):l.length<=n->(∀x∈l,AM n x)->AM n (.arr l)
theorem iZ {H':Type}{P:Program}{e:TypeId}{x:Nat}: ∀{l:List (DataW H')} {d:DataW H'},d∈l->x∈DataW.weights P e d->x∈DataW.weightsAll P e l
 |[],d,h,_=>by cases h
 |y::l,d,h,hx=>by
  rw[DataW.weightsAll,List.mem_append]
  rcases List.mem_cons.1 h with rfl|h
  ·exact Or.inl hx
  ·exact Or.inr (iZ h hx)
theorem eT {H':Type}{P:Program}{x:Nat}: ∀{ts:List TypeId} {l:List (DataW H')} {i:Nat} {t:TypeId} {d:DataW H'},ts[i]? =some t->l[i]? =some d->x∈DataW.weights P t d->x∈DataW.weightsEach P ts l
 |[],l,i,t,d,h,_,_=>by simp at h
 |_::_,[],i,t,d,_,h,_=>by simp at h
 |a::ts,b::l,0,t,d,h1,h2,hx=>by
  simp at h1 h2
  subst h1 h2
  rw[DataW.weightsEach,List.mem_append]
  exact Or.inl hx
 |a::ts,b::l,i+1,t,d,h1,h2,hx=>by
  rw[DataW.weightsEach,List.mem_append]
  exact Or.inr (eT (by simpa using h1) (by simpa using h2) hx)
structure En where
 id:Nat
 loc:Loc
 vs:List AV
structure eB (w:World)(k k':Nat)(cs:List Value)(avs:List AV)(L:List En)(R:H->Prop):Prop where
 le:k<=k'
 ids: ∀e∈L,k<=e.id/\e.id<k'
 nodup:L.Pairwise fun a b=>a.id≠b.id
 rp: ∀h:H,k'<=h.n->(∀e∈L,h.get e.id=some (.cells e.vs))->R h
 vr: ∀β:bS,(∀e∈L,β e.id=some e.loc)->bh β avs cs/\ ∀e∈L,e.loc.blk<w.heap.size/\BR β e.loc w (.cells e.vs)
theorem eB.nil {w:World}{k:Nat}{cs:List Value}{avs:List AV}{R:H->Prop}(hr: ∀h,R h)(hv: ∀β,bh β avs cs):eB w k k cs avs [] R:=
 ⟨Nat.le_refl _,(fun e he=>absurd he (by simp)),List.Pairwise.nil,(fun h _ _=>hr h),fun β _=>⟨hv β,fun e he=>absurd he (by simp)⟩⟩
theorem eB.append {w:World}{k k1 k2:Nat}{cs1 cs2:List Value}{a1 a2:List AV}{L1 L2:List En}{R1 R2 R:H->Prop}(r1:eB w k k1 cs1 a1 L1 R1)(r2:eB w k1 k2 cs2 a2 L2 R2)(hR: ∀h,R1 h->R2 h->R h):eB w k k2 (cs1++cs2) (a1++a2) (L1++L2) R:=by
 have h1:=r1.le
 have h2:=r2.le
 refine⟨om,fun e he=>?_,?_,fun h hn hg=>?_,fun β hβ=>?_⟩
 ·rcases List.mem_append.1 he with q|q
  ·have:=r1.ids e q;omega
  ·have:=r2.ids e q;omega
 ·rw[List.pairwise_append]
  refine⟨r1.nodup,r2.nodup,fun a ha b hb q=>?_⟩
  have:=r1.ids a ha
  have:=r2.ids b hb
  omega
 ·exact hR h (r1.rp h om fun e he=>hg e (List.mem_append_left _ he)) (r2.rp h hn fun e he=>hg e (List.mem_append_right _ he))
 ·obtain⟨v1,b1⟩:=r1.vr β fun e he=>hβ e (List.mem_append_left _ he)
  obtain⟨v2,b2⟩:=r2.vr β fun e he=>hβ e (List.mem_append_right _ he)
  refine⟨v1.append v2,fun e he=>?_⟩
  rcases List.mem_append.1 he with q|q
  ·exact b1 e q
  ·exact b2 e q
section
variable {B M:Nat}{H':Type}{enc:TypeId×Value->H'}{P:Program}{w:World}{held:Bool}
abbrev Reads (B M:Nat)(P:Program)(w:World)(enc:TypeId×Value->H')(held:Bool)(t:TypeId)(sh:Sh):Prop:=
 ∀(n:Nat) (cs:List Value) (y:DataW H'×List MemPlace),DataW.trod enc P w 0 (fun _=>true) held n t cs=some y->w.noneFrozen y.2->(∀x∈DataW.weights P t y.1,x<=M)-> ∀k,∃d avs k' L,(avs.length=sh.sz/\k'<=k+sh.GP B)/\AM (M/8) d/\eB w k k' cs avs L (fun h=>Rp B false h sh d avs)
theorem nN {p q:List MemPlace}(h:w.noneFrozen q)(hs: ∀x∈p,x∈q):w.noneFrozen p:=fun b off hm=>h b off (hs _ hm)
theorem GQ {g:TypeId->Option (Sh×Nat)}(hg: ∀t s m,g t=some (s,m)->P.cellsOf t=s.sz/\Reads B M P w enc held t s): ∀(fs:List Field) (off:Nat) (shs:List Sh) (cs:List Value),Ms g fs off=some shs->off+RU shs=cs.length->
    (∀f∈fs,∃(n:Nat) (y:DataW H'×List MemPlace),DataW.trod enc P w 0 (fun _=>true) held n f.type ((cs.drop f.offset).take (P.cellsOf f.type))=some y/\w.noneFrozen y.2/\ ∀x∈DataW.weights P f.type y.1,x<=M)-> ∀k,∃ds avs k' L,(k'<=k+Mt B shs/\ds.length=shs.length)/\(∀x∈ds,AM (M/8) x)/\eB w k k' (cs.drop off) avs L (fun h=>kg B false h shs ds avs)
 |[],off,shs,cs,e,hl,_,k=>by
  simp only[Ms,Option.some.injEq]at e
  subst e
  refine⟨[],[],k,[],⟨by simp[Mt],rfl⟩,(fun x hx=>absurd hx (by simp)),eB.nil (fun h=>by simp[kg]) fun β=>?_⟩
  rw[List.drop_eq_nil_of_le (by simp[RU]at hl;omega)]
  simp[bh]
 |f::fs,off,shs,cs,e,hl,hf,k=>by
  unfold Ms at e
  split at e
  ·rename_i ho
   split at e
   ·rename_i s m hs
    split at e
    ·rename_i l hl'
     cases e
     obtain⟨h1,h2⟩:=hg _ _ _ hs
     obtain⟨n,y,h3,h4,h5⟩:=hf f (by simp)
     obtain⟨d,a1,k1,L1,⟨_,hk1⟩,hb1,r1⟩:=h2 n _ y h3 h4 h5 k
     simp only[RU]at hl
     obtain⟨ds,a2,k2,L2,⟨hk2,hds⟩,hb2,r2⟩:=GQ hg fs (off+s.sz) l cs hl' om (fun f' hf'=>hf f' (by simp[hf'])) k1
     have e1:cs.drop off=(cs.drop f.offset).take (P.cellsOf f.type)++cs.drop (off+s.sz):=by
      rw[ho,h1,<-List.drop_drop,List.take_append_drop]
     rw[e1]
     exact⟨d::ds,a1++a2,k2,L1++L2,⟨by simp only[Mt];omega,by simp[hds]⟩,(fun x hx=>by
      rcases List.mem_cons.1 hx with rfl|hx
      ·exact hb1
      ·exact hb2 x hx),r1.append r2 fun h q1 q2=>by
      simp only[kg]
      exact⟨d,ds,a1,a2,rfl,rfl,q1,q2⟩⟩
    ·cases e
   ·cases e
  ·cases e
theorem wy {e:TypeId}{s:Sh}(hs:Reads B M P w enc held e s): ∀(m:Nat) (C:Nat->List Value),(∀i,i<m-> ∃(n:Nat) (y:DataW H'×List MemPlace),DataW.trod enc P w 0 (fun _=>true) held n e (C i)=some y/\w.noneFrozen y.2/\ ∀x∈DataW.weights P e y.1,x<=M)-> ∀k,
    ∃(ds:List Dt) (rows:List (List AV)) (k':Nat) (L:List En),ds.length=m/\(∀x∈ds,AM (M/8) x)/\rows.length=m/\k'<=k+m*s.GP B/\k<=k'/\(∀e∈L,k<=e.id/\e.id<k')/\(L.Pairwise fun a b=>a.id≠b.id)/\
     (∀h:H,k'<=h.n->(∀e∈L,h.get e.id=some (.cells e.vs))-> ∀(i:Nat) (x:Dt) (row:List AV),ds[i]? =some x->rows[i]? =some row->Rp B false h s x row)/\
     (∀β:bS,(∀e∈L,β e.id=some e.loc)->(∀(i:Nat) (row:List AV),rows[i]? =some row->bh β row (C i))/\ ∀e∈L,e.loc.blk<w.heap.size/\BR β e.loc w (.cells e.vs))/\ ∀row∈rows,row.length=s.sz
 |0,C,_,k=>⟨[],[],k,[],rfl,(fun x hx=>absurd hx (by simp)),rfl,om,Nat.le_refl _,(fun e he=>absurd he (by simp)),List.Pairwise.nil,(fun h _ _ i x row h1=>absurd h1 (by simp)),(fun β _=>⟨fun i row h1=>absurd h1 (by simp),fun e he=>absurd he (by simp)⟩),fun row hr=>absurd hr (by simp)⟩
 |m+1,C,hC,k=>by
  obtain⟨ds,rows,k1,L1,e1,hb1,e2,hk1,h1,h2,h3,h4,h5,h6⟩:=wy hs m C (fun i hi=>hC i om) k
  obtain⟨n,y,h7,h8,h9⟩:=hC m om
  obtain⟨d,a,k2,L2,⟨hlen,hk2⟩,hb2,r⟩:=hs n _ y h7 h8 h9 k1
  have hrle:=r.le
  refine⟨ds++[d],rows++[a],k2,L1++L2,by simp[e1],(fun x hx=>by
   rcases List.mem_append.1 hx with q|q
   ·exact hb1 x q
   ·rw[List.mem_singleton.1 q];exact hb2),by simp[e2],by rw[Nat.succ_mul];omega,om,fun e he=>?_,?_,fun h hn hg i x row q1 q2=>?_,fun β hβ=>⟨fun i row q=>?_,fun e he=>?_⟩,fun row hr=>?_⟩
  ·rcases List.mem_append.1 he with q|q
   ·have:=h2 e q;omega
   ·have:=r.ids e q;omega
  ·rw[List.pairwise_append]
   refine⟨h3,r.nodup,fun a ha b hb q=>?_⟩
   have:=h2 a ha
   have:=r.ids b hb
   omega
  ·by_cases hi:i<m
   ·rw[List.getElem?_append_left (by omega)]at q1 q2
    exact h4 h om (fun e he=>hg e (List.mem_append_left _ he)) i x row q1 q2
   ·have him:i=m:=by
      have:=(List.getElem?_eq_some_iff.1 q1).1
      simp at this;omega
    subst him
    rw[List.getElem?_append_right (by omega),e1]at q1
    rw[List.getElem?_append_right (by omega),e2]at q2
    simp at q1 q2
    subst q1 q2
    exact r.rp h hn fun e he=>hg e (List.mem_append_right _ he)
  ·by_cases hi:i<m
   ·rw[List.getElem?_append_left (by omega)]at q
    exact(h5 β fun e he=>hβ e (List.mem_append_left _ he)).1 i row q
   ·have him:i=m:=by
      have:=(List.getElem?_eq_some_iff.1 q).1
      simp at this;omega
    subst him
    rw[List.getElem?_append_right (by omega),e2]at q
    simp at q
    subst q
    exact(r.vr β fun e he=>hβ e (List.mem_append_right _ he)).1
  ·rcases List.mem_append.1 he with q|q
   ·exact(h5 β fun e he=>hβ e (List.mem_append_left _ he)).2 e q
   ·exact(r.vr β fun e he=>hβ e (List.mem_append_right _ he)).2 e q
  ·rcases List.mem_append.1 hr with q|q
   ·exact h6 row q
   ·simp at q;subst q;exact hlen
theorem Fi {t e:TypeId}{s:Sh}(ht:P.underlying t=some (.slice e))(hp:0<s.sz)(h8:8<=P.bytesOf e)(hce:P.cellsOf e=s.sz)(hs:Reads B M P w enc held e s):Reads B M P w enc held t (.arr s):=by
 intro n cs y h hfz hM k
 rcases open_slice ht h with⟨rfl,rfl⟩|⟨a,len,cap,m,n',D,Q,rfl,hb,hl,hm,hmm,rfl,hi⟩
 ·refine⟨.arr [],[.raw none 0 0],k,[],⟨rfl,om⟩,.arr _ (Nat.zero_le _) (fun x hx=>absurd hx (by simp)),eB.nil (fun h=>wo.2 (Or.inl ⟨[],_,rfl,rfl,Or.inl (Nat.zero_le _),⟨Nat.zero_le _,⟨0,[],rfl,⟨Or.inl ⟨rfl,Or.inr ⟨none,0,rfl⟩⟩⟩,rfl,fun i x row h1=>absurd h1 (by simp)⟩⟩⟩)) fun β=>?_⟩
  simp[bh,VR]
 ·rw[if_pos rfl]at hmm
  subst hmm
  by_cases hz:len=0
  ·subst hz
   refine⟨.arr [],[.raw (some a) 0 m],k,[],⟨rfl,om⟩,.arr _ (Nat.zero_le _) (fun x hx=>absurd hx (by simp)),eB.nil (fun h=>wo.2 (Or.inl ⟨[],_,rfl,rfl,Or.inl (Nat.zero_le _),⟨Nat.zero_le _,⟨0,[],rfl,⟨Or.inl ⟨rfl,Or.inr ⟨some a,m,rfl⟩⟩⟩,rfl,fun i x row h1=>absurd h1 (by simp)⟩⟩⟩)) fun β=>?_⟩
   simp[bh,VR]
  ·have hmx:maxLen=9223372036854775807:=by decide
   by_cases hbig:B<len/\s.GP B≠0
   ·refine⟨.gQ len,[.raw (some a) len m],k,[],⟨rfl,om⟩,.gQ _,eB.nil (fun h=>wo.2 (Or.inr ⟨rfl,len,some a,m,rfl,rfl,hbig.1,hbig.2,om⟩)) fun β=>?_⟩
    simp[bh,VR]
   rw[hce]at hfz
   simp only[DataW.weights,ht]at hM
   have hlen8:len<=M/8:=by
    have:=hM _ (List.mem_cons_self ..)
    simp only[List.length_map,List.length_range]at this
    have h2:(len+(m-len))*8<=(len+(m-len))*P.bytesOf e:=Nat.mul_le_mul_left _ h8
    omega
   have hMi: ∀i,i<m-> ∀x∈DataW.weights P e (D i),x<=M:=fun i hi x hx=>by
    refine hM x (List.mem_cons_of_mem _ (List.mem_append.2 ?_))
    rcases Nat.lt_or_ge i len with q|q
    ·exact Or.inl (iZ (List.mem_map.2 ⟨i,by simpa using q,rfl⟩) hx)
    ·exact Or.inr (iZ (List.mem_map.2 ⟨i-len,by simp;omega,by rw[Nat.add_sub_cancel' q]⟩) hx)
   have hfr: ∀i,i<m->w.noneFrozen (Q i):=fun i hil=>nN hfz fun x hx=>by
    rw[List.mem_append];right
    rw[List.mem_flatMap]
    exact⟨i,by simpa using hil,hx⟩
   have hC: ∃C:Nat->List Value,∀i,i<m->w.cells? 0 (a.add (i*s.sz)) s.sz=some (C i)/\ ∃n,DataW.trod enc P w 0 (fun _=>true) held n e (C i)=some (D i,Q i):=by
    refine⟨fun i=>(w.cells? 0 (a.add (i*s.sz)) s.sz).getD [],fun i hil=>?_⟩
    obtain⟨cs',h1,h2⟩:=hi i hil
    rw[hce]at h1
    have e:(w.cells? 0 (a.add (i*s.sz)) s.sz).getD []=cs':=by rw[h1];rfl
    refine⟨?_,n',?_⟩
    ·show _=some ((w.cells? 0 (a.add (i*s.sz)) s.sz).getD [])
     rw[e];exact h1
    ·show DataW.trod enc P w 0 (fun _=>true) held n' _ ((w.cells? 0 (a.add (i*s.sz)) s.sz).getD [])=_
     rw[e];exact h2
   obtain⟨C,hC⟩:=hC
   obtain⟨ds,rows,k1,L,e1,hbd,e2,hk1,h1,h2,h3,h4,h5,h6⟩:=wy hs len C (fun i hil=>by
    obtain⟨_,n,q⟩:=hC i om
    exact⟨n,_,q,hfr i om,hMi i om⟩) (k+1)
   have hc: ∀i,i<m->(C i).length=s.sz/\ ∀j,j<s.sz->w.cell? (a.add (i*s.sz+j))=(C i)[j]? :=fun i hil=>by
    obtain⟨_,h3,h4⟩:=World.cells?_some (hC i hil).1
    refine⟨h3,fun j hj=>?_⟩
    rw[<-add_add];exact h4 j hj
   obtain⟨b,off,spot⟩:=a
   have hsome: ∀i,i<m-> ∀j,j<s.sz-> ∃u,w.cell? ((⟨b,off,spot⟩:Addr).add (i*s.sz+j))=some u:=fun i hil j hj=>by
    obtain⟨h3,h4⟩:=hc i hil
    exact⟨(C i)[j]'om,by rw[h4 j hj];simp[h3,hj]⟩
   have hsp:spot=none:=by
    obtain⟨u,hu⟩:=hsome 0 om 0 hp
    simpa[Addr.add]using World.cell?_spot hu
   subst hsp
   have ha: ∀j,(⟨b,off,none⟩:Addr).add j=⟨b,off+j,none⟩:=fun j=>by unfold Addr.add;split<;>simp_all
   obtain⟨u0,hu0⟩:=hsome 0 om 0 hp
   rw[ha]at hu0
   unfold World.cell? at hu0
   split at hu0
   ·rename_i cur t' fz hblk
    have hget: ∀k,w.cell? ⟨b,off+k,none⟩=cur[off+k]? :=fun k=>by
     unfold World.cell?;rw[hblk];simp
    have hsize:off+m*s.sz<=cur.size:=by
     obtain⟨u,hu⟩:=hsome (m-1) om (s.sz-1) om
     rw[ha,hget]at hu
     have:=(Array.getElem?_eq_some_iff.1 hu).1
     have e1:(m-1)*s.sz+(s.sz-1)+1=m*s.sz:=by
      have:m=(m-1)+1:=by omega
      rw[this,Nat.succ_mul];simp;omega
     omega
    have hnf: ∀i,off<=i->i<off+m*s.sz->(decide (fz.1<=i)&&decide (i<fz.2))=false:=fun i q1 q2=>by
     have:=hfz b i (by
      rw[List.mem_append];left
      exact MemPlace.mem_row.2 ⟨i-off,om,by simp;omega⟩)
     unfold World.frozen? at this
     simp only[hblk]at this
     exact this
    have hblt:b<w.heap.size:=by
     rcases Nat.lt_or_ge b w.heap.size with q|q
     ·exact q
     ·rw[Array.getElem?_eq_none q]at hblk;cases hblk
    have hmul:len*s.sz<=m*s.sz:=Nat.mul_le_mul_right _ hl
    have hfl:rows.flatten.length=len*s.sz:=by rw[gO h6,e2]
    refine⟨.arr ds,[.sl k 0 rows.length s.sz none],k1,⟨k,⟨b,off,off+m*s.sz,dv⟩,rows.flatten⟩::L,⟨rfl,?_⟩,.arr _ om hbd,⟨om,fun e he=>?_,?_,fun h hn hg=>?_,fun β hβ=>⟨?_,fun e he=>?_⟩⟩⟩
    ·simp only[Sh.GP]
     have:len*s.GP B<=B*s.GP B:=by
      rcases Nat.eq_zero_or_pos (s.GP B)with q|q
      ·rw[q];simp
      ·exact Nat.mul_le_mul_right _ om
     omega
    ·rcases List.mem_cons.1 he with rfl|he
     ·exact⟨Nat.le_refl _,by show k<k1;omega⟩
     ·have:=h2 e he;omega
    ·rw[List.pairwise_cons]
     exact⟨fun e he q=>by have:=h2 e he;have q':k=e.id:=q;omega,h3⟩
    ·refine wo.2 (Or.inl ⟨ds,_,rfl,rfl,om,⟨om,⟨k,rows,rfl,AN.mk' om om (hg _ (List.mem_cons_self ..)) rfl h6,om,fun i x row q1 q2=>h4 h hn (fun e he=>hg e (by simp[he])) i x row q1 q2⟩⟩⟩)
    ·simp only[bh,VR]
     exact⟨_,_,rfl,⟨⟨b,off,off+m*s.sz,dv⟩,off,m,hβ _ (List.mem_cons_self ..),by rw[e2],om,Nat.le_refl _,Or.inl (Nat.add_zero off).symm,fun c q=>by cases q⟩,rfl⟩
    ·rcases List.mem_cons.1 he with rfl|he
     ·refine⟨hblt,cur,(t',fz),hblk,⟨hsize,by show off+rows.flatten.length<=off+m*s.sz;omega,fun i q1 q2=>hnf i q1 q2⟩,fun i v hi=>?_⟩
      have hv:=(h5 β fun e he=>hβ e (by simp[he])).1
      have hil:i<len*s.sz:=by
       have:=(List.getElem?_eq_some_iff.1 hi).1
       rw[hfl]at this;exact this
      have hq:i/s.sz<len:=by rw[Nat.div_lt_iff_lt_mul hp];exact hil
      have hrow:rows[i/s.sz]? =some (rows[i/s.sz]'om):=List.getElem?_eq_getElem om
      have hfg:=jm h6 (i/s.sz) _ hrow
      have hmod:i % s.sz<s.sz:=Nat.mod_lt _ hp
      have hdm:i/s.sz*s.sz+i % s.sz=i:=by rw[Nat.mul_comm];exact Nat.div_add_mod i s.sz
      have hvi:(rows[i/s.sz]'om)[i % s.sz]? =some v:=by
       rw[<-hfg,List.getElem?_take_of_lt hmod,List.getElem?_drop,hdm];exact hi
      obtain⟨u,u1,u2⟩:=(hv _ _ hrow).get hvi
      refine⟨u,?_,u2⟩
      have:=(hc (i/s.sz) om).2 (i % s.sz) hmod
      rw[ha,hget,hdm,u1]at this
      exact this
     ·exact(h5 β fun e he=>hβ e (by simp[he])).2 e he
   ·cases hu0
theorem qh (hM8:1000<=M/8): ∀(m:Nat) (t:TypeId) (s:Sh) (q:Nat),IJ P m t=some (s,q)->P.cellsOf t=s.sz/\Reads B M P w enc held t s
 |0,t,s,q,e=>by cases e
 |m+1,t,s,q,e=>by
  have ok_some: ∀s0:Sh,(if P.cellsOf t=s0.sz then some (s0,s0.sz)else none)=some (s,q)->s0=s/\P.cellsOf t=s.sz:=fun s0 h=>by
   split at h
   ·rename_i hc;cases h;exact⟨rfl,hc⟩
   ·cases h
  unfold IJ at e
  simp only at e
  split at e
  ·rename_i k ht
   obtain⟨rfl,hc⟩:=ok_some _ e
   refine⟨hc,fun n cs y h hfz hM k0=>?_⟩
   obtain⟨z,rfl,rfl,_⟩:=DataW.trod_int ht h
   exact⟨.int z,[.int k z],k0,[],⟨rfl,om⟩,.int _,eB.nil (fun h=>by simp[Rp]) fun β=>by simp[bh,VR]⟩
  ·rename_i ht
   obtain⟨rfl,hc⟩:=ok_some _ e
   refine⟨hc,fun n cs y h hfz hM k0=>?_⟩
   obtain⟨z,rfl,rfl,_⟩:=DataW.trod_string ht h
   exact⟨.str (z.data.toList.map UInt8.toNat),[.str (z.data.toList.map UInt8.toNat)],k0,[],⟨rfl,om⟩,.str _,eB.nil (fun h=>by simp[Rp]) fun β=>by simp[bh,VR]⟩
  ·rename_i ht
   obtain⟨rfl,hc⟩:=ok_some _ e
   refine⟨hc,fun n cs y h hfz hM k0=>?_⟩
   obtain⟨z,rfl,rfl⟩:=DataW.trod_bool ht h
   exact⟨.bool z,[.bool z],k0,[],⟨rfl,om⟩,.bool _,eB.nil (fun h=>by simp[Rp]) fun β=>by simp[bh,VR]⟩
  ·rename_i fs ht
   split at e
   ·rename_i l hl
    split at e
    ·rename_i hl1000
     obtain⟨rfl,hc⟩:=ok_some _ e
     refine⟨hc,fun n cs y h hfz hM k0=>?_⟩
     obtain⟨xs,n',_,rfl,hcl,hxl,hf⟩:=DataW.trod_struct ht h
     simp only[DataW.weights,ht]at hM
     obtain⟨ds,avs,k',L,⟨hk,hds⟩,hbd,r⟩:=GQ (enc:=enc) (held:=held) (w:=w) (fun t s m' h=>qh hM8 m t s m' h) fs.toList 0 l cs hl (by rw[hcl,hc];simp[Sh.sz]) (fun f hm=>by
      obtain⟨i,hi,rfl⟩:=List.mem_iff_getElem.1 hm
      have hi':i<fs.size:=by simpa using hi
      have hfi:fs[i]? =some (fs.toList[i]):=by simp[hi']
      have h1:=hf i _ hfi
      have hxi:xs[i]? =some (xs[i]'om):=List.getElem?_eq_getElem om
      rw[hxi]at h1
      refine⟨n',_,h1,nN hfz fun x hm=>?_,fun x hx=>hM x (eT (i:=i) (by simp[hi']) (by rw[List.getElem?_map,hxi];rfl) hx)⟩
      rw[List.mem_flatMap]
      exact⟨_,List.getElem_mem om,hm⟩) k0
     rw[List.drop_zero]at r
     refine⟨.row ds,avs,k',L,⟨?_,by simpa only[Sh.GP]using hk⟩,.row _ om hbd,⟨r.le,r.ids,r.nodup,fun h hn hg=>by simp only[Rp];exact⟨ds,rfl,r.rp h hn hg⟩,r.vr⟩⟩
     have:=(r.vr (fun id=>((L.find? fun e=>e.id==id).map (·.loc))) fun e he=>by
      have hf: ∀(l:List En),(l.Pairwise fun a b=>a.id≠b.id)->e∈l->l.find? (fun x=>x.id==e.id)=some e:=by
       intro l
       induction l with
       |nil=>intro _ he;cases he
       |cons x l ih=>
        intro hp he
        rw[List.pairwise_cons]at hp
        rcases List.mem_cons.1 he with rfl|he
        ·rw[List.find?_cons_of_pos (by simp)]
        ·rw[List.find?_cons_of_neg (by simpa using hp.1 e he)]
         exact ih hp.2 he
      rw[hf L r.nodup he];rfl).1.length
     rw[this,hcl,hc]
    ·cases e
   ·cases e
  ·rename_i e0 ht
   split at e
   ·rename_i s0 q0 hs0
    split at e
    ·rename_i hp
     obtain⟨rfl,hc⟩:=ok_some _ e
     obtain⟨h1,h2⟩:=qh hM8 m e0 s0 q0 hs0
     exact⟨hc,Fi ht hp.1 hp.2 h1 h2⟩
    ·cases e
   ·cases e
  ·cases e
end
/-! the start of a run -/
def AH:List En->Tr AB
 |[]=> .nil
 |e::l=>Tr.set depth (AH l) e.id (.cells e.vs)
theorem fT: ∀{l:List En},(∀e∈l,e.id<e.id+1)-> ∀{id:Nat} {b:AB},Tr.get (AH l) id=some b-> ∃e∈l,e.id=id/\b= .cells e.vs
 |[],_,id,b,q=>by
  have:Tr.get (Tr.nil:Tr AB) id=some b:=q
  rw[Tr.get_nil]at this;cases this
 |e::l,hl,id,b,q=>by
  have q':Tr.get (Tr.set depth (AH l) e.id (.cells e.vs)) id=some b:=q
  rw[bM _ _ _ _ (hl e (by simp))]at q'
  by_cases x:e.id=id
  ·rw[if_pos x]at q';cases q'
   exact⟨e,by simp,x,rfl⟩
  ·rw[if_neg x]at q'
   obtain⟨e',h1,h2⟩:=fT (fun e he=>hl e (by simp[he])) q'
   exact⟨e',by simp[h1],h2⟩
theorem wz: ∀{l:List En},(∀e∈l,e.id<e.id+1)->(l.Pairwise fun a b=>a.id≠b.id)-> ∀e∈l,Tr.get (AH l) e.id=some (.cells e.vs)
 |[],_,_,e,he=>by cases he
 |x::l,hl,hp,e,he=>by
  rw[List.pairwise_cons]at hp
  show Tr.get (Tr.set depth (AH l) x.id (.cells x.vs)) e.id=_
  rw[bM _ _ _ _ (hl x (by simp))]
  rcases List.mem_cons.1 he with rfl|he
  ·rw[if_pos rfl]
  ·rw[if_neg (hp.1 e he)]
   exact wz (fun e he=>hl e (by simp[he])) hp.2 e he
theorem AI: ∀{l:List En},(l.Pairwise fun a b=>a.id≠b.id)-> ∀e∈l,l.find? (fun x=>x.id==e.id)=some e
 |[],_,e,he=>by cases he
 |x::l,hp,e,he=>by
  rw[List.pairwise_cons]at hp
  rcases List.mem_cons.1 he with rfl|he
  ·rw[List.find?_cons_of_pos (by simp)]
  ·rw[List.find?_cons_of_neg (by simpa using hp.1 e he)]
   exact AI hp.2 e he
theorem eB.start {w:World}{ng k:Nat}{cs:List Value}{avs:List AV}{L:List En}{R:H->Prop}(r:eB w ng k cs avs L R):
    ∃(h0:H) (β:bS),h0.n=k/\WF h0/\Cx (top k) h0/\R h0/\bh β avs cs/\HR k β (view (top k) h0) w/\GB ng β/\ ∀id,k<=id->β id=none:=by
 have hid: ∀e∈L,e.id<e.id+1:=fun e _=>Nat.lt_succ_self _
 let β:bS:=fun id=>if id<ng then some ⟨id,0,0,dv⟩else(L.find? fun e=>e.id==id).map (·.loc)
 have hβ: ∀e∈L,β e.id=some e.loc:=fun e he=>by
  show(if _ then _ else _)=_
  rw[if_neg (by have:=(r.ids e he).1;omega),AI r.nodup e he];rfl
 have hv:=r.vr β hβ
 refine⟨⟨AH L,k⟩,β,rfl,⟨fun id h=>?_,Nat.le_refl _⟩,⟨Nat.le_refl _,fun id _=>eg (Nat.zero_le _)⟩,r.rp _ (Nat.le_refl _) fun e he=>wz hid r.nodup e he,hv.1,⟨fun id b q=>?_,fun i j b d _ _ q1 q2 _ _ _=>?_⟩,fun g hg=>⟨0,by show(if _ then _ else _)=_;rw[if_pos hg]⟩,fun id h=>?_⟩
 ·cases hq:Tr.get (AH L) id with
  |none=>rfl
  |some b=>
   obtain⟨e,h1,h2,_⟩:=fT hid hq
   have:=(r.ids e h1).2
   have h':k<=id:=h
   omega
 ·obtain⟨e,h1,h2,rfl⟩:=fT hid (dg q).1
  subst h2
  obtain⟨h3,h4⟩:=hv.2 e h1
  exact⟨e.loc,hβ e h1,h3,h4⟩
 ·obtain⟨e,h1,h2,_⟩:=fT hid (dg q1).1
  obtain⟨e',h1',h2',_⟩:=fT hid (dg q2).1
  have:=(r.ids e h1).2
  have:=(r.ids e' h1').2
  exact Or.inr ⟨om,om⟩
 ·show(if _ then _ else _)=_
  have:=r.le
  rw[if_neg (by omega)]
  cases hf:L.find? fun e=>e.id==id with
  |none=>rfl
  |some e=>
   have h1:=List.mem_of_find?_eq_some hf
   have h2:=List.find?_some hf
   have h3:=(r.ids e h1).2
   simp at h2;omega
end
section
open Go Go.RowKit
theorem eB.Q5 {w:World}{ng k:Nat}{cs:List Value}{avs:List AV}{L:List En}{R:H->Prop}(r:eB w ng k cs avs L R)(sz:Nat->Nat)(GL:List (Nat×List AV))(hG: ∀p∈GL,p.1<ng)(hnd:GL.Pairwise fun a b=>a.1≠b.1)
    (hGb: ∀(β:bS) (p:Nat×List AV),p∈GL->p.1<w.heap.size/\BR β ⟨p.1,0,sz p.1,dv⟩ w (.cells p.2)):
    ∃(h0:H) (β:bS),h0.n=k/\WF h0/\Cx (top k) h0/\R h0/\bh β avs cs/\HR k β (view (top k) h0) w/\GB ng β/\(∀id,k<=id->β id=none)/\(∀e∈L,β e.id=some e.loc)/\ ∀p∈GL,h0.get p.1=some (.cells p.2):=by
 let E:List En:=GL.map (fun p=>⟨p.1,⟨p.1,0,sz p.1,dv⟩,p.2⟩)++L
 have hrle:=r.le
 have hEl: ∀e∈E,(∃p∈GL,e=⟨p.1,⟨p.1,0,sz p.1,dv⟩,p.2⟩)\/e∈L:=fun e he=>by
  rcases List.mem_append.1 he with q|q
  ·obtain⟨p,h1,h2⟩:=List.mem_map.1 q
   exact Or.inl ⟨p,h1,h2.symm⟩
  ·exact Or.inr q
 have hid: ∀e∈E,e.id<k:=fun e he=>by
  rcases hEl e he with⟨p,h1,rfl⟩|q
  ·have:=hG p h1;show p.1<k;omega
  ·exact(r.ids e q).2
 have hid': ∀e∈E,e.id<e.id+1:=fun e _=>Nat.lt_succ_self _
 have hpw:E.Pairwise fun a b=>a.id≠b.id:=by
  rw[List.pairwise_append]
  refine⟨?_,r.nodup,fun a ha b hb q=>?_⟩
  ·rw[List.pairwise_map];exact hnd
  ·obtain⟨p,h1,h2⟩:=List.mem_map.1 ha
   have h3:=hG p h1
   have h4:=(r.ids b hb).1
   rw[<-h2]at q
   have q':p.1=b.id:=q
   omega
 let β:bS:=fun id=>if id<ng then some ⟨id,0,sz id,dv⟩else(L.find? fun e=>e.id==id).map (·.loc)
 have hβ: ∀e∈L,β e.id=some e.loc:=fun e he=>by
  show(if _ then _ else _)=_
  rw[if_neg (by have:=(r.ids e he).1;omega),AI r.nodup e he];rfl
 have hv:=r.vr β hβ
 have hmem:=wz hid' hpw
 refine⟨⟨AH E,k⟩,β,rfl,⟨fun id h=>?_,Nat.le_refl _⟩,⟨Nat.le_refl _,fun id _=>eg (Nat.zero_le _)⟩,r.rp _ (Nat.le_refl _) fun e he=>hmem e (List.mem_append_right _ he),hv.1,⟨fun id b q=>?_,fun i j b d _ _ q1 q2 _ _ _=>?_⟩,fun g hg=>⟨sz g,by show(if _ then _ else _)=_;rw[if_pos hg]⟩,fun id h=>?_,hβ,fun p hp=>?_⟩
 ·cases hq:Tr.get (AH E) id with
  |none=>rfl
  |some b=>
   obtain⟨e,h1,h2,_⟩:=fT hid' hq
   have:=hid e h1
   have h':k<=id:=h
   omega
 ·obtain⟨e,h1,h2,rfl⟩:=fT hid' (dg q).1
  subst h2
  rcases hEl e h1 with⟨p,h3,rfl⟩|h3
  ·obtain⟨h4,h5⟩:=hGb β p h3
   exact⟨_,by show(if _ then _ else _)=_;rw[if_pos (hG p h3)],h4,h5⟩
  ·obtain⟨h4,h5⟩:=hv.2 e h3
   exact⟨e.loc,hβ e h3,h4,h5⟩
 ·obtain⟨e,h1,h2,_⟩:=fT hid' (dg q1).1
  obtain⟨e',h1',h2',_⟩:=fT hid' (dg q2).1
  have:=hid e h1
  have:=hid e' h1'
  exact Or.inr ⟨om,om⟩
 ·show(if _ then _ else _)=_
  rw[if_neg (by omega)]
  cases hf:L.find? fun e=>e.id==id with
  |none=>rfl
  |some e=>
   have h1:=List.mem_of_find?_eq_some hf
   have h2:=List.find?_some hf
   have h3:=(r.ids e h1).2
   simp at h2;omega
 ·exact hmem ⟨p.1,⟨p.1,0,sz p.1,dv⟩,p.2⟩ (List.mem_append_left _ (List.mem_map.2 ⟨p,hp,rfl⟩))
end
end Go.Proofs.YtemehfgkfidgjaaGreatDoor.Ev
