/- CoverStates, part 33 -/
import Derived.Test.YtemehfgkfidgjaaGreatDoorClU
import Derived.Test.YtemehfgkfidgjaaGreatDoorNdH
set_option linter.all false
set_option maxHeartbeats 4000000
namespace Go.Proofs.YtemehfgkfidgjaaGreatDoor.Ev
open Go
open Classical
structure dz where
 i:Nat
 st:Nat
 id:Nat
 sn:Int×Int->Bool
abbrev uJ (x:dz):Int×PV×Nat:=((x.i:Int),.gC (2000+x.i) x.id,x.st)
abbrev PZ (x:dz):Nat×Option Nat×PB:=(2000+x.i,some x.id,.map 2 (oT x.sn))
abbrev wT (x:dz):Int×PV×Nat:=((x.i:Int),.nC 2 (oT x.sn),x.st)
theorem Hv {k:Nat}{v:Option Nat×PB}{S:aJ}:aC ((k,v)::S) k=some v:=by rw[aH,if_pos rfl]
theorem BI {x:dz}: ∀{fs:List dz},(fs.map (·.i)).Nodup->x∈fs->aC (fs.map PZ) (2000+x.i)=some (some x.id,.map 2 (oT x.sn))
 |[],_,h=>by cases h
 |y::fs,hn,h=>by
  rw[List.map_cons,List.nodup_cons]at hn
  rw[List.map_cons,aH]
  rcases List.mem_cons.1 h with q|q
  ·subst q;rw[if_pos rfl]
  ·rw[if_neg fun w=>hn.1 (List.mem_map.2 ⟨x,q,by omega⟩)];exact BI hn.2 q
theorem oR {p:Nat}{z:Option Nat×PB}: ∀{fs:List dz},aC (fs.map PZ) p=some z-> ∃x∈fs,p=2000+x.i/\z=(some x.id,.map 2 (oT x.sn))
 |[],h=>by cases h
 |y::fs,h=>by
  rw[List.map_cons,aH]at h
  by_cases q:2000+y.i=p
  ·rw[if_pos q]at h;cases h;exact⟨y,List.mem_cons_self,q.symm,rfl⟩
  ·rw[if_neg q]at h
   obtain⟨x,h1,h2⟩:=oR h
   exact⟨x,List.mem_cons_of_mem _ h1,h2⟩
abbrev DM (i14 i15:Nat)(l:jj)(ck:Nat)(m:jj)(mk:Nat)(fs:List dz):aJ:=(1014,some i14,.dA l ck)::(1015,some i15,.dA m mk)::fs.map PZ
abbrev O8 (i14 i15:Nat)(l:jj)(ck:Nat)(fs:List dz)(mk:Nat):aJ:=DM i14 i15 l ck (fs.map uJ) mk fs
def Hw (pre:aJ):Prop:= ∀p y,aC pre p=some y->p<2000
theorem oS {pre:aJ}(h: ∀p∈pre.map (·.1),p<2000):Hw pre:=fun p y e=>h p (mh e)
theorem JL {pre T:aJ}{p:Nat}(h:Hw pre)(hp:2000<=p):aC (pre++T) p=aC T p:=by
 rw[de]
 cases e:aC pre p with
 |none=>rfl
 |some y=>have:=h p y e;omega
theorem dL {pre:aJ}{i14 i15 ck mk:Nat}{l m:jj}{fs:List dz}{x:dz}(h:Hw pre)(hn:(fs.map (·.i)).Nodup)(hx:x∈fs):aC (pre++DM i14 i15 l ck m mk fs) (2000+x.i)=some (some x.id,.map 2 (oT x.sn)):=by
 rw[JL h (by omega),aH,if_neg (by omega),aH,if_neg (by omega)]
 exact BI hn hx
inductive dX (S:aJ):aJ->Prop
 |nil:dX S []
 |cons {q:Nat} {y:Option Nat×PB} {pre:aJ}:aC S q=some y->dX S pre->dX S ((q,y)::pre)
theorem dX.get {S pre:aJ}(s:dX S pre): ∀p y,aC pre p=some y->aC S p=some y:=by
 induction s with
 |nil=>intro p y e;cases e
 | @cons q z pre h _ ih=>
  intro p y e
  rw[aH]at e
  by_cases w:q=p
  ·rw[if_pos w]at e;cases e;rw[<-w];exact h
  ·rw[if_neg w]at e;exact ih p y e
theorem nH {S pre:aJ}{i14 i15 ck mk:Nat}{l m:jj}{fs:List dz}(hp:dX S pre)(a2:aC S 1014=some (some i14,.dA l ck))(a3:aC S 1015=some (some i15,.dA m mk))(hf: ∀x∈fs,aC S (2000+x.i)=some (some x.id,.map 2 (oT x.sn))):ZS [] (fun p=>p) S (pre++DM i14 i15 l ck m mk fs):=⟨fun q x e=>(by cases e),fun p id d e hd=>⟨rfl,d,by
 rw[de]at e
 cases hl:aC pre p with
 |some y=>rw[hl]at e;cases e;exact hp.get p _ hl
 |none=>
  rw[hl]at e
  simp only at e
  rw[aH]at e
  by_cases q:1014=p
  ·rw[if_pos q]at e;cases e;subst q;exact a2
  ·rw[if_neg q,aH]at e
   by_cases q:1015=p
   ·rw[if_pos q]at e;cases e;subst q;exact a3
   ·rw[if_neg q]at e
    obtain⟨x,hx,rfl,e2⟩:=oR e
    cases e2
    exact hf x hx,.refl _⟩,fun p q _ _ _ _ _ _ _ e=>e⟩
theorem FM {k:Nat}{v:Option Nat×PB}{pre:aJ}{i14 i15 ck mk:Nat}{l m:jj}{fs Hx:List dz}(hq:2000<=k)(h:Hw pre)(hf: ∀y∈Hx,∃b,aC ((k,v)::(pre++DM i14 i15 l ck m mk fs)) (2000+y.i)=some (some y.id,b)/\wB b (.map 2 (oT y.sn))):JM ((k,v)::(pre++DM i14 i15 l ck m mk fs)) (pre++DM i14 i15 l ck m mk Hx):=fun p id d e=>by
 rw[de]at e
 cases hl:aC pre p with
 |some y=>
  rw[hl]at e;cases e
  have:=h p _ hl
  exact⟨_,by rw[aH,if_neg (by omega),de,hl],.refl _⟩
 |none=>
  rw[hl]at e
  simp only at e
  rw[aH]at e
  by_cases q:1014=p
  ·rw[if_pos q]at e;cases e
   exact⟨_,by rw[aH,if_neg (by omega),de,hl];simp only;rw[aH,if_pos q],.refl _⟩
  ·rw[if_neg q,aH]at e
   by_cases q2:1015=p
   ·rw[if_pos q2]at e;cases e
    exact⟨_,by rw[aH,if_neg (by omega),de,hl];simp only;rw[aH,if_neg q,aH,if_pos q2],.refl _⟩
   ·rw[if_neg q2]at e
    obtain⟨x,hx,rfl,e2⟩:=oR e
    cases e2
    exact hf x hx
theorem Jx {S:aJ}{u:aF}{lf:List Nat->Option PV}{i14 i15 ck mk:Nat}{l:jj}{fs:List dz}(a2:aC S 1014=some (some i14,.dA l ck))(a3:aC S 1015=some (some i15,.dA (fs.map uJ) mk))(hf: ∀x∈fs,aC S (2000+x.i)=some (some x.id,.map 2 (oT x.sn))):Zf S (.fp (MI u lf i14 i15) 0) (.fp (eU u lf (dn l) (dn (fs.map wT))) 0):=by
 have hz:dH S ((fs.map uJ).map fun e=>e.2.1) ((fs.map wT).map fun e=>e.2.1):=by
  clear a3
  induction fs with
  |nil=>exact .nil
  |cons x fs ih=>exact .cons _ _ _ _ (.gC _ _ _ _ (hf x List.mem_cons_self)) (ih fun y hy=>hf y (List.mem_cons_of_mem _ hy))
 exact .fp _ _ _ (.cons _ _ _ _ (.refl _) (.cons _ _ _ _ (.refl _) (.cons _ _ _ _ (.refl _) (.cons _ _ _ _ (.refl _) (.cons _ _ _ _ (.MX _ _ _ _ l a2 rfl (dH.refl _)) (.cons _ _ _ _ (.MX _ _ _ _ (fs.map wT) a3 (by simp) hz) .nil))))))
theorem oU {x:dz}{g:dz->PV}: ∀{fs:List dz},(fs.map (·.i)).Nodup->x∈fs->dn (fs.map fun y=>((y.i:Int),g y,y.st)) (x.i:Nat)=some (g x)
 |[],_,h=>by cases h
 |y::fs,hn,h=>by
  rw[List.map_cons,List.nodup_cons]at hn
  rw[List.map_cons]
  unfold dn
  rcases List.mem_cons.1 h with q|q
  ·subst q;rw[if_pos rfl]
  ·rw[if_neg fun w=>hn.1 (List.mem_map.2 ⟨x,q,by have w2:(x.i:Int)=(y.i:Int):=w;omega⟩)];exact oU hn.2 q
noncomputable def qS (fs:List dz)(i:Nat)(k:Int×Int):List dz:=fs.map fun x=>if x.i=i then {x with sn:=gn x.sn k}else x
theorem P0 {fs:List dz}{i:Nat}{k:Int×Int}:(qS fs i k).map (·.i)=fs.map (·.i):=by
 unfold qS
 rw[List.map_map]
 refine List.map_congr_left fun x _=>?_
 show(if x.i=i then {x with sn:=gn x.sn k}else x).i=x.i
 split<;>rfl
theorem JN {fs:List dz}{i:Nat}{k:Int×Int}:(qS fs i k).map uJ=fs.map uJ:=by
 unfold qS
 rw[List.map_map]
 refine List.map_congr_left fun x _=>?_
 show uJ (if x.i=i then {x with sn:=gn x.sn k}else x)=uJ x
 split<;>rfl
theorem uK {fs:List dz}{i:Nat}{k:Int×Int}{y:dz}(h:y∈qS fs i k): ∃x∈fs,y.i=x.i/\y.id=x.id/\y.sn=if x.i=i then gn x.sn k else x.sn:=by
 obtain⟨x,hx,rfl⟩:=List.mem_map.1 h
 refine⟨x,hx,?_⟩
 split<;>exact⟨rfl,rfl,rfl⟩
theorem JO {fs:List dz}{i:Nat}{k:Int×Int}{x:dz}(h:x∈fs): ∃y∈qS fs i k,y.i=x.i:=by
 refine⟨_,List.mem_map.2 ⟨x,h,rfl⟩,?_⟩
 split<;>rfl
def Je (f:bU):List (Int×Int):=(List.range (f.params+2).toNat).flatMap fun j:Nat=>[(((j:Nat):Int)-2,(-1:Int)),(((j:Nat):Int)-2,-2)]
theorem P1 {f:bU}{x:wF}(h:Hu f x):(x.sW,x.out)∈Je f:=by
 obtain⟨h1,h2,h3⟩:=h
 refine List.mem_flatMap.2 ⟨(x.sW+2).toNat,List.mem_range.2 (by omega),?_⟩
 have e:(((x.sW+2).toNat:Nat):Int)-2=x.sW:=by omega
 rw[e]
 rcases h3 with q|q<;>rw[q]<;>simp
theorem P2 {f:bU}(h:f.params<=1000000):(Je f).length<=4000000:=by
 have key: ∀l:List Nat,(l.flatMap fun j:Nat=>[(((j:Nat):Int)-2,(-1:Int)),(((j:Nat):Int)-2,-2)]).length=2*l.length:=fun l=>by
  induction l with
  |nil=>rfl
  |cons a l ih=>rw[List.flatMap_cons,List.length_append,ih,List.length_cons];simp;omega
 unfold Je
 rw[key,List.length_range];omega
noncomputable def Hy (u:aF)(fs:List dz):Nat:=(fs.map fun x=>FH (Je (el u.fns x.i)) x.sn).sum
theorem FN {u:aF}{k:Int×Int}{x:dz}: ∀{fs:List dz},(fs.map (·.i)).Nodup->x∈fs->x.sn k=false->k∈Je (el u.fns x.i)->Hy u (qS fs x.i k)+1<=Hy u fs
 |[],_,h,_,_=>by cases h
 |y::fs,hn,h,hk,hu=>by
  rw[List.map_cons,List.nodup_cons]at hn
  unfold qS Hy
  rw[List.map_cons,List.map_cons,List.sum_cons,List.map_cons,List.sum_cons]
  rcases List.mem_cons.1 h with q|q
  ·subst q
   rw[if_pos rfl]
   have e:(fs.map fun y=>if y.i=x.i then {y with sn:=gn y.sn k}else y)=fs:=by
    conv=>rhs;rw[<-List.map_id fs]
    refine List.map_congr_left fun y hy=>?_
    rw[if_neg fun w=>hn.1 (List.mem_map.2 ⟨y,hy,w⟩)];rfl
   rw[e]
   have:=DP hk hu
   show FH (Je (el u.fns x.i)) (gn x.sn k)+_+1<=_
   omega
  ·have ih:=FN hn.2 q hk hu
   unfold qS Hy at ih
   rw[if_neg fun w=>hn.1 (List.mem_map.2 ⟨x,q,w.symm⟩)]
   omega
structure Dm (u:aF)(l:jj)(seen:List Nat)(fs:List dz):Prop where
 nd:(fs.map (·.i)).Nodup
 sub: ∀x∈fs,∃e∈l,e.1=(x.i:Int)/\e.2.2∈seen
 all: ∀e∈l,e.2.2∈seen-> ∃x∈fs,e.1=(x.i:Int)
 sup: ∀x∈fs,∀p,x.sn p=true->p∈Je (el u.fns x.i)
theorem Dm.up {u:aF}{l:jj}{seen:List Nat}{fs:List dz}(h:Dm u l seen fs){x:dz}(hx:x∈fs){k:Int×Int}(hk:k∈Je (el u.fns x.i)):Dm u l seen (qS fs x.i k):=⟨by rw[P0];exact h.nd,fun y hy=>by
 obtain⟨z,hz,e1,_⟩:=uK hy
 rw[e1];exact h.sub z hz,fun e he hs=>by
 obtain⟨z,hz,e1⟩:=h.all e he hs
 obtain⟨y,hy,e2⟩:=JO (i:=x.i) (k:=k) hz
 exact⟨y,hy,by rw[e1,e2]⟩,fun y hy p hp=>by
 obtain⟨z,hz,e1,_,e3⟩:=uK hy
 rw[e1]
 rw[e3]at hp
 split at hp
 ·rename_i q
  unfold gn at hp
  split at hp
  ·rename_i w;rw[w,q];exact hk
  ·exact h.sup z hz p hp
 ·exact h.sup z hz p hp⟩
theorem Dm.add {u:aF}{lf:List Nat->Option PV}{n ck:Nat}{l:jj}{seen:List Nat}{fs:List dz}(he:fB u lf n l ck)(h:Dm u l seen fs){i st mk id:Nat}{v:PV}(hm:(((i:Nat):Int),v,st)∈l)(hs:st∉seen):Dm u l (seen++[st]) (fs++[⟨i,mk,id,fun _=>false⟩]):=⟨by
 rw[List.map_append,List.nodup_append]
 refine⟨h.nd,by simp,fun a ha b hb=>?_⟩
 obtain⟨x,hx,rfl⟩:=List.mem_map.1 ha
 obtain⟨e,h1,h2,h3⟩:=h.sub x hx
 have hb2:b=i:=by simpa using hb
 intro q
 have q2:e.1=(i:Int):=by rw[h2];have q3:x.i=b:=q;omega
 have:=gq he.nk h1 hm q2
 rw[this]at h3;exact hs h3,fun x hx=>by
 rcases List.mem_append.1 hx with q|q
 ·obtain⟨e,h1,h2,h3⟩:=h.sub x q
  exact⟨e,h1,h2,List.mem_append_left _ h3⟩
 ·rw[List.mem_singleton.1 q];exact⟨_,hm,rfl,List.mem_append_right _ (List.mem_singleton.2 rfl)⟩,fun e h1 h2=>by
 rcases List.mem_append.1 h2 with q|q
 ·obtain⟨x,h3,h4⟩:=h.all e h1 q
  exact⟨x,List.mem_append_left _ h3,h4⟩
 ·have:=gq he.ns h1 hm (List.mem_singleton.1 q)
  rw[this];exact⟨_,List.mem_append_right _ (List.mem_singleton.2 rfl),rfl⟩,fun x hx p hp=>by
 rcases List.mem_append.1 hx with q|q
 ·exact h.sup x q p hp
 ·rw[List.mem_singleton.1 q]at hp;cases hp⟩
theorem Dm.VM {u:aF}{l:jj}{seen:List Nat}{fs:List dz}(h:Dm u l seen fs)(hd: ∀e∈l,e.2.2∈seen){g:Int}(hg:Jd l g):Ut (dn (fs.map wT)) g:=by
 obtain⟨e,h1,rfl⟩:=hg
 obtain⟨x,hx,e1⟩:=h.all e h1 (hd e h1)
 rw[e1]
 exact⟨oT x.sn,oU (g:=fun y=> .nC 2 (oT y.sn)) h.nd hx,fun p v hv=>⟨true,FI hv⟩⟩
theorem MZ {u:aF}{lf:List Nat->Option PV}{cf:Int->Option PV}{i:Nat}(h: ¬Ha lf cf u i){m:Nat}(hm:m<(el u.fns i).code.length){g:Int}(hg:g∈ui u (el u.fns i) (el (el u.fns i).code m)):cf g=some (.bool true):=by
 obtain⟨j,hj,rfl⟩:=cm hg
 exact Classical.byContradiction fun q=>h ⟨m,hm,Or.inr (Or.inr (Or.inr ⟨j,hj,q⟩))⟩
noncomputable def xV (u:aF)(D:Int->Prop)(g:Int):Option PV:=if D g then some (.fp (mS (el u.fns g.toNat) (s9 u (el u.fns g.toNat) (el u.fns g.toNat).code.length)) 0)else none
theorem M1 {u:aF}{D D2:Int->Prop}{i:Nat}(h: ∀g,D2 g↔D g\/g=(i:Int)):(fun j:Int=>if j=(i:Int)then some (PV.fp (mS (el u.fns i) (s9 u (el u.fns i) (el u.fns i).code.length)) 0)else xV u D j)=xV u D2:=funext fun j=>by
 unfold xV
 by_cases q:j=(i:Int)
 ·rw[if_pos q,if_pos ((h j).2 (Or.inr q)),q,Int.toNat_natCast]
 ·rw[if_neg q]
  by_cases w:D j
  ·rw[if_pos w,if_pos ((h j).2 (Or.inl w))]
  ·rw[if_neg w,if_neg fun z=>((h j).1 z).elim w q]
section
variable {P:Program}{X:cj}{M:Mf}{G:aK}{d:Nat}{K:PV->aJ->Prop}
theorem P3 {pre:aJ}{i14 i15 ck mk:Nat}{l m:jj}{fs:List dz}(i st:Nat)(h:Hw pre)(hn:(fs.map (·.i)).Nodup)(hi:i∉fs.map (·.i))(hk: ∀id,K (.gC (2000+i) id) (pre++DM i14 i15 l ck m mk (fs++[⟨i,st,id,fun _=>false⟩]))):PO P X M d .jG G (pre++DM i14 i15 l ck m mk fs) K:=by
 refine PO.JP (P4 (2000+i) fun id=>⟨_,_,.refl _,FM (by omega) h fun y hy=>?_,hk id⟩)
 rcases List.mem_append.1 hy with q|q
 ·refine⟨_,?_,.refl _⟩
  rw[aH,if_neg fun w=>hi (List.mem_map.2 ⟨y,q,by omega⟩)]
  exact dL h hn q
 ·rw[List.mem_singleton.1 q]
  refine⟨.map 2 fun _=>none,?_,.map _ _ _ fun k=>rfl⟩
  rw[aH,if_pos rfl]
theorem P5 {pre:aJ}{i14 i15 ck mk:Nat}{l m:jj}{fs:List dz}{x:dz}{y key:XV}{a b:Int}(h:Hw pre)(hn:(fs.map (·.i)).Nodup)(hx:x∈fs)(hk:K (.bn []) (pre++DM i14 i15 l ck m mk (qS fs x.i (a,b))))(hy:bx G y=some (.gC (2000+x.i) x.id):=by exact rfl)(hkey:bx G key=some (.agg [.int .i64 a,.int .i64 b]):=by exact rfl):PO P X M d (.fe (.st [.int,.int]) y key (.const (.bool true))) G (pre++DM i14 i15 l ck m mk fs) K:=by
 refine PO.JP (DQ ⟨_,_,.refl _,FM (by omega) h fun y hy2=>?_,hk⟩ hy (dL h hn hx) hkey rfl)
 obtain⟨z,hz,e1,e2,e3⟩:=uK hy2
 by_cases q:z.i=x.i
 ·have:z=x:=gq hn hz hx q
  subst this
  rw[if_pos rfl]at e3
  rw[e1,e2,e3]
  refine⟨_,Hv,.map 2 _ _ fun k=>?_⟩
  unfold oT gn
  by_cases e:k=(a,b)<;>simp[e]
 ·rw[if_neg q]at e3
  rw[e1,e2,e3]
  refine⟨_,?_,.refl _⟩
  rw[aH,if_neg (by omega)]
  exact dL h hn hz
end
def gH (l:jj)(seen:List Nat)(g:Int):Prop:= ∃e∈l,e.1=g/\e.2.2∈seen
theorem JQ {u:aF}{l:jj}:(fun _:Int=>(none:Option PV))=xV u (gH l []):=funext fun g=>by
 unfold xV
 rw[if_neg]
 rintro⟨e,_,_,h⟩
 cases h
theorem Hz {u:aF}{lf:List Nat->Option PV}{n ck:Nat}{l:jj}(he:fB u lf n l ck){seen:List Nat}{i:Int}{v:PV}{st:Nat}(hm:(i,v,st)∈l)(g:Int):gH l (seen++[st]) g↔gH l seen g\/g=i:=by
 constructor
 ·rintro⟨e,h1,h2,h3⟩
  rcases List.mem_append.1 h3 with q|q
  ·exact Or.inl ⟨e,h1,h2,q⟩
  ·have:=gq he.ns h1 hm (List.mem_singleton.1 q)
   rw[this]at h2;exact Or.inr h2.symm
 ·rintro(⟨e,h1,h2,h3⟩|rfl)
  ·exact⟨e,h1,h2,List.mem_append_left _ h3⟩
  ·exact⟨_,hm,rfl,List.mem_append_right _ (List.mem_singleton.2 rfl)⟩
theorem DZ {i:Nat}{fs:List dz}(h:i∉fs.map (·.i)):dn (fs.map uJ) (i:Nat)=none:=iz.2 fun⟨e,he,q⟩=>by
 obtain⟨x,hx,rfl⟩:=List.mem_map.1 he
 have q2:(x.i:Int)=(i:Int):=q
 exact h (List.mem_map.2 ⟨x,hx,by omega⟩)
theorem Dm.fresh {u:aF}{lf:List Nat->Option PV}{n ck:Nat}{l:jj}{seen:List Nat}{fs:List dz}(he:fB u lf n l ck)(h:Dm u l seen fs){i st:Nat}{v:PV}(hm:(((i:Nat):Int),v,st)∈l)(hs:st∉seen):i∉fs.map (·.i):=fun q=>by
 obtain⟨x,hx,e⟩:=List.mem_map.1 q
 obtain⟨e2,h1,h2,h3⟩:=h.sub x hx
 have:=gq he.nk h1 hm (by rw[h2];have e3:x.i=i:=e;rw[e3])
 rw[this]at h3;exact hs h3
structure Sg (u:aF):Prop where
 cg:u.cl.length<=64
 AK: ∀c m d t,bE u.cl c m=some (d,t)->t.params.length*16<=140737488355328
 fn:u.fns.length<1000000
 cl: ∀i,i<u.fns.length->(el u.fns i).code.length<=100000
 vr: ∀i,i<u.fns.length->(el u.fns i).vars.length<=1000000
 ar: ∀i,i<u.fns.length-> ∀j,j<(el u.fns i).code.length->(el (el u.fns i).code j).args.length<=1000000
 pr: ∀i,i<u.fns.length->(el u.fns i).params<=1000000
theorem Bq {dr:Prop}{ng:Nat}(sd:Sd dr Tryz.prog ng X0 Mx){u:aF}{lf:List Nat->Option PV}{i14 i15 ck:Nat}{l:jj}{K:PV->aJ->Prop}(ur:Sg u)(he:fB u lf u.fns.length l ck)(hg: ∀e∈l,¬Ha lf (dn l) u e.1.toNat)(k: ∀fs mk seen,(∀e∈l,e.2.2∈seen)->Dm u l seen fs->K (.bn []) (O8 i14 i15 l ck fs mk)):tB dr Tryz.prog ng 43 [.fp (MI u lf i14 i15) 0] (DM i14 i15 l ck [] 0 []) K:=by
 have hnt:(66:Nat)<=1000000:=by decide
 refine ly (Bl sd yZ hnt ?_)
 unfold se
 repeat'(first|refine pg ?_|refine af ?_|refine ah ?_|(refine ak ?_;intro hl)|(refine ai ?_;intro b)|(refine aw ?_ ?_<;>intro hc<;>try first|contradiction|omega)|refine aA ?_|refine au ?_|(refine JR (d:=8) ?_ .m;intro b8)|(refine mj ?_;intro i61)|refine pc ?_|refine pt ?_|refine pb ?_|refine bB ?_|refine bc ?_|refine bC sd hnt ?_|refine dD ?_|refine ft ?_)
 refine kn (ι:=List Nat×List dz×Nat) (fun q=>[(0,.fp (MI u lf i14 i15) 0),(2,.gC 8 b8),(13,.ptr 13 i61 0)]) (fun q=>(8,some b8,.map 1 (xV u (gH l q.1)))::(13,some i61,.iter i14 ck q.1 ck)::O8 i14 i15 l ck q.2.1 q.2.2) (fun q=>Dm u l q.1 q.2.1) (fun q=>gX l q.1) ([],[],0) ⟨List.nodup_nil,fun x hx=>(by cases hx),fun e _ h=>(by cases h),fun x hx=>(by cases hx)⟩ [] (fun p=>p) (.cons rfl (.refl _) (.cons rfl (.refl _) (.cons rfl (.refl _) .nil))) (nH (pre:=[(8,some b8,.map 1 (xV u (gH l []))),(13,some i61,.iter i14 ck [] ck)]) (dX.cons (by rw[<-JQ];rfl) (dX.cons rfl dX.nil)) rfl rfl fun x hx=>by cases hx) ?_
 rintro⟨seen,fs,mk⟩ hI
 dsimp only at hI⊢
 repeat'(first|refine pg ?_|refine af ?_|refine ah ?_|(refine ak ?_;intro hl)|(refine ai ?_;intro b)|(refine aw ?_ ?_<;>intro hc<;>try first|contradiction|omega)|refine aA ?_|refine au ?_|refine pc ?_|refine pt ?_|refine pb ?_|refine bB ?_|refine bc ?_|refine bC sd hnt ?_|refine dD ?_|refine ft ?_)
 refine uI (p:=13) (q:=1014) sd hnt (fun hdone=>?_) (fun g v st hm hns=>?_) (fun e he2=>(he.key e he2).2.1) (Nat.le_refl _) rfl rfl
 rotate_left
 ·have hk:=he.key _ hm
  dsimp only at hk
  obtain⟨rfl,hst,i,hi,rfl,hlf⟩:=hk
  have hfr:=hI.fresh he hm hns
  have hun:=lE he hm hns
  repeat'(first|(refine Pa hnt rfl rfl (P3 (pre:=[(8,_),(13,_),(8,_),(13,_)]) i mk (oS fun p hp=>by simp only[List.map_cons,List.map_nil,List.mem_cons,List.not_mem_nil,or_false]at hp;omega) hI.nd hfr (fun id=>?_)))|refine pg ?_|refine af ?_|refine ah ?_|(refine ak ?_;intro hl)|(refine ai ?_;intro b)|(refine aw ?_ ?_<;>intro hc<;>try first|contradiction|omega)|refine aA ?_|refine au ?_|refine qR (q:=1014) ?_|(refine ae (aa (DV hi ur.cg ur.AK (Nat.le_trans (ur.cl i hi) (by decide)) (ur.vr i hi) ?_)))|refine JS ?_|refine JK ?_ (DZ hfr)|refine pc ?_|refine pt ?_|refine pb ?_|refine bB ?_|refine bc ?_|refine bC sd hnt ?_|refine dD ?_|refine ft ?_)
  have hI2:=hI.add (mk:=mk) (id:=id) he hm hns
  exact⟨(seen++[st],fs++[⟨i,mk,id,fun _=>false⟩],mk+1),by dsimp only;omega,hI2,[],fun p=>p,(.cons rfl (.refl _) (.cons rfl (.refl _) (.cons rfl (.refl _) .nil))),nH (pre:=[(8,some b8,.map 1 (xV u (gH l (seen++[st])))),(13,some i61,.iter i14 ck (seen++[st]) ck)]) (dX.cons (by rw[<-M1 (Hz he hm)];rfl) (dX.cons rfl dX.nil)) rfl (by show some (some i15,PB.dA (fs.map uJ++[_]) (mk+1))=_;rw[List.map_append];rfl) (fun x hx=>dL (pre:=[(1015,_),(8,_),(13,_),(8,_),(13,_)]) (oS fun p hp=>by simp only[List.map_cons,List.map_nil,List.mem_cons,List.not_mem_nil,or_false]at hp;omega) hI2.nd hx)⟩
 repeat'(first|refine pg ?_|refine af ?_|refine ah ?_|(refine ak ?_;intro hl)|(refine ai ?_;intro b)|(refine aw ?_ ?_<;>intro hc<;>try first|contradiction|omega)|refine aA ?_|refine au ?_|refine pc ?_|refine pt ?_|refine pb ?_|refine bB ?_|refine bc ?_|refine bC sd hnt ?_|refine dD ?_|refine ft ?_)
 refine kn (ι:=List dz×Bool) (fun q=>[(0,.fp (MI u lf i14 i15) 0),(2,.gC 8 b8),(4,.bool q.2)]) (fun q=>(8,some b8,.map 1 (xV u (gH l seen)))::O8 i14 i15 l ck q.1 mk) (fun q=>Dm u l seen q.1) (fun q=>if q.2=true then Hy u q.1+1 else 0) (fs,true) hI [] (fun p=>p) (.cons rfl (.refl _) (.cons rfl (.refl _) (.cons rfl (.refl _) .nil))) (nH (pre:=[(8,some b8,.map 1 (xV u (gH l seen)))]) (dX.cons rfl dX.nil) rfl rfl (fun x hx=>dL (pre:=[(8,_),(13,_)]) (oS fun p hp=>by simp only[List.map_cons,List.map_nil,List.mem_cons,List.not_mem_nil,or_false]at hp;omega) hI.nd hx)) ?_
 clear hI fs
 rintro⟨fs0,ag⟩ hI0
 dsimp only at hI0⊢
 rcases ag with _|_
 ·repeat'(first|refine pg ?_|refine af ?_|refine ah ?_|(refine ak ?_;intro hl)|(refine ai ?_;intro b)|(refine aw ?_ ?_<;>intro hc<;>try first|contradiction|omega)|refine aA ?_|refine au ?_|refine pc ?_|refine pt ?_|refine pb ?_|refine bB ?_|refine bc ?_|refine bC sd hnt ?_|refine dD ?_|refine ft ?_)
  exact⟨Or.inl rfl,trivial,_,rfl,[],fun p=>p,O8 i14 i15 l ck fs0 mk,_,nH (pre:=[]) dX.nil rfl rfl (fun x hx=>dL (pre:=[(8,_)]) (oS fun p hp=>by simp only[List.map_cons,List.map_nil,List.mem_cons,List.not_mem_nil,or_false]at hp;omega) hI0.nd hx),.refl _,k _ _ _ hdone hI0⟩
 repeat'(first|refine pg ?_|refine af ?_|refine ah ?_|(refine ak ?_;intro hl)|(refine ai ?_;intro b)|(refine aw ?_ ?_<;>intro hc<;>try first|contradiction|omega)|refine aA ?_|refine au ?_|(refine mj ?_;intro i61)|refine pc ?_|refine pt ?_|refine pb ?_|refine bB ?_|refine bc ?_|refine bC sd hnt ?_|refine dD ?_|refine ft ?_)
 refine kn (ι:=List Nat×List dz×Bool) (fun q=>[(0,.fp (MI u lf i14 i15) 0),(2,.gC 8 b8),(4,.bool q.2.2),(34,.ptr 34 i61 0)]) (fun q=>(8,some b8,.map 1 (xV u (gH l seen)))::(34,some i61,.iter i14 ck q.1 ck)::O8 i14 i15 l ck q.2.1 mk) (fun q=>Dm u l seen q.2.1/\Hy u q.2.1<=Hy u fs0/\(q.2.2=true->Hy u q.2.1+1<=Hy u fs0)) (fun q=>gX l q.1) ([],fs0,false) ⟨hI0,Nat.le_refl _,fun q=>(by cases q)⟩ [] (fun p=>p) (.cons rfl (.refl _) (.cons rfl (.refl _) (.cons rfl (.refl _) (.cons rfl (.refl _) .nil)))) (nH (pre:=[(8,some b8,.map 1 (xV u (gH l seen))),(34,some i61,.iter i14 ck [] ck)]) (dX.cons rfl (dX.cons rfl dX.nil)) rfl rfl (fun x hx=>dL (pre:=[(34,_),(8,_)]) (oS fun p hp=>by simp only[List.map_cons,List.map_nil,List.mem_cons,List.not_mem_nil,or_false]at hp;omega) hI0.nd hx)) ?_
 rintro⟨seen2,fs,ag⟩ ⟨hI,ht,hag⟩
 dsimp only at hI ht hag⊢
 repeat'(first|refine pg ?_|refine af ?_|refine ah ?_|(refine ak ?_;intro hl)|(refine ai ?_;intro b)|(refine aw ?_ ?_<;>intro hc<;>try first|contradiction|omega)|refine aA ?_|refine au ?_|refine pc ?_|refine pt ?_|refine pb ?_|refine bB ?_|refine bc ?_|refine bC sd hnt ?_|refine dD ?_|refine ft ?_)
 refine uI (p:=34) (q:=1014) sd hnt (fun hdone2=>?_) (fun g v st hm hns=>?_) (fun e he2=>(he.key e he2).2.1) (Nat.le_refl _) rfl rfl
 ·repeat'(first|refine pg ?_|refine af ?_|refine ah ?_|(refine ak ?_;intro hl)|(refine ai ?_;intro b)|(refine aw ?_ ?_<;>intro hc<;>try first|contradiction|omega)|refine aA ?_|refine au ?_|refine pc ?_|refine pt ?_|refine pb ?_|refine bB ?_|refine bc ?_|refine bC sd hnt ?_|refine dD ?_|refine ft ?_)
  refine⟨(fs,ag),?_,hI,[],fun p=>p,(.cons rfl (.refl _) (.cons rfl (.refl _) (.cons rfl (.refl _) .nil))),nH (pre:=[(8,some b8,.map 1 (xV u (gH l seen)))]) (dX.cons rfl dX.nil) rfl rfl (fun x hx=>dL (pre:=[(8,_),(34,_)]) (oS fun p hp=>by simp only[List.map_cons,List.map_nil,List.mem_cons,List.not_mem_nil,or_false]at hp;omega) hI.nd hx)⟩
  dsimp only
  rcases ag with _|_
  ·simp
  ·have:=hag rfl;simp;omega
 have hk:=he.key _ hm
 dsimp only at hk
 obtain⟨rfl,hst,i,hi,rfl,hlf⟩:=hk
 have hun:=lE he hm hns
 have hbd:xV u (gH l seen) (i:Nat)=some (.fp (mS (el u.fns i) (s9 u (el u.fns i) (el u.fns i).code.length)) 0):=by
  unfold xV
  rw[if_pos ⟨_,hm,rfl,hdone _ hm⟩,Int.toNat_natCast]
 have hBd:Vz (dn (fs.map wT)) (el u.fns i) (s9 u (el u.fns i) (el u.fns i).code.length):=⟨lD,ur.cl i hi,ur.ar i hi,fun j hj g hgc=>by
  rw[lD]at hj
  rw[FK hj]at hgc
  have hne:=hg _ hm
  rw[show((((i:Nat):Int),PV.bool true,st):Int×PV×Nat).1.toNat=i from Int.toNat_natCast i]at hne
  exact hI.VM hdone (he.get.1 (MZ hne hj hgc)),ur.pr i hi⟩
 repeat'(first|refine pg ?_|refine af ?_|refine ah ?_|(refine ak ?_;intro hl)|(refine ai ?_;intro b)|(refine aw ?_ ?_<;>intro hc<;>try first|contradiction|omega)|refine aA ?_|refine au ?_|refine qR (q:=1014) ?_|(refine BJ (fun v hv=>?_) (fun hv=>?_)<;>(rw[hbd]at hv;first|(cases hv;done)|cases hv))|(refine ae (HA 78 (.cons _ _ _ _ (Jx rfl rfl (fun x hx=>dL (pre:=[(34,_),(8,_),(34,_)]) (oS fun p hp=>by simp only[List.map_cons,List.map_nil,List.mem_cons,List.not_mem_nil,or_false]at hp;omega) hI.nd hx)) (.cons _ _ _ _ (.refl _) .nil)) (DT hBd (fun aT ps hp=>⟨aT,_,_,2,_,rfl,rfl,fun _ _=>rfl,?_⟩))))|refine pc ?_|refine pt ?_|refine pb ?_|refine bB ?_|refine bc ?_|refine bC sd hnt ?_|refine dD ?_|refine ft ?_)
 refine JT (ι:=Nat×List dz×Bool) (fun q=>[(0,.fp (MI u lf i14 i15) 0),(2,.gC 8 b8),(34,.ptr 34 i61 0),(4,.bool q.2.2),(5,.int .i64 (i:Nat)),(43,oL 78 aT 2 ps),(44,.int .i64 (ps.length:Nat)),(45,.int .i64 (q.1:Nat))]) (fun q=>(78,aT,aL 2 qw ps)::(8,some b8,.map 1 (xV u (gH l seen)))::(34,some i61,.iter i14 ck (seen2++[st]) ck)::O8 i14 i15 l ck q.2.1 mk) (fun q=>q.1<=ps.length/\Dm u l seen q.2.1/\Hy u q.2.1<=Hy u fs0/\(q.2.2=true->Hy u q.2.1+1<=Hy u fs0)) (fun q=>ps.length-q.1) (0,fs,ag) ⟨Nat.zero_le _,hI,ht,hag⟩ [] (fun p=>p) (.cons rfl (.refl _) (.cons rfl (.refl _) (.cons rfl (.refl _) (.cons rfl (.refl _) (.cons rfl (.refl _) (.cons rfl (.refl _) (.cons rfl (.refl _) (.cons rfl (.refl _) .nil)))))))) (nH (pre:=[(78,aT,aL 2 qw ps),(8,some b8,.map 1 (xV u (gH l seen))),(34,some i61,.iter i14 ck (seen2++[st]) ck)]) (dX.cons rfl (dX.cons rfl (dX.cons rfl dX.nil))) rfl rfl (fun x hx=>dL (pre:=[(78,_),(34,_),(8,_),(34,_)]) (oS fun p hp=>by simp only[List.map_cons,List.map_nil,List.mem_cons,List.not_mem_nil,or_false]at hp;omega) hI.nd hx)) ?_
 clear hBd hI ht hag
 rintro⟨k2,fs,ag⟩ ⟨hk2,hI,ht,hag⟩
 dsimp only at hk2 hI ht hag⊢
 obtain⟨x,hx,hxi⟩:=hI.all _ hm (hdone _ hm)
 have hxi2:((i:Nat):Int)=(x.i:Nat):=hxi
 have hent:dn (fs.map uJ) (i:Nat)=some (.gC (2000+x.i) x.id):=by rw[hxi2];exact oU (g:=fun y=> .gC (2000+y.i) y.id) hI.nd hx
 repeat'(first|refine pg ?_|refine af ?_|refine ah ?_|(refine ak ?_;intro hl)|(refine ai ?_;intro b)|(refine aw ?_ ?_<;>intro hc<;>try first|contradiction|omega)|refine aA ?_|refine au ?_|refine aX ?_|refine pd ?_|refine fy.mk rfl ?_|refine aI ?_|(refine dW ?_;intro id q0;first|subst q0|cases q0)|refine HB ?_|(refine HC (q:=1015) rfl (fun v hv=>?_) (fun hv=>?_)<;>(rw[hent]at hv;first|(cases hv;done)|cases hv))|(refine HD (dL (pre:=[(7,_),(7,_),(78,_),(8,_),(34,_)]) (oS fun p hp=>by simp only[List.map_cons,List.map_nil,List.mem_cons,List.not_mem_nil,or_false]at hp;omega) hI.nd hx) (fun v hv=>?_) (fun hv=>?_);(obtain rfl:=FI hv))|refine P5 (pre:=[(7,_),(7,_),(78,_),(8,_),(34,_)]) (oS fun p hp=>by simp only[List.map_cons,List.map_nil,List.mem_cons,List.not_mem_nil,or_false]at hp;omega) hI.nd hx ?_|refine AL ?_|refine pc ?_|refine pt ?_|refine pb ?_|refine bB ?_|refine bc ?_|refine bC sd hnt ?_|refine dD ?_|refine ft ?_)
 ·exact⟨(k2+1,fs,ag),by dsimp only;omega,⟨by dsimp only;omega,hI,ht,hag⟩,[],fun p=>p,(.cons rfl (.refl _) (.cons rfl (.refl _) (.cons rfl (.refl _) (.cons rfl (.refl _) (.cons rfl (.refl _) (.cons rfl (.refl _) (.cons rfl (.refl _) (.cons rfl (.refl _) .nil)))))))),nH (pre:=[(78,some id,aL 2 qw ps),(8,some b8,.map 1 (xV u (gH l seen))),(34,some i61,.iter i14 ck (seen2++[st]) ck)]) (dX.cons rfl (dX.cons rfl (dX.cons rfl dX.nil))) rfl rfl (fun x hx=>dL (pre:=[(7,_),(7,_),(78,_),(8,_),(34,_)]) (oS fun p hp=>by simp only[List.map_cons,List.map_nil,List.mem_cons,List.not_mem_nil,or_false]at hp;omega) hI.nd hx)⟩
 ·have hx2:i=x.i:=by omega
  have hmu:=P1 (hp _ (ba (show k2<ps.length by omega)))
  rw[hx2]at hmu
  have hta:=FN hI.nd hx (JD hv) hmu
  have hI3:=hI.up hx hmu
  exact⟨(k2+1,qS fs x.i ((el ps k2).sW,(el ps k2).out),true),by dsimp only;omega,⟨by dsimp only;omega,hI3,by dsimp only;omega,fun _=>by dsimp only;omega⟩,[],fun p=>p,(.cons rfl (.refl _) (.cons rfl (.refl _) (.cons rfl (.refl _) (.cons rfl (.refl _) (.cons rfl (.refl _) (.cons rfl (.refl _) (.cons rfl (.refl _) (.cons rfl (.refl _) .nil)))))))),nH (pre:=[(78,some id,aL 2 qw ps),(8,some b8,.map 1 (xV u (gH l seen))),(34,some i61,.iter i14 ck (seen2++[st]) ck)]) (dX.cons rfl (dX.cons rfl (dX.cons rfl dX.nil))) rfl (by show _=some (some i15,PB.dA ((qS fs x.i _).map uJ) mk);rw[JN];rfl) (fun x hx=>dL (pre:=[(7,_),(7,_),(78,_),(8,_),(34,_)]) (oS fun p hp=>by simp only[List.map_cons,List.map_nil,List.mem_cons,List.not_mem_nil,or_false]at hp;omega) hI3.nd hx)⟩
 ·exact⟨(seen2++[st],fs,ag),by dsimp only;omega,⟨hI,ht,hag⟩,[],fun p=>p,(.cons rfl (.refl _) (.cons rfl (.refl _) (.cons rfl (.refl _) (.cons rfl (.refl _) .nil)))),nH (pre:=[(8,some b8,.map 1 (xV u (gH l seen))),(34,some i61,.iter i14 ck (seen2++[st]) ck)]) (dX.cons rfl (dX.cons rfl dX.nil)) rfl rfl (fun x hx=>dL (pre:=[(78,_),(8,_),(34,_)]) (oS fun p hp=>by simp only[List.map_cons,List.map_nil,List.mem_cons,List.not_mem_nil,or_false]at hp;omega) hI.nd hx)⟩
def si (dr:Prop)(P:Program)(ng sf cf e:Nat){α:Type} [Inhabited α] (row:α->List PV):Prop:= ∀(p:Nat) (aT:Option Nat) (l:List α) (S:aJ) (K:PV->aJ->Prop),aC S p=some (aT,aL e row l)->(l=[]->aT=none)->l.length<=1000000000->(∀l':List α,l'.Perm l->K (.bn []) ((p,aT,aL e row l')::S))->tB dr P ng sf [oL p aT e l,.fn cf []] S K
theorem Bn {dr:Prop}{P:Program}{ng f:Nat}{args:List PV}{S:aJ}{K:PV->aJ->Prop}(w:tB dr P ng f args [] fun v _=>K v S):tB dr P ng f args S K:=⟨fun c h F av s r=>(w.run c h F av (St.nil s.cx s.gl s.fr) r).mono fun v h' ⟨p,S',F',a1,a2,a3,a4⟩=>by
 obtain⟨s1,x1⟩:=s.frame a1 a2.cx a2.fr
 exact⟨p,S,F',x1,s1,a3,a4⟩⟩
theorem DN {dr:Prop}{ng:Nat}(sd:Sd dr Tryz.prog ng X0 Mx){u:aF}{lf:List Nat->Option PV}{cf ff:Int->Option PV}{f:bU}{i:Int}{sn:Int×Int->Bool}{K:PV->aJ->Prop}(hso:si dr Tryz.prog ng 100 88 2 qw)(hff:ff i=some (.nC 2 (oT sn)))(hsp: ∀p,sn p=true->p∈Je f)(hpr:f.params<=1000000)(k: ∀l:List wF,l.length<=4000000->K (pL 2 qw l) []):tB dr Tryz.prog ng 45 [.fp (eU u lf cf ff) 0,.int .i64 i] [] K:=by
 have hnt:(25:Nat)<=1000000:=by decide
 refine ly (Bl sd Be hnt ?_)
 unfold uu
 have hul:=P2 hpr
 have hsup: ∀k:KT 2,oT sn k≠none->k∈Je f:=fun k hk=>hsp k (Classical.byContradiction fun q=>hk (by unfold oT;rw[if_neg q]))
 repeat'(first|refine pg ?_|refine af ?_|refine ah ?_|(refine ai ?_;intro b)|refine au ?_|(refine mf (fun v hv=>?_) (fun hv=>?_)<;>(rw[hff]at hv;first|(cases hv;done)|cases hv))|(refine D0 (t:=2) (Je f) hsup ?_;intro i13 n hn)|refine pc ?_|refine pt ?_|refine pb ?_|refine bB ?_|refine bc ?_|refine bC sd hnt ?_|refine dD ?_)
 refine kn (ι:=Nat×Option (Int×Int)×Option Nat×List wF) (fun q=>[(5,oL 21 q.2.2.1 2 q.2.2.2),(13,.ptr 13 i13 0)]) (fun q=>(13,some i13,.D1 2 (oT sn) q.1 q.2.1)::(21,q.2.2.1,aL 2 qw q.2.2.2)::[]) (fun q=>q.2.2.2.length+q.1<=4000000/\(q.2.2.2=[]->q.2.2.1=none)) (fun q=>q.1) (n,none,none,[]) ⟨by dsimp only;simp;omega,fun _=>rfl⟩ [] (fun p=>p) (.cons rfl (.kR 21 2) (.cons rfl (.refl _) .nil)) (b9.zs .nil (.cons rfl rfl (.refl _) (.kR .nil))) ?_
 rintro⟨m,oo,aT,l⟩ ⟨hle,hz⟩
 dsimp only at hle hz⊢
 repeat'(first|refine pg ?_|refine af ?_|refine ah ?_|(refine ai ?_;intro b)|refine au ?_|refine pc ?_|refine pt ?_|refine pb ?_|refine bB ?_|refine bc ?_|refine bC sd hnt ?_|refine dD ?_)
 refine JU (p:=13) (t:=2) sd hnt (fun hd=>?_) (fun kk v m2 hm2 hv=>?_) rfl
 ·repeat'(first|refine pg ?_|refine af ?_|refine ah ?_|(refine ai ?_;intro b)|refine au ?_|refine mg sd hnt ?_|refine pc ?_|refine pt ?_|refine pb ?_|refine bB ?_|refine bc ?_|refine bC sd hnt ?_|refine dD ?_)
  refine⟨_,rfl,hso 21 aT l _ _ rfl hz (by omega) fun l2 hp=>?_⟩
  have hl2:l2.length=l.length:=hp.length_eq
  repeat'(first|refine pg ?_|refine af ?_|refine ah ?_|(refine ai ?_;intro b)|refine au ?_|refine pc ?_|refine pt ?_|refine pb ?_|refine bB ?_|refine bc ?_|refine bC sd hnt ?_|refine dD ?_)
  exact⟨Or.inr rfl,⟨trivial,trivial⟩,_,rfl,[(21,aT,aL 2 qw l2)],fun p=>p,[],_,b9.zs (.cons rfl .nil) .nil,(show Zf _ (PV.own 21 aT l.length 2) (pL 2 qw l2)from by rw[<-hl2];exact cE),k l2 (by omega)⟩
 ·repeat'(first|refine pg ?_|refine af ?_|refine ah ?_|(refine ai ?_;intro b)|refine au ?_|(refine HE (t:=2) ?_;intro v2 hv2)|refine aI ?_|(refine bb ?_;intro b2)|(refine bV (f:=qw) ⟨kk.1,kk.2⟩ ?_;intro oid2)|refine pc ?_|refine pt ?_|refine pb ?_|refine bB ?_|refine bc ?_|refine bC sd hnt ?_|refine dD ?_)
  exact⟨(m2,some kk,oid2,l++[⟨kk.1,kk.2⟩]),by dsimp only;omega,⟨by dsimp only;rw[List.length_append,List.length_singleton];omega,fun q=>by simp at q⟩,[],fun p=>p,(.cons rfl (.refl _) (.cons rfl (.refl _) .nil)),b9.zs .nil (.cons rfl rfl (.refl _) (.cons rfl rfl (.refl _) .nil))⟩
end Go.Proofs.YtemehfgkfidgjaaGreatDoor.Ev
