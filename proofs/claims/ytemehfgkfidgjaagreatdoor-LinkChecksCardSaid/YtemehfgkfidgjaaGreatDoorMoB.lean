/- CoverStates, part 40 -/
import Derived.Test.YtemehfgkfidgjaaGreatDoorClX
import Derived.Shelf.SlSortCmp.WholeK
import Derived.Test.YtemehfgkfidgjaaGreatDoorKnA
import Derived.Test.YtemehfgkfidgjaaGreatDoorMk1
set_option linter.all false
set_option maxHeartbeats 1000000
namespace Go.Proofs.YtemehfgkfidgjaaGreatDoor.Ev
section
open Go Go.Proofs Go.RowKit Go.Sort
theorem IL {α β:Type}(f:α->β){a b:List β}(h:a.Perm b): ∀T:List α,T.map f=b-> ∃T':List α,T'.Perm T/\T'.map f=a:=by
 induction h with
 |nil=>
  intro T e
  exact⟨[],by rw[List.map_eq_nil_iff.1 e],rfl⟩
 |cons x h ih=>
  intro T e
  cases T with
  |nil=>simp at e
  |cons t T=>
   rw[List.map_cons,List.cons.injEq]at e
   obtain⟨T',h1,h2⟩:=ih T e.2
   exact⟨t::T',h1.cons t,by rw[List.map_cons,h2,e.1]⟩
 |swap x y l=>
  intro T e
  match T,e with
  |t1::t2::T,e=>
   simp only[List.map_cons,List.cons.injEq]at e
   exact⟨t2::t1::T,.swap ..,by simp[e]⟩
  |[_],e=>simp at e
  |[],e=>simp at e
 |trans h1 h2 ih1 ih2=>
  intro T e
  obtain⟨T2,p2,e2⟩:=ih2 T e
  obtain⟨T1,p1,e1⟩:=ih1 T2 e2
  exact⟨T1,p1.trans p2,e1⟩
theorem Aq {α β:Type}{f:α->List β}{e:Nat}: ∀{T:List α} {i:Nat} {t:α},(∀t∈T,(f t).length=e)->T[i]? =some t->((T.flatMap f).drop (i*e)).take e=f t
 |[],i,t,_,h=>by simp at h
 |x::T,0,t,hl,h=>by
  have hx:=hl x (by simp)
  simp only[List.getElem?_cons_zero,Option.some.injEq]at h
  subst h
  rw[List.flatMap_cons,Nat.zero_mul,List.drop_zero,List.take_append_of_le_length (by omega),List.take_of_length_le (by omega)]
 |x::T,i+1,t,hl,h=>by
  have hx:=hl x (by simp)
  rw[List.getElem?_cons_succ]at h
  rw[List.flatMap_cons,Nat.succ_mul,show i*e+e=(f x).length+i*e by omega,<-List.drop_drop,List.drop_left]
  exact Aq (fun t ht=>hl t (by simp[ht])) h
theorem yw {α β:Type}{f:α->List β}{e:Nat}: ∀{T:List α},(∀t∈T,(f t).length=e)->(T.flatMap f).length=T.length*e
 |[],_=>by simp
 |x::T,hl=>by
  rw[List.flatMap_cons,List.length_append,hl x (by simp),yw (fun t ht=>hl t (by simp[ht])),List.length_cons,Nat.succ_mul]
  omega
theorem St.again {c:C}{h:H}{F:Nat->Prop}{S:aJ}(s:St c h F S){p:Nat}{x:Option Nat×PB}(e:aC S p=some x):St c h F ((p,x)::S)/\Ext h F S h F ((p,x)::S):=by
 have key: ∀q y,aC ((p,x)::S) q=some y->aC S q=some y:=fun q y hy=>by
  rw[aH]at hy
  by_cases hne:p=q
  ·subst hne;rw[if_pos rfl]at hy;rw[e,hy]
  ·rwa [if_neg hne]at hy
 refine⟨⟨s.cx,s.gl,s.fr,fun q id b hq=>s.own q id b (key _ _ hq),fun a q id b d ha hq=>s.inj a q id b d (key _ _ ha) (key _ _ hq)⟩,⟨Nat.le_refl _,fun _ q=>q,fun _ _ _=>rfl,fun _ q=>Or.inl q,fun id ⟨q,b,h1,h2⟩=>Or.inr ⟨q,b,key _ _ h1,h2⟩⟩⟩
theorem C0 {γ:Type} [Inhabited γ] {enc:γ->List Value}{e i j:Nat}{d:Array γ}(hj:j<e)(hi:i<d.size):(flatK enc e d)[i*e+j]! =(enc d[i]!)[j]! :=by
 have h1:i*e+e<=d.size*e:=by
  have:=Nat.mul_le_mul_right e (show i+1<=d.size from hi)
  rwa [Nat.succ_mul]at this
 rw[get_flatK _ _ _ _ (by omega)]
 have a:(i*e+j)/e=i:=by
  rw[Nat.mul_comm,Nat.mul_add_div (by omega),Nat.div_eq_of_lt hj,Nat.add_zero]
 have b:(i*e+j) % e=j:=by
  rw[Nat.mul_comm,Nat.mul_add_mod,Nat.mod_eq_of_lt hj]
 rw[a,b]
theorem C1 {e n t:Nat}(he:0<e)(h:t<n*e): ∃i j,i<n/\j<e/\t=i*e+j:=
 ⟨t/e,t % e,(Nat.div_lt_iff_lt_mul he).2 h,Nat.mod_lt _ he,by rw[Nat.mul_comm];exact(Nat.div_add_mod t e).symm⟩
theorem C2 {dr:Prop}{P:Program}{ng sf cf e:Nat}{α γ:Type} [Inhabited α] [Inhabited γ] {row:α->List PV}{enc:γ->List Value}
    (hfn: ∃fn,P.funcs[sf]? =some fn/\fn.body.isNone=false/\(fn.name== "runtime.NumGoroutine")=false) (he0:0<e) (hek: ∀g,(enc g).length=e)
    (hin: ∀(x:α) (av:List AV) (cs:List Value) (β:bS) (h:H) (F:Nat->Prop),Rs h F (row x) av->bh β av cs-> ∃g,enc g=cs)
    (h0: ∀(fv:Value) (w:World),Calls P sf #[.slice none 0 0,fv] w fun e w'=>e= .returned (.tuple #[])/\w'=w)
    (h1: ∀(blk off cap:Nat) (d:Array γ) (w:World),HoldsK enc e w blk off d->blk<w.heap.size->d.size<4611686018427387904->Calls P sf #[.slice (some ⟨blk,off,none⟩) d.size cap,.func (.func cf) #[] #[]] w fun ex w'=>ex= .returned (.tuple #[])/\ ∃d' n os,d'.toList.Perm d.toList/\w'=sortWorldK enc e w blk off n d' os):si dr P ng sf cf e row:=by
 intro p aT l S K hS hz hn hk
 refine⟨fun c h F av st r=>⟨hfn,fun hw hctx β w cargs hgb hr hv hfr R hR=>?_⟩⟩
 have hv0: ∀β,VR β (.bn []) (.tuple #[]):=fun β=>by simp only[VR,bh];exact⟨_,rfl,rfl⟩
 cases r with
 |cons _ _ _ _ r1 r=>
 cases r with
 |cons _ _ _ _ r2 r=>
 cases r
 cases r2 with
 |fn _ _ _ r3=>
 cases r3
 unfold oL at r1
 by_cases hl:l=[]
 ·have:=hz hl
  subst this
  have hS0:=hS
  rw[hl,List.length_nil]at r1
  cases r1 with
  |hY=>
   simp only[bh,VR]at hv
   obtain⟨_,_,rfl,rfl,_,_,rfl,⟨cs,rfl,_⟩,rfl⟩:=hv
   refine(h0 _ w).mono ?_
   rintro e' w' ⟨rfl,rfl⟩
   obtain⟨s1,x1⟩:=st.again hS
   exact hR (.bn []) h β _ _ ⟨_,_,F,x1,s1,.bn _ _ .nil,hk l (.refl _)⟩ (Step.refl hw) (ca.refl hr) (hv0 _)
 ·have hl0:0<l.length:=List.length_pos_iff.2 hl
  generalize hnn:l.length=n at r1
  cases r1 with
  |hY=>omega
  |own _ id _ _ cap hb=>
   subst hnn
   obtain⟨g1,g2,g3,ab,g4,g5⟩:=st.at_ hS (fun q=>by cases q)
   cases g5 with
   |arr _ _ _ av q1 q2 q3=>
   have hgB:cr c h id=some (.cells av):=by rw[bW g2,g4]
   simp only[bh,VR]at hv
   obtain⟨_,_,rfl,⟨L,o,cp,hL,rfl,hle,hsz,ho,hcap⟩,_,_,rfl,⟨cs,rfl,hcs⟩,rfl⟩:=hv
   have hcs0:cs= #[]:=Array.ext' hcs
   subst hcs0
   obtain⟨L',p1,p2,cur,t,p3,p4,p5⟩:=hr.at_ id _ (cG hgB)
   rw[hL]at p1;cases p1
   have ho':o=L.base:=by rcases ho with rfl|⟨z,_⟩<;>omega
   subst ho'
   have hfit:=p4.fit
   have hsize:=p4.le
   have hrowl: ∀i,i<l.length->i*e+e<=l.length*e:=fun i hi=>by
    have:=Nat.mul_le_mul_right e (show i+1<=l.length from hi)
    rwa [Nat.succ_mul]at this
   have hval: ∀i,i<l.length-> ∃g:γ,bh β ((av.drop (i*e)).take e) (enc g)/\ ∀j,j<e->cur[L.base+(i*e+j)]? =(enc g)[j]? :=fun i hi=>by
    have h2:=hrowl i hi
    have hlc:((cur.toList.drop (L.base+i*e)).take e).length=e:=by
     rw[List.length_take,List.length_drop,Array.length_toList];omega
    have hla:((av.drop (i*e)).take e).length=e:=by
     rw[List.length_take,List.length_drop];omega
    have hvs:bh β ((av.drop (i*e)).take e) ((cur.toList.drop (L.base+i*e)).take e):=by
     refine bh.of (hla.trans hlc.symm) fun k v cc hk1 hk2=>?_
     have hke:k<e:=by have:=(List.getElem?_eq_some_iff.1 hk1).1;omega
     rw[List.getElem?_take_of_lt hke,List.getElem?_drop]at hk1 hk2
     obtain⟨c',c1,c2⟩:=p5 _ _ hk1
     rw[Array.getElem?_toList]at hk2
     rw[show L.base+(i*e+k)=L.base+i*e+k by omega,hk2]at c1
     cases c1
     exact c2
    obtain⟨g,hg⟩:=hin (el l i) _ _ β h F (q3 i hi) hvs
    refine⟨g,by rw[hg];exact hvs,fun j hj=>?_⟩
    rw[hg,List.getElem?_take_of_lt hj,List.getElem?_drop,Array.getElem?_toList,Nat.add_assoc]
   have hgf: ∃gf:Nat->γ,∀i,i<l.length->bh β ((av.drop (i*e)).take e) (enc (gf i))/\ ∀j,j<e->cur[L.base+(i*e+j)]? =(enc (gf i))[j]? :=
    ⟨fun i=>if hi:i<l.length then(hval i hi).choose else default,fun i hi=>by
     simp only[dif_pos hi]
     exact(hval i hi).choose_spec⟩
   obtain⟨gf,hgf⟩:=hgf
   generalize hT:((List.range l.length).map fun i=>(el l i,(av.drop (i*e)).take e,gf i))=T
   have hTm: ∀t∈T,Rs h F (row t.1) t.2.1/\t.2.1.length=e/\bh β t.2.1 (enc t.2.2):=fun t ht=>by
    rw[<-hT]at ht
    obtain⟨i,hi,rfl⟩:=List.mem_map.1 ht
    have hi:=List.mem_range.1 hi
    have h2:=hrowl i hi
    exact⟨q3 i hi,by show((av.drop (i*e)).take e).length=e;rw[List.length_take,List.length_drop];omega,(hgf i hi).1⟩
   have hTl:T.map (·.1)=l:=by
    rw[<-hT,List.map_map]
    apply List.ext_getElem?
    intro i
    by_cases hi:i<l.length
    ·simp[hi,el]
    ·rw[List.getElem?_eq_none (by simpa using hi),List.getElem?_eq_none (by simpa using hi)]
   have hTn:T.length=l.length:=by rw[<-hTl,List.length_map]
   have hTg: ∀i,i<l.length->((T.map (·.2.2)).toArray)[i]! =gf i:=fun i hi=>by
    rw[getElem!_pos _ i (by simpa[hTn]using hi)]
    simp[<-hT]
   have hds:(T.map (·.2.2)).toArray.size=l.length:=by simp[hTn]
   have hH:HoldsK enc e w L.blk L.base (T.map (·.2.2)).toArray:=by
    intro t ht
    rw[size_flatK,hds]at ht
    obtain⟨i,j,hi,hj,rfl⟩:=C1 he0 ht
    refine⟨?_,?_⟩
    ·have hlt:j<(enc (gf i)).length:=by rw[hek];exact hj
     rw[CY p3,C0 hj (by rw[hds];exact hi),hTg i hi,(hgf i hi).2 j hj,List.getElem?_eq_getElem hlt,getElem!_pos _ j hlt]
     rfl
    ·have h2:=p4.nf (L.base+(i*e+j)) (by omega) (by omega)
     simp only[World.frozen?,p3]
     exact h2
   have hcall:=h1 L.blk L.base cp (T.map (·.2.2)).toArray w hH p2 (by rw[hds];omega)
   rw[hds]at hcall
   refine hcall.mono ?_
   rintro e' w' ⟨rfl,d',m,os,hp,rfl⟩
   obtain⟨T',hTp,hTd⟩:=IL (fun t:α×List AV×γ=>t.2.2) (b:=T.map (·.2.2)) (by simpa using hp) T rfl
   have hTm': ∀t∈T',Rs h F (row t.1) t.2.1/\t.2.1.length=e/\bh β t.2.1 (enc t.2.2):=fun t ht=>hTm t (hTp.mem_iff.1 ht)
   have hTn':T'.length=l.length:=hTp.length_eq.trans hTn
   have hlen': ∀t∈T',((fun t:α×List AV×γ=>t.2.1) t).length=e:=fun t ht=>(hTm' t ht).2.1
   have hfl:=yw hlen'
   rw[hTn']at hfl
   have hd's:d'.size=l.length:=by rw[<-Array.length_toList,<-hTd,List.length_map,hTn']
   have hd'g: ∀(i:Nat) (t:α×List AV×γ),T'[i]? =some t->d'[i]! =t.2.2:=fun i t ht=>by
    have hi:i<d'.size:=by have:=(List.getElem?_eq_some_iff.1 ht).1;omega
    have h3:d'.toList[i]? =some t.2.2:=by rw[<-hTd,List.getElem?_map,ht];rfl
    rw[getElem!_pos _ i hi]
    rw[Array.getElem?_toList,Array.getElem?_eq_getElem hi]at h3
    exact Option.some.inj h3
   have hrb:RB h F (aL e row (T'.map (fun t:α×List AV×γ=>t.1))) (.cells (T'.flatMap (fun t:α×List AV×γ=>t.2.1)++av.drop (l.length*e))):=by
    unfold aL
    rw[List.length_map,hTn']
    refine .arr _ _ _ _ (by rw[List.length_append,hfl];omega) (fun i hi=>?_) fun i hi=>?_
    ·have ht:T'[i]? =some (T'[i]'(by omega)):=List.getElem?_eq_getElem (by omega)
     have hm:=hTm' _ (List.getElem_mem (show i<T'.length by omega))
     rw[show el (T'.map (fun t:α×List AV×γ=>t.1)) i=(T'[i]'(by omega)).1 by simp[el,show i<T'.length by omega],<-hm.2.1]
     exact hm.1.len.symm
    ·have ht:T'[i]? =some (T'[i]'(by omega)):=List.getElem?_eq_getElem (by omega)
     have hm:=hTm' _ (List.getElem_mem (show i<T'.length by omega))
     have h2:=hrowl i hi
     rw[show el (T'.map (fun t:α×List AV×γ=>t.1)) i=(T'[i]'(by omega)).1 by simp[el,show i<T'.length by omega],List.drop_append_of_le_length (by omega),List.take_append_of_le_length (by rw[List.length_drop];omega),Aq hlen' ht]
     exact hm.1
   obtain⟨s1,x1⟩:=st.put hS (fun q=>by cases q) hrb
   have hperm:(T'.map (fun t:α×List AV×γ=>t.1)).Perm l:=by rw[<-hTl];exact hTp.map (fun t:α×List AV×γ=>t.1)
   refine hR (.bn []) (h.put id (.cells (T'.flatMap (fun t:α×List AV×γ=>t.2.1)++av.drop (l.length*e)))) β (.tuple #[]) _ ⟨_,_,F,x1,s1,.bn _ _ .nil,hk _ hperm⟩ (eJ hw g4 g1 g2) ?_ (hv0 _)
   unfold sortWorldK putRowK
   obtain⟨w',ew,s1,s2,s3,s4,hheap⟩:=yv _root_.id w m L.blk L.base (flatK enc e d') os
   rw[ew]
   have hoth: ∀B,B<w.heap.size->B≠L.blk->w'.heap[B]? =w.heap[B]? :=fun B hB hne=>by
    rw[hheap B hB,Array.getElem?_modify,if_neg (Ne.symm hne)]
   have hown:w'.heap[L.blk]? =some (.cells (putCells _root_.id L.base (flatK enc e d') cur) t.1 t.2):=by
    rw[hheap _ p2,Array.getElem?_modify,if_pos rfl,p3];rfl
   refine sN (b:= .cells (T'.flatMap (fun t:α×List AV×γ=>t.2.1)++av.drop (l.length*e))) hr (cG hgB) hL g1 hoth s1 s2 s3 s4 ⟨_,t,hown,⟨?_,?_,p4.nf⟩,fun i v hi=>?_⟩ fun j d ej=>fM (Nat.lt_succ_self _) ej
   ·simpa[putCells]using hsize
   ·rw[List.length_append,hfl,List.length_drop];omega
   ·simp only[putCells,Array.getElem?_mapIdx]
    rcases Nat.lt_or_ge i (l.length*e)with hin2|hin2
    ·obtain⟨i,j,hil,hj,rfl⟩:=C1 he0 hin2
     have h2:=hrowl i hil
     rw[List.getElem?_append_left (by rw[hfl];exact hin2)]at hi
     have ht:T'[i]? =some (T'[i]'(by omega)):=List.getElem?_eq_getElem (by omega)
     have hm:=hTm' _ (List.getElem_mem (show i<T'.length by omega))
     have hfa:=Aq hlen' ht
     have hvj:((T'[i]'(by omega)).2.1)[j]? =some v:=by
      rw[<-hfa,List.getElem?_take_of_lt hj,List.getElem?_drop];exact hi
     obtain⟨cc,c1,c2⟩:=hm.2.2.get hvj
     have hcur:L.base+(i*e+j)<cur.size:=by omega
     rw[Array.getElem?_eq_getElem hcur,Option.map_some,if_pos ⟨by omega,by rw[size_flatK,hd's];omega⟩]
     refine⟨_,rfl,?_⟩
     have e1:L.base+(i*e+j)-L.base=i*e+j:=by omega
     rw[e1,C0 hj (by rw[hd's];exact hil),hd'g i _ ht]
     obtain⟨hlt,hce⟩:=List.getElem?_eq_some_iff.1 c1
     rw[getElem!_pos _ j hlt,hce]
     exact c2
    ·rw[List.getElem?_append_right (by rw[hfl];exact hin2),hfl,List.getElem?_drop,show l.length*e+(i-l.length*e)=i by omega]at hi
     obtain⟨c',c1,c2⟩:=p5 i v hi
     refine⟨c',?_,c2⟩
     rw[c1,Option.map_some,if_neg (by rw[size_flatK,hd's];omega)]
end
section
open Go Go.RowKit Go.Proofs Go.Sort Go.Shelf
/-! the order of texts -/
theorem vY: ∀{a b:List Nat},gR a b<0↔a<b
 |[],[]=>by simp[gR]
 |[],_::_=>by simp[gR]
 |_::_,[]=>by simp[gR]
 |x::a,y::b=>by
  have ih:=vY (a:=a) (b:=b)
  rw[List.cons_lt_cons_iff]
  unfold gR
  cases h:Nat.beq x y with
  |true=>
   have e:=Nat.eq_of_beq_eq_true h
   subst e
   rw[cond_true,ih]
   exact⟨fun q=>Or.inr ⟨rfl,q⟩,fun q=>q.elim (fun q=>absurd q (Nat.lt_irrefl _)) fun q=>q.2⟩
  |false=>
   have hne:x≠y:=fun e=>by rw[e]at h;simp at h
   rw[cond_false]
   cases h2:Nat.blt x y with
   |true=>
    rw[Nat.blt_eq]at h2
    rw[cond_true]
    exact⟨fun _=>Or.inl h2,fun _=>by decide⟩
   |false=>
    have: ¬x<y:=fun q=>by rw[<-Nat.blt_eq,h2]at q;cases q
    rw[cond_false]
    exact⟨fun q=>absurd q (by decide),fun q=>q.elim (fun q=>absurd q this) fun q=>absurd q.1 hne⟩
theorem Gk (a b:List Nat):a<b\/a=b\/b<a:=by
 by_cases h:a<b
 ·exact Or.inl h
 ·by_cases h2:b<a
  ·exact Or.inr (Or.inr h2)
  ·exact Or.inr (Or.inl (List.le_antisymm h2 h))
def Ar (a1 a2 b1 b2:List Nat):Prop:=a1<b1\/(a1=b1/\a2<b2)
theorem E5 {a1 a2 b1 b2:List Nat}:kj a1 a2 b1 b2<0↔Ar a1 a2 b1 b2:=by
 unfold kj Ar
 by_cases h:a1=b1
 ·rw[if_pos (oI.2 h),vY]
  subst h
  exact⟨fun q=>Or.inr ⟨rfl,q⟩,fun q=>q.elim (fun q=>absurd q (List.lt_irrefl _)) fun q=>q.2⟩
 ·rw[if_neg (fun q=>h (oI.1 q)),vY]
  exact⟨Or.inl,fun q=>q.elim (fun q=>q) fun q=>absurd q.1 h⟩
theorem LH (a b:List Nat): ¬Ar a b a b:=fun q=>q.elim (List.lt_irrefl _) fun q=>List.lt_irrefl _ q.2
theorem Gl {a1 a2 b1 b2 c1 c2:List Nat}(h:Ar a1 a2 b1 b2)(k:Ar b1 b2 c1 c2):Ar a1 a2 c1 c2:=by
 rcases h with h|⟨rfl,h⟩<;>rcases k with k|⟨rfl,k⟩
 ·exact Or.inl (List.lt_trans h k)
 ·exact Or.inl h
 ·exact Or.inl k
 ·exact Or.inr ⟨rfl,List.lt_trans h k⟩
theorem LI (a1 a2 b1 b2:List Nat):Ar a1 a2 b1 b2\/(a1=b1/\a2=b2)\/Ar b1 b2 a1 a2:=by
 rcases Gk a1 b1 with h|rfl|h
 ·exact Or.inl (Or.inl h)
 ·rcases Gk a2 b2 with k|rfl|k
  ·exact Or.inl (Or.inr ⟨rfl,k⟩)
  ·exact Or.inr (Or.inl ⟨rfl,rfl⟩)
  ·exact Or.inr (Or.inr (Or.inr ⟨rfl,k⟩))
 ·exact Or.inr (Or.inr (Or.inl h))
theorem LJ {α:Type}{cf:α->α->Int}{L:α->α->Prop}(h: ∀x y,cf x y<0↔L x y)(irr: ∀x,¬L x x)(tr: ∀x y z,L x y->L y z->L x z)(ntr: ∀x y z,¬L x y-> ¬L y z-> ¬L x z):SWO (ltOf cf):=by
 have e: ∀x y,ltOf cf x y=true↔L x y:=fun x y=>by unfold ltOf;rw[decide_eq_true_eq,h]
 have f: ∀x y,ltOf cf x y=false↔ ¬L x y:=fun x y=>by rw[<-e,Bool.not_eq_true]
 exact⟨fun x=>(f x x).2 (irr x),fun x y z h1 h2=>(e x z).2 (tr x y z ((e x y).1 h1) ((e y z).1 h2)),fun x y z h1 h2=>(f x z).2 (ntr x y z ((f x y).1 h1) ((f y z).1 h2))⟩
theorem Tp:SWO (ltOf ua):=by
 refine LJ (L:=yS) (fun x y=>ub) (fun x=>?_) (fun x y z=>?_) fun x y z=>?_
 all_goals(unfold yS;omega)
structure E8 where
 k1:ByteArray
 k2:ByteArray
 r:List Value
 hl:r.length=6
 h1: ∀v∈r,v.oneCell'=true
instance:Inhabited E8:=⟨⟨⟨#[]⟩,⟨#[]⟩,List.replicate 6 (.bool false),by simp,fun v hv=>by rw[(List.mem_replicate.1 hv).2];rfl⟩⟩
def qy (b:ByteArray):List Nat:=b.data.toList.map UInt8.toNat
def C3 (x:E8):List Value:= .string x.k1:: .string x.k2::x.r
noncomputable def U6 (x y:E8):Int:=kj (qy x.k1) (qy x.k2) (qy y.k1) (qy y.k2)
theorem U7:SWO (ltOf U6):=by
 refine LJ (L:=fun x y=>Ar (qy x.k1) (qy x.k2) (qy y.k1) (qy y.k2)) (fun x y=>E5) (fun x=>LH _ _) (fun x y z=>Gl) fun x y z h k q=>?_
 rcases LI (qy x.k1) (qy x.k2) (qy y.k1) (qy y.k2)with a|a|a
 ·exact h a
 ·rw[a.1,a.2]at q
  exact k q
 ·exact k (Gl a q)
def IM (x:wF):List Value:=[.int .i64 x.sW,.int .i64 x.out]
/-! in every world -/
theorem yQ {P:Program}{X:cj}{M:Mf}{c:C}{f:Nat}{args:List AV}{h:H}{v:AV}{h':H}{x:XF}(hx:bJ P X f=some (.fn x))(hno: ∀av c h,M f av c h=none)(hg:Gm P X M c (.fn f) args h v h'):Gm P X M c (.Jc f) args h v h':=by
 obtain⟨N,hN⟩:=hg
 refine⟨N+1,fun n hn=>?_⟩
 cases n with
 |zero=>omega
 |succ n=>
  have h1:=hN (n+1) (by omega)
  have h2:(match M f args c h with|some r=>lh.call r.1 r.2|none=>jk (ev (cC P) (bJ P X) M n) c args h (bJ P X f))= .call v h':=h1
  rw[hno]at h2
  show(match bJ P X f with|some (.fn x)=>jk (ev (cC P) (bJ P X) M n) c args h (some (.fn x))|_=> .bad)=_
  rw[hx]at h2⊢
  exact h2
abbrev Uh:Gb:=⟨fun _=>none⟩
theorem LK {f:Nat}{x:XF}(hx:bJ Tryz.prog X0 f=some (.fn x))(hno: ∀av c h,Mx f av c h=none){args:List PV}{n:Int}(w0: @PF Uh Tryz.prog X0 Mx f args fun v=>v= .int .i64 n){av:List AV}{cs:List Value}(ha: ∀h F,Rs h F args av)(hv: ∀β,bh β av cs)(w:World):
    Calls Tryz.prog f cs.toArray w fun e w'=>e= .returned (.int .i64 n)/\Below w.heap.size w w'/\w.drawn<=w'.drawn:=by
 let h0:H:=⟨.nil,Tryz.prog.globals.size⟩
 have hn0:h0.n= Tryz.prog.globals.size:=rfl
 have hget: ∀id,Tr.get h0.t id=none:=fun id=>Tr.get_nil id
 obtain⟨v,h',hg,p,S',F',_,_,hr,e⟩:=w0 (top h0.n) h0 (fun _=>False) av (@St.nil Uh _ _ _ ⟨Nat.le_refl _,fun id _=>eg (Nat.zero_le _)⟩ (fun g row q=>by cases q) (fun id q=>q.elim)) (ha _ _)
 subst e
 cases hr
 have hg2:=yQ hx hno hg
 refine(LF (dr:=True) mixed fw AO Fs hg2 ⟨fun id _=>hget id,Nat.le_refl _⟩ (β:=fun id=>if id< Tryz.prog.globals.size then some ⟨id,0,0,dv⟩else none) (fun g hgl=>⟨0,if_pos hgl⟩) ⟨fun id b q=>?_,fun i j b d L M q _ _ _ _=>?_⟩ (fun id hid=>if_neg (by omega)) (hv _)).mono fun e w' ⟨β',val,h1,h2,_,h4,h5⟩=>?_
 ·have:=(dg q).1
  rw[hget]at this
  cases this
 ·have:=(dg q).1
  rw[hget]at this
  cases this
 ·simp only[VR]at h2
  subst h2
  exact⟨h1,h4,h5 trivial⟩
theorem IP (x y:wF)(w:World):Calls Tryz.prog 88 #[.agg (IM x).toArray,.agg (IM y).toArray] w fun e w'=>e= .returned (.int .i64 (ua x y))/\Below w.heap.size w w'/\w.drawn<=w'.drawn:=
 LK iE (bg _) (@iD Uh x y _ rfl) (av:=[.agg [.int .i64 x.sW,.int .i64 x.out],.agg [.int .i64 y.sW,.int .i64 y.out]])
  (fun h F=> .cons _ _ _ _ (.agg _ _ (.cons _ _ _ _ (.int _ _) (.cons _ _ _ _ (.int _ _) .nil))) (.cons _ _ _ _ (.agg _ _ (.cons _ _ _ _ (.int _ _) (.cons _ _ _ _ (.int _ _) .nil))) .nil))
  (fun β=>by
   simp only[bh,VR]
   exact⟨_,_,rfl,⟨_,rfl,_,_,rfl,rfl,_,_,rfl,rfl,rfl⟩,_,_,rfl,⟨_,rfl,_,_,rfl,rfl,_,_,rfl,rfl,rfl⟩,rfl⟩) w
theorem LL (a1 a2 b1 b2:ByteArray)(w:World):Calls Tryz.prog 34 #[.agg #[.string a1,.string a2],.agg #[.string b1,.string b2]] w fun e w'=>e= .returned (.int .i64 (kj (qy a1) (qy a2) (qy b1) (qy b2)))/\Below w.heap.size w w'/\w.drawn<=w'.drawn:=
 LK ji (bg _) (@jh Uh (qy a1) (qy a2) (qy b1) (qy b2) _ rfl) (av:=[.agg [.str (qy a1),.str (qy a2)],.agg [.str (qy b1),.str (qy b2)]])
  (fun h F=> .cons _ _ _ _ (.agg _ _ (.cons _ _ _ _ (.str _) (.cons _ _ _ _ (.str _) .nil))) (.cons _ _ _ _ (.agg _ _ (.cons _ _ _ _ (.str _) (.cons _ _ _ _ (.str _) .nil))) .nil))
  (fun β=>by
   simp only[bh,VR]
   exact⟨_,_,rfl,⟨_,rfl,_,_,rfl,⟨_,rfl,rfl⟩,_,_,rfl,⟨_,rfl,rfl⟩,rfl⟩,_,_,rfl,⟨_,rfl,_,_,rfl,⟨_,rfl,rfl⟩,_,_,rfl,⟨_,rfl,rfl⟩,rfl⟩,rfl⟩) w
theorem LM (x y:E8)(w:World):Calls Tryz.prog 47 #[.agg (C3 x).toArray,.agg (C3 y).toArray] w fun e w'=>e= .returned (.int .i64 (U6 x y))/\Below w.heap.size w w'/\w.drawn<=w'.drawn:=by
 obtain⟨x1,x2,xr,xl,_⟩:=x
 obtain⟨y1,y2,yr,yl,_⟩:=y
 match xr,xl,yr,yl with
 |[a2,a3,a4,a5,a6,a7],_,[b2,b3,b4,b5,b6,b7],_=>exact Oa (n:=kj (qy x1) (qy x2) (qy y1) (qy y2)) fun w' _=>LL x1 x2 y1 y2 w'
theorem Gn {w w':World}(hb:Below w.heap.size w w')(hd:w.drawn<=w'.drawn): ∃q os,w'=grow (w.drewN q) os:=by
 refine⟨w'.drawn-w.drawn,w'.heap.extract w.heap.size w'.heap.size,?_⟩
 obtain⟨h1,h2,h3,h4,h5⟩:=hb
 have e1:w'.heap=w.heap++w'.heap.extract w.heap.size w'.heap.size:=by
  apply Array.ext_getElem?
  intro i
  rw[Array.getElem?_append]
  split
  ·rename_i hi
   exact h5 i hi
  ·rename_i hi
   rw[Array.getElem?_extract]
   by_cases q:i<w'.heap.size
   ·rw[if_pos (by omega),show w.heap.size+(i-w.heap.size)=i by omega]
   ·rw[if_neg (by omega),Array.getElem?_eq_none (by omega)]
 have e2:w'.drawn=w.drawn+(w'.drawn-w.drawn):=by omega
 cases w'
 cases w
 simp only[grow,World.drewN]at*
 subst h1 h2 h3
 rw[World.mk.injEq]
 exact⟨e1,rfl,e2,rfl,rfl⟩
theorem ka {h:H}{F:Nat->Prop}{p:PV}{v:AV}{β:bS}{c:Value}(hp:(match p with| .str _=>True| .bool _=>True| .tr .. =>True|_=>False))(q:R h F p v)(hv:VR β v c):c.oneCell'=true:=by
 cases p with
 |str s=>cases q;simp only[VR]at hv;obtain⟨_,rfl,_⟩:=hv;rfl
 |bool b=>cases q;simp only[VR]at hv;subst hv;rfl
 |tr e n f=>
  cases q with
  |tX _ _ _ q0=>
   rcases q0 with rfl|⟨oa,cp,rfl⟩|q0
   ·simp only[VR]at hv;subst hv;rfl
   ·simp only[VR]at hv;subst hv;rfl
   ·obtain⟨_,_,_,_,rfl,_⟩:=q0
    simp only[VR]at hv;obtain⟨_,_,_,_,rfl,_⟩:=hv;rfl
  |tr=>simp only[VR]at hv;obtain⟨_,_,_,_,rfl,_⟩:=hv;rfl
 |_=>exact hp.elim
theorem LN {x:wF}{av:List AV}{cs:List Value}{β:bS}{h:H}{F:Nat->Prop}(r:Rs h F (qw x) av)(v:bh β av cs): ∃g,IM g=cs:=by
 cases r with
 |cons _ _ _ _ q0 r=>
 cases r with
 |cons _ _ _ _ q1 r=>
 cases r
 cases q0
 cases q1
 simp only[bh,VR]at v
 obtain⟨_,_,rfl,rfl,_,_,rfl,rfl,rfl⟩:=v
 exact⟨x,rfl⟩
theorem Ob {x:cU}{av:List AV}{cs:List Value}{β:bS}{h:H}{F:Nat->Prop}(r:Rs h F (gG x) av)(v:bh β av cs): ∃g,C3 g=cs:=by
 cases r with
 |cons _ _ _ _ q0 r=>
 cases r with
 |cons _ _ _ _ q1 r=>
 cases r with
 |cons _ _ _ _ q2 r=>
 cases r with
 |cons _ _ _ _ q3 r=>
 cases r with
 |cons _ _ _ _ q4 r=>
 cases r with
 |cons _ _ _ _ q5 r=>
 cases r with
 |cons _ _ _ _ q6 r=>
 cases r with
 |cons _ _ _ _ q7 r=>
 cases r
 cases q0
 cases q1
 simp only[bh]at v
 obtain⟨c0,_,rfl,v0,c1,_,rfl,v1,c2,_,rfl,v2,c3,_,rfl,v3,c4,_,rfl,v4,c5,_,rfl,v5,c6,_,rfl,v6,c7,_,rfl,v7,rfl⟩:=v
 simp only[VR]at v0 v1
 obtain⟨b0,rfl,_⟩:=v0
 obtain⟨b1,rfl,_⟩:=v1
 refine⟨⟨b0,b1,[c2,c3,c4,c5,c6,c7],rfl,fun v hv=>?_⟩,rfl⟩
 simp only[List.mem_cons,List.not_mem_nil,or_false]at hv
 rcases hv with rfl|rfl|rfl|rfl|rfl|rfl
 ·exact ka trivial q2 v2
 ·exact ka trivial q3 v3
 ·exact ka trivial q4 v4
 ·exact ka trivial q5 v5
 ·exact ka trivial q6 v6
 ·exact ka trivial q7 v7
theorem Gp {α:Type} [Inhabited α] {d d':Array α}(h:PermIn 0 d.size d d'):d'.toList.Perm d.toList:=by
 have e1:d'.extract 0 d.size=d':=by rw[<-h.1];exact Array.extract_size
 have e2:d.extract 0 d.size=d:=Array.extract_size
 have:=h.2.2
 rwa [e1,e2]at this
theorem tZ {dr:Prop}{ng:Nat}:si dr Tryz.prog ng 100 88 2 qw:=
 C2 (γ:=wF) (enc:=IM) ⟨_,Tryz.func100,by kernel_rfl,by kernel_rfl⟩ (by decide) (fun _=>rfl) (fun x av cs β h F r v=>LN r v)
  (fun fv w=>AnyF.slices_SortFunc_none Tryz.laysFP none 0 fv w)
  fun blk off cap d w hH hb hs=>(AnyQ.slices_SortFunc Tryz.laysFP 2 Tryz.isAgg68 Tryz.sizeOf68 IM (fun _=>rfl) (fun x v hv=>by
   simp only[IM,List.mem_cons,List.not_mem_nil,or_false]at hv
   rcases hv with rfl|rfl<;>rfl) ua Tp 88 #[] blk off cap d w (Go.Proofs.enters_of Tryz.func88 (by decide) rfl) (fun m os dk _ x y=>(IP x y _).mono fun e w' ⟨h1,h2,h3⟩=>⟨h1,Gn h2 h3⟩) hH hb hs).mono fun e w' ⟨he,d',n,os,hp,_,hw⟩=>⟨he,d',n,os,Gp hp,hw⟩
theorem xI {dr:Prop}{ng:Nat}:si dr Tryz.prog ng 46 47 8 gG:=
 C2 (γ:=E8) (enc:=C3) ⟨_,Tryz.func46,by kernel_rfl,by kernel_rfl⟩ (by decide) (fun g=>by simp[C3,g.hl]) (fun x av cs β h F r v=>Ob r v)
  (fun fv w=>AnyF.slices_SortFunc_none Tryz.laysFE none 0 fv w)
  fun blk off cap d w hH hb hs=>(AnyQ.slices_SortFunc Tryz.laysFE 8 Tryz.isAgg52 Tryz.sizeOf52 C3 (fun g=>by simp[C3,g.hl]) (fun x v hv=>by
   simp only[C3,List.mem_cons]at hv
   rcases hv with rfl|rfl|hv
   ·rfl
   ·rfl
   ·exact x.h1 v hv) U6 U7 47 #[] blk off cap d w (Go.Proofs.enters_of Tryz.func47 (by decide) rfl) (fun m os dk _ x y=>(LM x y _).mono fun e w' ⟨h1,h2,h3⟩=>⟨h1,Gn h2 h3⟩) hH hb hs).mono fun e w' ⟨he,d',n,os,hp,_,hw⟩=>⟨he,d',n,os,Gp hp,hw⟩
end
end Go.Proofs.YtemehfgkfidgjaaGreatDoor.Ev
