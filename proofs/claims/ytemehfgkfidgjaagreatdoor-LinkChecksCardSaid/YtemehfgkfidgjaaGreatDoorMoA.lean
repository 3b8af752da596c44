/- CoverStates, part 36 -/
import Derived.Test.YtemehfgkfidgjaaGreatDoorNdS
import Derived.Sort.Grow
set_option linter.all false
set_option maxHeartbeats 400000
namespace Go.Proofs.YtemehfgkfidgjaaGreatDoor.Ev
open Go Go.Proofs Go.RowKit
theorem HR.grow {f:Nat}{β:bS}{g:View}{w w':World}(h:HR f β g w)(hb:Below w.heap.size w w'):HR f β g w':=
 ⟨fun id b e=>by
  obtain⟨L,a,l,br⟩:=h.at_ id b e
  exact⟨L,a,Nat.lt_of_lt_of_le l hb.size,br.mono (Sub.refl _) (hb.block _ l)⟩,h.inj⟩
theorem sN {dr:Prop}{f n id:Nat}{β:bS}{g g':View}{w w':World}{b0 b:AB}{L:Loc}(h:HR f β g w)(h0:g id=some b0)(hL:β id=some L)(hf:f<=id)
    (hw: ∀B,B<w.heap.size->B≠L.blk->w'.heap[B]? =w.heap[B]?) (hs:w.heap.size<=w'.heap.size) (hos:w'.os=w.os) (htp:w'.tape=w.tape/\w.drawn<=w'.drawn) (hout:w'.output=w.output)
    (hb:BR β L w' b) (hg: ∀j d,g' j=some d->(j=id/\d=b)\/(j≠id/\g j=some d)):
    ca dr f n n β g w β g' w':=by
 obtain⟨L',hL',hlt,_⟩:=h.at_ id b0 h0
 rw[hL]at hL';cases hL'
 refine⟨Nat.le_refl _,Sub.refl _,fun i M h1 h2=>by(rw[h2]at h1;cases h1),⟨fun j d e=>?_,fun i j d e M N h1 h2 h3 h4 h5=>?_⟩,hos,⟨htp.1,fun _=>htp.2⟩,hout,hs,fun B hB hh=>hw B hB fun e=>hh id b0 L hf h0 hL e.symm,fun i M h1 h2=>by(rw[h2]at h1;cases h1),fun j d e=>?_⟩
 ·rcases hg j d e with⟨rfl,rfl⟩|⟨x,e⟩
  ·exact⟨L,hL,by omega,hb⟩
  ·obtain⟨M,h1,h2,h3⟩:=h.at_ j d e
   refine⟨M,h1,by omega,h3.mono (Sub.refl _) (hw _ h2 fun e2=>x ((h.inj j id d b0 M L e h0 h1 hL e2).elim (fun q=>q) fun q=>by omega))⟩
 ·have lft: ∀i d,g' i=some d-> ∃d',g i=some d':=fun i d e=>by
    rcases hg i d e with⟨rfl,rfl⟩|⟨_,e⟩
    ·exact⟨b0,h0⟩
    ·exact⟨d,e⟩
  obtain⟨d',e1⟩:=lft i d h1
  obtain⟨e',e2⟩:=lft j e h2
  exact h.inj i j d' e' M N e1 e2 h3 h4 h5
 ·rcases hg j d e with⟨rfl,rfl⟩|⟨_,e⟩
  ·exact Or.inl ⟨b0,h0⟩
  ·exact Or.inl ⟨d,e⟩
theorem yv {α:Type} [Inhabited α] (enc:α->Value)(w:World)(k blk off:Nat)(d:Array α)(os:Array Obj): ∃w',Go.Sort.grow (Go.Sort.putRow enc (Go.Sort.ahead w k) blk off d) os=w'/\w.heap.size<=w'.heap.size/\w'.os=w.os/\(w'.tape=w.tape/\w.drawn<=w'.drawn)/\w'.output=w.output/\ ∀B,B<w.heap.size->w'.heap[B]? =(w.heap.modify blk (Go.Sort.onCells (Go.Sort.putCells enc off d)))[B]? :=by
 refine⟨_,rfl,?_,rfl,⟨rfl,Nat.le_add_right _ _⟩,rfl,fun B hB=>?_⟩
 ·unfold Go.Sort.grow Go.Sort.putRow Go.Sort.mapBlock Go.Sort.ahead
  rw[Array.size_append,Array.size_modify]
  exact Nat.le_add_right _ _
 ·unfold Go.Sort.grow Go.Sort.putRow Go.Sort.mapBlock Go.Sort.ahead
  rw[Array.getElem?_append_left (by rw[Array.size_modify];exact hB)]
theorem CY {w:World}{L:Loc}{cur:Array Value}{t:TypeId}{fz:Nat×Nat}(hw:w.heap[L.blk]? =some (.cells cur t fz))(k:Nat):w.cell? ⟨L.blk,k,none⟩=cur[k]? :=by simp[World.cell?,hw]
theorem vV: ∀{us:List AV} {l:List Int},vW us=some l->us=l.map (AV.int .i64)
 |[],l,h=>by
  simp only[vW,Option.some.injEq]at h
  subst h;rfl
 |u::us,l,h=>by
  unfold vW at h
  split at h
  ·rename_i q;cases q
  ·rename_i n l0 q
   cases q
   split at h
   ·rename_i m hm
    cases h
    rw[vV hm];rfl
   ·cases h
  ·cases h
theorem sO {c:C}{h:H}{id n:Nat}{vs:List AV}{l:List Int}(e:rP c h id n=some (vs,l)):cr c h id=some (.cells vs)/\n<=vs.length/\0<n/\n<4611686018427387904/\vs.take n=l.map (AV.int .i64)/\l.length=n:=by
 unfold rP at e
 split at e
 ·rename_i us hg
  cases hb:(Nat.ble n us.length&&(Nat.blt 0 n&&Nat.blt n 4611686018427387904))with
  |false=>rw[hb]at e;cases e
  |true=>
   rw[hb,cond_true]at e
   rw[Bool.and_eq_true,Bool.and_eq_true]at hb
   split at e
   ·rename_i m hm
    simp only[Option.some.injEq,Prod.mk.injEq]at e
    obtain⟨rfl,rfl⟩:=e
    have h1:=Nat.le_of_ble_eq_true hb.1
    have h2:=vV hm
    have h3:=congrArg List.length h2
    rw[List.length_take,List.length_map]at h3
    exact⟨hg,h1,by simpa[Nat.blt_eq]using hb.2.1,by simpa[Nat.blt_eq]using hb.2.2,h2,by omega⟩
   ·cases e
 ·cases e
theorem LG {β:bS}{L:Loc}{cur:Array Value}{vs:List AV}{l:List Int}{n:Nat}(hc: ∀(i:Nat) (v:AV),vs[i]? =some v-> ∃c,cur[L.base+i]? =some c/\VR β v c)(h:vs.take n=l.map (AV.int .i64)){j:Nat}(hj:j<l.length):
    cur[L.base+j]? =some (Value.int .i64 l[j]):=by
 have e1:(vs.take n)[j]? =some (.int .i64 l[j]):=by rw[h];simp[hj]
 have hjn:j<n:=by
  rcases Nat.lt_or_ge j n with q|q
  ·exact q
  ·rw[List.getElem?_eq_none (by rw[List.length_take];omega)]at e1;cases e1
 rw[List.getElem?_take_of_lt hjn]at e1
 obtain⟨c,c1,c2⟩:=hc j _ e1
 simp only[VR]at c2
 subst c2
 exact c1
theorem vX {β:bS}{w:World}{L:Loc}{cur:Array Value}{e:TypeId×(Nat×Nat)}{vs:List AV}{l:List Int}{n:Nat}(hw:w.heap[L.blk]? =some (.cells cur e.1 e.2))(hf:Fz cur e.2 L vs.length)
    (hc: ∀(i:Nat) (v:AV),vs[i]? =some v-> ∃c,cur[L.base+i]? =some c/\VR β v c) (h:vs.take n=l.map (AV.int .i64)) (hl:l.length=n) (hn:n<=vs.length):Go.Sort.Holds (Value.int .i64) w L.blk L.base l.toArray:=by
 intro j hj
 have hj':j<l.length:=by simpa using hj
 refine⟨?_,?_⟩
 ·rw[CY hw,LG hc h hj',getElem!_pos _ j hj]
  simp
 ·have h1:=hf.fit
  have h2:=hf.nf (L.base+j) (by omega) (by omega)
  simp only[World.frozen?,hw]
  exact h2
section
variable {dr:Prop}{P:Program}{ng:Nat}
theorem CZ {c:C}{h:H}{id n:Nat}{vs:List AV}{l l':List Int}{β:bS}{w:World}{L:Loc}(hw:WF h)(hgb:cr c h id=some (.cells vs))(hf:c.floor<=id)(hr:HR c.floor β (view c h) w)(hL:β id=some L)(hn:n<=vs.length)(hl:l'.length=n)(k:Nat)(os:Array Obj):
    ca dr c.floor h.n h.n β (view c h) w β (view c ⟨Tr.set depth h.t id (.cells (l'.map (.int .i64)++vs.drop n)),h.n⟩) (Go.Sort.grow (Go.Sort.putRow (Value.int .i64) (Go.Sort.ahead w k) L.blk L.base l'.toArray) os):=by
 obtain⟨L',q1,q2,cur,e,q3,q4,q5⟩:=hr.at_ id _ (cG hgb)
 rw[hL]at q1;cases q1
 obtain⟨w',ew,s1,s2,s3,s4,hheap⟩:=yv (Value.int .i64) w k L.blk L.base l'.toArray os
 rw[ew]
 have hfit:=q4.fit
 have hsize:=q4.le
 have hoth: ∀B,B<w.heap.size->B≠L.blk->w'.heap[B]? =w.heap[B]? :=fun B hB hne=>by
  rw[hheap B hB,Array.getElem?_modify,if_neg (Ne.symm hne)]
 have hown:w'.heap[L.blk]? =some (.cells (Go.Sort.putCells (Value.int .i64) L.base l'.toArray cur) e.1 e.2):=by
  rw[hheap _ q2,Array.getElem?_modify,if_pos rfl,q3];rfl
 refine sN (b:= .cells (l'.map (.int .i64)++vs.drop n)) hr (cG hgb) hL hf hoth s1 s2 s3 s4 ⟨_,e,hown,⟨?_,?_,q4.nf⟩,fun i v hi=>?_⟩ fun j d ej=>fM (Nat.lt_succ_self _) ej
 ·simpa[Go.Sort.putCells]using hsize
 ·simp only[List.length_append,List.length_map,List.length_drop];omega
 ·simp only[Go.Sort.putCells,Array.getElem?_mapIdx]
  rcases Nat.lt_or_ge i n with hin|hin
  ·rw[List.getElem?_append_left (by simp;omega),List.getElem?_map,Option.map_eq_some_iff]at hi
   obtain⟨s,hs1,rfl⟩:=hi
   have hlt:i<l'.length:=(List.getElem?_eq_some_iff.1 hs1).1
   have hse:l'[i]=s:=(List.getElem?_eq_some_iff.1 hs1).2
   have hcur:L.base+i<cur.size:=by omega
   rw[Array.getElem?_eq_getElem hcur,Option.map_some,if_pos ⟨by omega,by simp;omega⟩]
   refine⟨_,rfl,?_⟩
   have e1:l'.toArray[L.base+i-L.base]! =s:=by
    rw[show L.base+i-L.base=i by omega,getElem!_pos _ i (by simpa using hlt)]
    simp[hse]
   rw[e1]
   simp only[VR]
  ·rw[List.getElem?_append_right (by simp;omega),List.length_map,List.getElem?_drop,show n+(i-l'.length)=i by omega]at hi
   obtain⟨c',c1,c2⟩:=q5 i v hi
   refine⟨c',?_,c2⟩
   rw[c1,Option.map_some,if_neg (by simp;omega)]
theorem IE {f:Nat}(hfn: ∃fn,P.funcs[f]? =some fn/\fn.body.isNone=false/\(fn.name== "runtime.NumGoroutine")=false)
    (h0: ∀(w:World),Calls P f #[.slice none 0 0] w fun e w'=>e= .returned (.tuple #[])/\w'=w)
    (h1: ∀(blk off cap:Nat) (zs:List Int) (w:World),Go.Sort.Holds (Value.int .i64) w blk off zs.toArray->blk<w.heap.size->zs.length<4611686018427387904->
     Calls P f #[.slice (some ⟨blk,off,none⟩) zs.length cap] w fun e w'=>e= .returned (.tuple #[])/\ ∃n os,w'=Go.Sort.grow (Go.Sort.putRow (Value.int .i64) (Go.Sort.ahead w n) blk off (zs.mergeSort fun x y=>decide (x<=y)).toArray) os):da dr P ng (gT f):=by
 intro g args c h v h' er hc hw
 unfold gT at er
 cases hg:Nat.beq g f with
 |false=>rw[hg]at er;cases er
 |true=>
  have:=Nat.eq_of_beq_eq_true hg
  subst this
  rw[hg,cond_true]at er
  have hv0: ∀β,VR β (.bn []) (.tuple #[]):=fun β=>by simp only[VR,bh];exact⟨_,rfl,rfl⟩
  split at er
  ·simp only[Option.some.injEq,Prod.mk.injEq]at er
   obtain⟨rfl,rfl⟩:=er
   refine kQ.up ⟨Step.refl hw,hfn,fun β w cargs hgb hr hv hfr R hR=>?_⟩
   simp only[bh,VR]at hv
   obtain⟨_,_,rfl,rfl,rfl⟩:=hv
   refine(h0 w).mono ?_
   rintro e w' ⟨rfl,rfl⟩
   exact hR β _ _ (ca.refl hr) (hv0 _)
  ·rename_i id n _
   split at er
   ·rename_i vs l htx
    obtain⟨hf,hs,er⟩:=dQ er
    simp only[Option.some.injEq,Prod.mk.injEq]at er
    obtain⟨rfl,rfl⟩:=er
    obtain⟨hgb0,hnle,hn0,hnm,htxt,hlen⟩:=sO htx
    have hget:=(bN hgb0).1
    refine kQ.up ⟨eJ hw hget hf hs,hfn,fun β w cargs hgb hr hv hfr R hR=>?_⟩
    simp only[bh,VR]at hv
    obtain⟨_,_,rfl,⟨L,o,cp,hL,rfl,hle,hsz,ho,hcap⟩,rfl⟩:=hv
    obtain⟨L',q1,q2,cur,e,q3,q4,q5⟩:=hr.at_ id _ (cG hgb0)
    rw[hL]at q1;cases q1
    have ho':o=L.base:=by rcases ho with rfl|⟨z,_⟩<;>omega
    subst ho'
    have hH:=vX q3 q4 q5 htxt hlen hnle
    have hcall:=h1 L.blk L.base cp l w hH q2 (by omega)
    rw[hlen]at hcall
    refine hcall.mono ?_
    rintro e' w' ⟨rfl,k,os,rfl⟩
    exact hR β (.tuple #[]) _ (CZ (l:=l) hw hgb0 hf hr hL hnle (by unfold fW;rw[List.length_mergeSort];exact hlen) k os) (hv0 _)
   ·cases er
  ·cases er
theorem IF {f:Nat}(hfn: ∃fn,P.funcs[f]? =some fn/\fn.body.isNone=false/\(fn.name== "runtime.NumGoroutine")=false)
    (h0: ∀(w:World),Calls P f #[.slice none 0 0] w fun e w'=>e= .returned (.slice none 0 0)/\w'=w)
    (h1: ∀(blk off cap:Nat) (zs:List Int) (w:World),Go.Sort.Holds (Value.int .i64) w blk off zs.toArray->zs.length<=9223372036854775807->zs.length<=cap->
     Calls P f #[.slice (some ⟨blk,off,none⟩) zs.length cap] w fun e w'=>e= .returned (.slice (some ⟨blk,off,none⟩) (Lib.compact zs).length cap)/\ ∃q,w'=Go.Sort.putRow (Value.int .i64) (Go.Sort.ahead w q) blk off (Lib.compact zs++List.replicate (zs.length-(Lib.compact zs).length) 0).toArray):da dr P ng (gU f):=by
 intro g args c h v h' er hc hw
 unfold gU at er
 cases hg:Nat.beq g f with
 |false=>rw[hg]at er;cases er
 |true=>
  have:=Nat.eq_of_beq_eq_true hg
  subst this
  rw[hg,cond_true]at er
  split at er
  ·simp only[Option.some.injEq,Prod.mk.injEq]at er
   obtain⟨rfl,rfl⟩:=er
   refine kQ.up ⟨Step.refl hw,hfn,fun β w cargs hgb hr hv hfr R hR=>?_⟩
   simp only[bh,VR]at hv
   obtain⟨_,_,rfl,rfl,rfl⟩:=hv
   refine(h0 w).mono ?_
   rintro e w' ⟨rfl,rfl⟩
   exact hR β _ _ (ca.refl hr) (by simp only[VR])
  ·rename_i id n cap
   split at er
   ·rename_i vs l htx
    obtain⟨hf,hs,er⟩:=dQ er
    simp only[Option.some.injEq,Prod.mk.injEq]at er
    obtain⟨rfl,rfl⟩:=er
    obtain⟨hgb0,hnle,hn0,hnm,htxt,hlen⟩:=sO htx
    subst hlen
    have hget:=(bN hgb0).1
    refine kQ.up ⟨eJ hw hget hf hs,hfn,fun β w cargs hgb hr hv hfr R hR=>?_⟩
    simp only[bh,VR]at hv
    obtain⟨_,_,rfl,⟨L,o,cp,hL,rfl,hle,hsz,ho,hcap⟩,rfl⟩:=hv
    obtain⟨L',q1,q2,cur,e,q3,q4,q5⟩:=hr.at_ id _ (cG hgb0)
    rw[hL]at q1;cases q1
    have ho':o=L.base:=by rcases ho with rfl|⟨z,_⟩<;>omega
    subst ho'
    have hH:=vX q3 q4 q5 htxt rfl hnle
    have hcl:= @uj ⟨fun _=>none⟩ l
    have hcall:=h1 L.blk L.base cp l w hH (by omega) (by omega)
    refine hcall.mono ?_
    rintro e' w' ⟨rfl,k,rfl⟩
    rw[<-Go.Sort.grow_empty (Go.Sort.putRow _ _ _ _ _)]
    refine hR β _ _ (CZ (l:=l) (l':=Lib.compact l++List.replicate (l.length-(Lib.compact l).length) 0) hw hgb0 hf hr hL hnle (by rw[List.length_append,List.length_replicate];omega) k #[]) ?_
    simp only[VR]
    exact⟨L,L.base,cp,hL,rfl,by omega,hsz,Or.inl (by simp),hcap⟩
   ·cases er
  ·cases er
end
end Go.Proofs.YtemehfgkfidgjaaGreatDoor.Ev
