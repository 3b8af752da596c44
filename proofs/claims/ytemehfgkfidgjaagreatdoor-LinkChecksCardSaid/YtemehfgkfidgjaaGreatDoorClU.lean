/- CoverStates, part 31 -/
import Derived.Test.YtemehfgkfidgjaaGreatDoorClO
set_option linter.all false
set_option maxHeartbeats 4000000
namespace Go.Proofs.YtemehfgkfidgjaaGreatDoor.Ev
open Go
open Classical
noncomputable def jH (cl:List aN)(c m:List Nat):bZ:=if aO (bH cl) c<0 then default else(fA (el cl (aO (bH cl) c).toNat) m).getD default
theorem mT {l:List wF}{K:PV->Prop}(hl:l.length*16<=140737488355328)(k:K (pL 2 qw l)):PF Tryz.prog X0 Mx 51 [pL 2 qw l] K:=by
 have hnt:(8:Nat)<=1000000:=by decide
 refine bD mU (bg _) (by simp) hnt ?_
 repeat'(first|refine pg ?_|refine af ?_|(refine y7 (fun hc=>?_) ?_)|(refine bb ?_;intro b)|(refine y8 (f:=qw) ?_;intro od1 hod)|refine pc ?_|refine pt ?_)
 ·obtain rfl:l=[]:=List.length_eq_zero_iff.1 hc
  exact⟨Or.inr rfl,⟨trivial,trivial⟩,_,_,rfl,.aE 2 _,k⟩
 ·exact⟨Or.inr rfl,⟨trivial,trivial⟩,_,_,rfl,cE,k⟩
theorem uy {s t:bZ}{K:PV->Prop}(kt:s.name=t.name/\s.static=t.static/\s.result=t.result/\s.params=t.params->K (.bool true))(kf: ¬(s.name=t.name/\s.static=t.static/\s.result=t.result/\s.params=t.params)->K (.bool false)):PF Tryz.prog X0 Mx 18 [.agg (cb s),.agg (cb t)] K:=by
 have hnt:(31:Nat)<=1000000:=by decide
 refine bD uH (bg _) (by simp) hnt ?_
 repeat'(first|refine pg ?_|refine af ?_|(refine aG ?_ ?_<;>intro hc<;>try contradiction)|refine ad ?_|(refine ai ?_;intro b)|(refine aw ?_ ?_<;>intro hc<;>try first|contradiction|omega)|(refine ae (aa (fZ (fun hs=>?_) fun hs=>?_)))|refine pc ?_|refine pt ?_)
 all_goals first
  |exact⟨Or.inr rfl,⟨trivial,trivial⟩,_,_,rfl,.refl _,kt ⟨by assumption,by simp only[*],by assumption,hs⟩⟩
  |exact⟨Or.inr rfl,⟨trivial,trivial⟩,_,_,rfl,.refl _,kf (fun⟨q1,q2,q3,q4⟩=>by first|contradiction|(simp_all;done))⟩
theorem DK {l:ll}{c m:List Nat}{K:PV->Prop}(AK: ∀x∈l.bf,x.sig.params.length*16<=140737488355328/\x.c8.length*16<=140737488355328)(kt: ∀j,j<l.bf.length->(el l.bf j).cls=c->(el l.bf j).gP=m->K (.bn [.agg (gG (el l.bf j)),.bool true]))(kf:(∀j,j<l.bf.length-> ¬((el l.bf j).cls=c/\(el l.bf j).gP=m))->K (.bn [.agg (gG default),.bool false])):PF Tryz.prog X0 Mx 17 [.agg (jv l),.agg [.str c,.str m]] K:=by
 have hnt:(32:Nat)<=1000000:=by decide
 refine bD DX (bg _) (by simp) hnt ?_
 repeat'(first|refine pg ?_|refine af ?_|refine ad ?_|(refine ak ?_;intro hl)|(refine ai ?_;intro b)|(refine aw ?_ ?_<;>intro hc<;>try first|contradiction|omega)|refine aj ?_|refine aA ?_|refine au ?_|refine ay ?_|refine aU ?_|refine aI ?_|refine pc ?_|refine pt ?_|refine pb ?_)
 refine aD (fun j:Nat=>[(3,.ptr 3 _ 0),(4,.ptr 4 _ 0),(9,pL 8 gG l.bf),(10,.int .i64 (l.bf.length:Nat)),(11,.int .i64 j)]) (fun _=>[(3,some _,.cells [.str c,.str m]),(4,some _,.cells [.str [],.str [],.str [],.bool false,.aE,.str [],.bool false,.aE])]) (fun j=>j<=l.bf.length/\ ∀i,i<j-> ¬((el l.bf i).cls=c/\(el l.bf i).gP=m)) (fun j=>l.bf.length-j) 0 ⟨Nat.zero_le _,fun i hi=>absurd hi (by omega)⟩ (.cons rfl (.refl _) (.cons rfl (.refl _) (.cons rfl (.refl _) (.cons rfl (.refl _) (.cons rfl (.refl _) (.nil)))))) (.cons rfl (.refl _) (.cons rfl (.refl _) (.nil))) ?_
 rintro j ⟨hj,hb⟩
 repeat'(first|refine pg ?_|refine af ?_|refine ad ?_|(refine ak ?_;intro hl)|(refine ai ?_;intro b)|(refine aw ?_ ?_<;>intro hc<;>try first|contradiction|omega)|refine aj ?_|refine aA ?_|refine au ?_|refine ay ?_|refine aU ?_|refine aI ?_|(refine PY ?_ ?_<;>intro hc)|(refine bz (us:=[.str (el l.bf j).cls,.str (el l.bf j).gP]) ?_ rfl rfl ⟨by show 0+0+2<=8;decide,rfl⟩)|(refine bz (us:=[.str c,.str m]) ?_ rfl rfl ⟨by show 0+2<=2;decide,rfl⟩)|(refine ae (aa (ga (l:=(el l.bf j).sig.params) (AK _ (ba (by omega))).1 ?_)))|(refine ae (aa (mT (l:=(el l.bf j).c8) (AK _ (ba (by omega))).2 ?_)))|refine pc ?_|refine pt ?_|refine pb ?_)
 ·have k2:=kt j (by omega) hc.1 hc.2
  exact⟨Or.inr rfl,⟨rfl,⟨trivial,trivial⟩⟩,_,_,rfl,(.refl _),k2⟩
 ·refine⟨j+1,by dsimp only;omega,⟨by omega,fun i hi=>?_⟩,(.cons rfl (.refl _) (.cons rfl (.refl _) (.cons rfl (.refl _) (.cons rfl (.refl _) (.cons rfl (.refl _) (.nil)))))),(.cons rfl (.refl _) (.cons rfl (.refl _) (.nil)))⟩
  by_cases q:i=j
  ·subst q;assumption
  ·exact hb i (by omega)
 ·have k2:=kf (fun i hi=>hb i (by omega))
  exact⟨Or.inr rfl,⟨rfl,⟨trivial,trivial⟩⟩,_,_,rfl,.bn _ _ (.cons _ _ _ _ (.agg _ _ (.cons _ _ _ _ (.refl _) (.cons _ _ _ _ (.refl _) (.cons _ _ _ _ (.refl _) (.cons _ _ _ _ (.refl _) (.cons _ _ _ _ (.aE _ _) (.cons _ _ _ _ (.refl _) (.cons _ _ _ _ (.refl _) (.cons _ _ _ _ (.aE _ _) .nil))))))))) (.cons _ _ _ _ (.refl _) .nil)),k2⟩
noncomputable def ia (u:aF)(lib:List (List Nat))(k:Nat)(s:List Nat):Option PV:=if(∃i,i<k/\el lib i=s)/\0<=aO (bH u.cl) s then some (.bool true)else none
theorem MW {u:aF}{lib:List (List Nat)}{j:Nat}(h:0<=aO (bH u.cl) (el lib j))(s:List Nat):(if s=el lib j then some (PV.bool true)else ia u lib j s)=ia u lib (j+1) s:=by
 unfold ia
 by_cases e:s=el lib j
 ·rw[if_pos e,if_pos ⟨⟨j,by omega,e.symm⟩,by rw[e];exact h⟩]
 ·rw[if_neg e]
  by_cases q:(∃i,i<j/\el lib i=s)/\0<=aO (bH u.cl) s
  ·obtain⟨⟨i,h1,h2⟩,h3⟩:=q
   rw[if_pos ⟨⟨i,h1,h2⟩,h3⟩,if_pos ⟨⟨i,by omega,h2⟩,h3⟩]
  ·rw[if_neg q,if_neg fun⟨⟨i,h1,h2⟩,h3⟩=>q ⟨⟨i,by
     by_cases w:i=j
     ·subst w;exact absurd h2.symm e
     ·omega,h2⟩,h3⟩]
theorem JG {u:aF}{lib:List (List Nat)}{j:Nat}(h: ¬0<=aO (bH u.cl) (el lib j))(s:List Nat):ia u lib j s=ia u lib (j+1) s:=by
 unfold ia
 by_cases q:(∃i,i<j/\el lib i=s)/\0<=aO (bH u.cl) s
 ·obtain⟨⟨i,h1,h2⟩,h3⟩:=q
  rw[if_pos ⟨⟨i,h1,h2⟩,h3⟩,if_pos ⟨⟨i,by omega,h2⟩,h3⟩]
 ·rw[if_neg q,if_neg fun⟨⟨i,h1,h2⟩,h3⟩=>q ⟨⟨i,by
    by_cases w:i=j
    ·subst w;exact absurd (h2▸h3) h
    ·omega,h2⟩,h3⟩]
theorem Jy {u:aF}{lib:List (List Nat)}{k:Nat}{s:List Nat}{v:PV}(h:ia u lib k s=some v):v= .bool true:=by
 unfold ia at h
 split at h
 ·cases h;rfl
 ·cases h
abbrev jj:=List (Int×PV×Nat)
structure fB (u:aF)(lf:List Nat->Option PV)(k:Nat)(l:jj)(ck:Nat):Prop where
 key: ∀e∈l,e.2.1= .bool true/\e.2.2<ck/\ ∃i:Nat,i<k/\e.1=i/\lf (el u.fns i).cls=some (.bool true)
 nk:(l.map (·.1)).Nodup
 ns:(l.map (·.2.2)).Nodup
def Jd (l:jj)(g:Int):Prop:= ∃e∈l,e.1=g
theorem iz {g:Int}: ∀{l:jj},dn l g=none↔ ¬Jd l g
 |[]=>⟨fun _ ⟨e,h,_⟩=>(by cases h),fun _=>rfl⟩
 |e::l=>by
  unfold dn
  by_cases q:g=e.1
  ·rw[if_pos q];exact⟨fun h=>(by cases h),fun h=>absurd ⟨e,List.mem_cons_self,q.symm⟩ h⟩
  ·rw[if_neg q,iz (l:=l)]
   exact not_congr ⟨fun⟨x,h1,h2⟩=>⟨x,List.mem_cons_of_mem _ h1,h2⟩,fun⟨x,h1,h2⟩=>by
    rcases List.mem_cons.1 h1 with w|w
    ·subst w;exact absurd h2.symm q
    ·exact⟨x,w,h2⟩⟩
theorem BF {g:Int}{v:PV}: ∀{l:jj},dn l g=some v-> ∃st,(g,v,st)∈l
 |[],h=>by cases h
 |e::l,h=>by
  unfold dn at h
  by_cases q:g=e.1
  ·rw[if_pos q]at h;cases h;exact⟨e.2.2,by rw[q];exact List.mem_cons_self⟩
  ·rw[if_neg q]at h
   obtain⟨st,h1⟩:=BF h
   exact⟨st,List.mem_cons_of_mem _ h1⟩
theorem fB.b {u:aF}{lf:List Nat->Option PV}{k ck:Nat}{l:jj}(h:fB u lf k l ck)(g:Int)(v:PV)(q:dn l g=some v):v= .bool true:=by
 obtain⟨st,h1⟩:=BF q
 exact(h.key _ h1).1
theorem fB.get {u:aF}{lf:List Nat->Option PV}{k ck:Nat}{l:jj}(h:fB u lf k l ck){g:Int}:dn l g=some (.bool true)↔Jd l g:=by
 constructor
 ·intro q
  refine Classical.byContradiction fun w=>?_
  rw[iz.2 w]at q;cases q
 ·intro q
  cases e:dn l g with
  |none=>exact absurd q (iz.1 e)
  |some v=>rw[h.b g v e]
theorem fB.add {u:aF}{lf:List Nat->Option PV}{k ck:Nat}{l:jj}(h:fB u lf k l ck)(hl:lf (el u.fns k).cls=some (.bool true)):fB u lf (k+1) (l++[(((k:Nat):Int),PV.bool true,ck)]) (ck+1):=⟨fun e he=>by
 rcases List.mem_append.1 he with q|q
 ·obtain⟨h1,h2,i,h3,h4⟩:=h.key e q
  exact⟨h1,by omega,i,by omega,h4⟩
 ·rw[List.mem_singleton.1 q];exact⟨rfl,Nat.lt_succ_self _,k,Nat.lt_succ_self _,rfl,hl⟩,by
 rw[List.map_append,List.nodup_append]
 refine⟨h.nk,by simp,fun a ha b hb=>?_⟩
 obtain⟨e,he,rfl⟩:=List.mem_map.1 ha
 obtain⟨_,_,i,h3,h4,_⟩:=h.key e he
 rw[List.map_cons,List.map_nil,List.mem_singleton]at hb
 have hb2:b=(k:Int):=hb
 intro q
 have q2:(i:Int)=(k:Int):=by rw[<-h4,<-hb2];exact q
 omega,by
 rw[List.map_append,List.nodup_append]
 refine⟨h.ns,by simp,fun a ha b hb=>?_⟩
 obtain⟨e,he,rfl⟩:=List.mem_map.1 ha
 have:=(h.key e he).2.1
 rw[List.map_cons,List.map_nil,List.mem_singleton]at hb
 have hb2:b=ck:=hb
 intro q;have q2:e.2.2=b:=q;omega⟩
theorem fB.up {u:aF}{lf:List Nat->Option PV}{k ck:Nat}{l:jj}(h:fB u lf k l ck):fB u lf (k+1) l ck:=⟨fun e he=>by
 obtain⟨h1,h2,i,h3,h4⟩:=h.key e he
 exact⟨h1,h2,i,by omega,h4⟩,h.nk,h.ns⟩
theorem fB.new {u:aF}{lf:List Nat->Option PV}{k ck:Nat}{l:jj}(h:fB u lf k l ck):dn l (k:Nat)=none:=iz.2 fun⟨e,he,q⟩=>by
 obtain⟨_,_,i,h3,h4,_⟩:=h.key e he
 rw[h4]at q;have:i=k:=by exact_mod_cast q
 omega
theorem fB.del {u:aF}{lf:List Nat->Option PV}{k ck:Nat}{l:jj}(h:fB u lf k l ck)(g:Int):fB u lf k (jd g l) ck:=⟨fun e he=>h.key e (jL.subset he),h.nk.sublist (jL.map _),h.ns.sublist (jL.map _)⟩
theorem FL {g x:Int}: ∀{l:jj},(l.map (·.1)).Nodup->(Jd (jd g l) x↔Jd l x/\x≠g)
 |[],_=>⟨fun⟨e,h,_⟩=>(by cases h),fun⟨⟨e,h,_⟩,_⟩=>(by cases h)⟩
 |e::l,hn=>by
  rw[List.map_cons,List.nodup_cons]at hn
  unfold jd
  by_cases q:g=e.1
  ·rw[if_pos q]
   constructor
   ·rintro⟨y,h1,h2⟩
    refine⟨⟨y,List.mem_cons_of_mem _ h1,h2⟩,fun w=>hn.1 (List.mem_map.2 ⟨y,h1,?_⟩)⟩
    show y.1=e.1
    rw[h2,w,q]
   ·rintro⟨⟨y,h1,h2⟩,h3⟩
    rcases List.mem_cons.1 h1 with w|w
    ·subst w;exact absurd (h2.symm.trans q.symm) h3
    ·exact⟨y,w,h2⟩
  ·rw[if_neg q]
   have ih:=FL (g:=g) (x:=x) hn.2
   constructor
   ·rintro⟨y,h1,h2⟩
    rcases List.mem_cons.1 h1 with w|w
    ·subst w;exact⟨⟨_,List.mem_cons_self,h2⟩,fun z=>q (z.symm.trans h2.symm)⟩
    ·obtain⟨⟨y2,h4,h5⟩,h6⟩:=ih.1 ⟨y,w,h2⟩
     exact⟨⟨y2,List.mem_cons_of_mem _ h4,h5⟩,h6⟩
   ·rintro⟨⟨y,h1,h2⟩,h3⟩
    rcases List.mem_cons.1 h1 with w|w
    ·subst w;exact⟨_,List.mem_cons_self,h2⟩
    ·obtain⟨y2,h4,h5⟩:=ih.2 ⟨⟨y,w,h2⟩,h3⟩
     exact⟨y2,List.mem_cons_of_mem _ h4,h5⟩
theorem BG {g:Int}: ∀{l:jj},Jd l g->(jd g l).length+1=l.length
 |[],⟨e,h,_⟩=>by cases h
 |e::l,⟨y,h1,h2⟩=>by
  unfold jd
  by_cases q:g=e.1
  ·rw[if_pos q];rfl
  ·rw[if_neg q,List.length_cons,List.length_cons,BG (l:=l) (by
     rcases List.mem_cons.1 h1 with w|w
     ·subst w;exact absurd h2.symm q
     ·exact⟨y,w,h2⟩)]
def gX (l:jj)(seen:List Nat):Nat:=(l.filter fun e=>!seen.contains e.2.2).length
theorem lE {u:aF}{lf:List Nat->Option PV}{k ck:Nat}{l:jj}(h:fB u lf k l ck){g:Int}{v:PV}{st:Nat}{seen:List Nat}(hm:(g,v,st)∈l)(hs:st∉seen):gX l (seen++[st])+1=gX l seen:=by
 have key: ∀{l:jj},(l.map (·.2.2)).Nodup->(g,v,st)∈l->gX l (seen++[st])+1=gX l seen:=fun {l}=>by
  induction l with
  |nil=>intro _ h;cases h
  |cons p l ih=>
   intro hn hm
   rw[List.map_cons,List.nodup_cons]at hn
   unfold gX at ih⊢
   rcases List.mem_cons.1 hm with q|q
   ·subst q
    rw[List.filter_cons_of_neg (by simp),List.filter_cons_of_pos (by simpa using hs),List.length_cons]
    congr 2
    refine List.filter_congr fun x hx=>?_
    have:x.2.2≠st:=fun w=>hn.1 (by rw[<-w];exact List.mem_map.2 ⟨x,hx,rfl⟩)
    simp[this]
   ·have ih:=ih hn.2 q
    have:p.2.2≠st:=fun w=>hn.1 (by rw[w];exact List.mem_map.2 ⟨_,q,rfl⟩)
    by_cases z:p.2.2∈seen
    ·rw[List.filter_cons_of_neg (by simp[z]),List.filter_cons_of_neg (by simpa using z),ih]
    ·rw[List.filter_cons_of_pos (by simp[z,this]),List.filter_cons_of_pos (by simpa using z),List.length_cons,List.length_cons,ih]
 exact key h.ns hm
theorem DY {l m:jj}{seen:List Nat}(h:l.Sublist m):gX l seen<=gX m seen:=(h.filter _).length_le
noncomputable def Sr (T:Nat->Prop)(g:Int):Option PV:=if 0<=g/\T g.toNat then some (.bool true)else none
def O9 (u:aF)(lf:List Nat->Option PV)(T:Nat->Prop):Prop:= ∀i,T i->i<u.fns.length/\lf (el u.fns i).cls=some (.bool true)/\ ¬Ha lf (Sr T) u i
def tY (u:aF)(lf:List Nat->Option PV)(i:Nat):Prop:= ∃T,O9 u lf T/\T i
theorem BH {u:aF}{lf:List Nat->Option PV}{cf cf2:Int->Option PV}{i:Nat}(hc: ∀g,cf g=some (.bool true)->cf2 g=some (.bool true))(h: ¬Ha lf cf u i): ¬Ha lf cf2 u i:=fun⟨m,hm,q⟩=>h ⟨m,hm,by
 rcases q with q|q|q|⟨j,hj,q⟩
 ·exact Or.inl q
 ·exact Or.inr (Or.inl q)
 ·exact Or.inr (Or.inr (Or.inl q))
 ·exact Or.inr (Or.inr (Or.inr ⟨j,hj,fun w=>q (hc _ w)⟩))⟩
theorem FG {T:Nat->Prop}{g:Int}:Sr T g=some (.bool true)↔0<=g/\T g.toNat:=by
 unfold Sr
 by_cases q:0<=g/\T g.toNat
 ·rw[if_pos q];exact⟨fun _=>q,fun _=>rfl⟩
 ·rw[if_neg q];exact⟨fun h=>(by cases h),fun h=>absurd h q⟩
def uC (u:aF)(lf:List Nat->Option PV)(l:jj):Prop:= ∀i:Nat,tY u lf i->Jd l i
theorem uC.keep {u:aF}{lf:List Nat->Option PV}{k ck:Nat}{l:jj}(he:fB u lf k l ck)(h:uC u lf l){i:Nat}(hi:tY u lf i): ¬Ha lf (dn l) u i:=by
 obtain⟨T,hT,hTi⟩:=hi
 refine BH (fun g q=>?_) (hT i hTi).2.2
 obtain⟨q1,q2⟩:=FG.1 q
 have:=h _ ⟨T,hT,q2⟩
 rw[show((g.toNat:Nat):Int)=g by omega]at this
 exact he.get.2 this
theorem uC.del {u:aF}{lf:List Nat->Option PV}{k ck:Nat}{l:jj}(he:fB u lf k l ck)(h:uC u lf l){g:Nat}(ho:Ha lf (dn l) u g):uC u lf (jd (g:Nat) l):=fun i hi=>(FL he.nk).2 ⟨h i hi,fun q=>by
 have:i=g:=by exact_mod_cast q
 subst this
 exact h.keep he hi ho⟩
theorem uC.eq {u:aF}{lf:List Nat->Option PV}{ck:Nat}{l:jj}(he:fB u lf u.fns.length l ck)(h:uC u lf l)(hs: ∀e∈l,¬Ha lf (dn l) u e.1.toNat)(g:Int):Jd l g↔ ∃i:Nat,g=i/\tY u lf i:=by
 constructor
 ·rintro⟨e,h1,rfl⟩
  obtain⟨_,_,i,h3,h4,h5⟩:=he.key e h1
  refine⟨i,h4,fun j=>Jd l (j:Nat),fun j ⟨e2,q1,q2⟩=>?_,e,h1,h4⟩
  obtain⟨_,_,i2,h6,h7,h8⟩:=he.key e2 q1
  have:i2=j:=by rw[h7]at q2;exact_mod_cast q2
  subst this
  refine⟨h6,h8,?_⟩
  have:=hs e2 q1
  rw[h7]at this
  refine BH (fun g q=>FG.2 ?_) this
  obtain⟨e3,w1,w2⟩:=he.get.1 q
  obtain⟨_,_,i3,w3,w4,_⟩:=he.key e3 w1
  rw[w4]at w2
  exact⟨by omega,e3,w1,by rw[w4];omega⟩
 ·rintro⟨i,rfl,hi⟩
  exact h i hi
abbrev MI (u:aF)(lf:List Nat->Option PV)(i14 i15:Nat):List PV:=[pL 4 gS u.cl,pL 7 eN u.fns,.int .i64 u.main,.nC 0 lf,.gC 1014 i14,.gC 1015 i15]
abbrev Uc (u:aF)(lf:List Nat->Option PV)(i17 i14 i15:Nat)(l:jj)(ck:Nat)(m:jj)(mk:Nat):aJ:=[(1017,some i17,.cells (MI u lf i14 i15)),(1014,some i14,.dA l ck),(1015,some i15,.dA m mk)]
theorem gq {α β:Type}{f:α->β}: ∀{l:List α} {a b:α},(l.map f).Nodup->a∈l->b∈l->f a=f b->a=b
 |[],_,_,_,h,_,_=>by cases h
 |x::l,a,b,hn,ha,hb,e=>by
  rw[List.map_cons,List.nodup_cons]at hn
  rcases List.mem_cons.1 ha with q|q<;>rcases List.mem_cons.1 hb with w|w
  ·rw[q,w]
  ·exact absurd (List.mem_map.2 ⟨b,w,by rw[<-e,q]⟩) hn.1
  ·exact absurd (List.mem_map.2 ⟨a,q,by rw[e,w]⟩) hn.1
  ·exact gq hn.2 q w e
theorem uB {dr:Prop}{ng:Nat}(sd:Sd dr Tryz.prog ng X0 Mx){u:aF}{lib:List (List Nat)}{K:PV->aJ->Prop}(cg:u.cl.length<=64)(AK: ∀c m d t,bE u.cl c m=some (d,t)->t.params.length*16<=140737488355328)(hcl: ∀i,i<u.fns.length->(el u.fns i).code.length<=1000000)(k: ∀i14 i15 l ck,fB u (ia u lib lib.length) u.fns.length l ck->(∀g,Jd l g↔ ∃i:Nat,g=i/\tY u (ia u lib lib.length) i)->K (.fp (MI u (ia u lib lib.length) i14 i15) 0) [(1014,some i14,.dA l ck),(1015,some i15,.dA [] 0)]):tB dr Tryz.prog ng 42 [.agg (bK u),pL 1 pS lib] [] K:=by
 have hnt:(75:Nat)<=1000000:=by decide
 refine ly (Bl sd sZ hnt ?_)
 unfold lv
 repeat'(first|refine pg ?_|refine af ?_|refine ad ?_|refine ah ?_|(refine ak ?_;intro hl)|(refine ai ?_;intro b)|(refine aw ?_ ?_<;>intro hc<;>try first|contradiction|omega)|refine aj ?_|refine aA ?_|refine au ?_|refine ay ?_|refine aU ?_|(refine JH (d:=13) ?_ .m;intro b13)|(refine JI (d:=14) ?_ .m;intro b14)|(refine JI (d:=15) ?_ .m;intro b15)|refine pc ?_|refine pt ?_|refine pb ?_|refine bB ?_|refine bc ?_|refine bC sd hnt ?_|refine dD ?_|refine ft ?_)
 refine aD (fun j:Nat=>[(2,.ptr 2 _ 0),(5,.ptr 17 _ 0),(18,pL 1 pS lib),(19,.int .i64 (lib.length:Nat)),(20,.int .i64 (j:Nat))]) (fun j=>[(2,some _,.cells (bK u)),(17,some _,.cells [pL 4 gS u.cl,pL 7 eN u.fns,.int .i64 u.main,.gC 13 _,.gC 14 _,.gC 15 _]),(13,some _,.map 0 (ia u lib j)),(14,some _,.dA [] 0),(15,some _,.dA [] 0)]) (fun j=>j<=lib.length) (fun j=>lib.length-j) 0 (Nat.zero_le _) (.cons rfl (.refl _) (.cons rfl (.refl _) (.cons rfl (.refl _) (.cons rfl (.refl _) (.cons rfl (.refl _) (.nil)))))) (.cons rfl (.refl _) (.cons rfl (.refl _) (.cons rfl (.map _ _ _ fun s=>by unfold ia;rw[if_neg];rintro⟨⟨i,h,_⟩,_⟩;omega) (.cons rfl (.refl _) (.cons rfl (.refl _) .nil))))) ?_
 rintro j hj
 repeat'(first|refine pg ?_|refine af ?_|refine ad ?_|refine ah ?_|(refine ak ?_;intro hl)|(refine ai ?_;intro b)|(refine aw ?_ ?_<;>intro hc<;>try first|contradiction|omega)|refine aj ?_|refine aA ?_|refine au ?_|refine ay ?_|refine aU ?_|(refine bz (us:=aY u.cl) ?_ rfl rfl ⟨by show 0+0+1<=3;decide,rfl⟩)|refine ae (aa (dm ?_))|refine JJ ?_|refine pc ?_|refine pt ?_|refine pb ?_|refine bB ?_|refine bc ?_|refine bC sd hnt ?_|refine dD ?_|refine ft ?_)
 ·exact⟨j+1,by dsimp only;omega,by dsimp only;omega,(.cons rfl (.refl _) (.cons rfl (.refl _) (.cons rfl (.refl _) (.cons rfl (.refl _) (.cons rfl (.refl _) (.nil)))))),(.cons rfl (.refl _) (.cons rfl (.refl _) (.cons rfl (.map _ _ _ (MW hc)) (.cons rfl (.refl _) (.cons rfl (.refl _) .nil)))))⟩
 ·exact⟨j+1,by dsimp only;omega,by dsimp only;omega,(.cons rfl (.refl _) (.cons rfl (.refl _) (.cons rfl (.refl _) (.cons rfl (.refl _) (.cons rfl (.refl _) (.nil)))))),(.cons rfl (.refl _) (.cons rfl (.refl _) (.cons rfl (.map _ _ _ (JG hc)) (.cons rfl (.refl _) (.cons rfl (.refl _) .nil)))))⟩
 obtain rfl:j=lib.length:=by omega
 refine oV (Z:=[(13,some _,.map 0 (ia u lib lib.length)),(2,some _,.cells (bK u))]) (r:=(fun p=>if p=1017 then 17 else if p=1014 then 14 else if p=1015 then 15 else p)) (G':=[(5,.ptr 1017 _ 0),(36,pL 7 eN u.fns),(37,.int .i64 (u.fns.length:Nat)),(38,.int .i64 0)]) (S':=Uc u (ia u lib lib.length) _ _ _ [] 0 [] 0) (.cons rfl (.Hs _ _ _ _) (.cons rfl (.refl _) (.cons rfl (.refl _) (.cons rfl (.refl _) .nil)))) (s7.zs (.cons rfl (.cons rfl .nil)) (.cons rfl rfl (.cells _ _ (.cons _ _ _ _ (.refl _) (.cons _ _ _ _ (.refl _) (.cons _ _ _ _ (.refl _) (.cons _ _ _ _ (.gC _ _ _ _ rfl) (.cons _ _ _ _ (.PX _ _ _) (.cons _ _ _ _ (.PX _ _ _) .nil))))))) (.cons rfl rfl (.refl _) (.cons rfl rfl (.refl _) .nil))) [1017,1014,1015] rfl (by decide)) ?_
 refine aD (ι:=Nat×jj×Nat) (fun q=>[(5,.ptr 1017 _ 0),(36,pL 7 eN u.fns),(37,.int .i64 (u.fns.length:Nat)),(38,.int .i64 (q.1:Nat))]) (fun q=>Uc u (ia u lib lib.length) _ _ _ q.2.1 q.2.2 [] 0) (fun q=>q.1<=u.fns.length/\fB u (ia u lib lib.length) q.1 q.2.1 q.2.2/\ ∀i,i<q.1->(ia u lib lib.length) (el u.fns i).cls=some (.bool true)->Jd q.2.1 (i:Nat)) (fun q=>u.fns.length-q.1) (0,[],0) ⟨Nat.zero_le _,⟨fun e he=>(by cases he),List.nodup_nil,List.nodup_nil⟩,fun i hi=>by dsimp only at hi;omega⟩ (.cons rfl (.refl _) (.cons rfl (.refl _) (.cons rfl (.refl _) (.cons rfl (.refl _) (.nil))))) (.cons rfl (.refl _) (.cons rfl (.refl _) (.cons rfl (.refl _) (.nil)))) ?_
 rintro⟨j,l,ck⟩ ⟨hj2,he,hall⟩
 dsimp only at hj2 he hall⊢
 repeat'(first|refine pg ?_|refine af ?_|refine ad ?_|refine ah ?_|(refine ak ?_;intro hl)|(refine ai ?_;intro b)|(refine aw ?_ ?_<;>intro hc<;>try first|contradiction|omega)|refine aj ?_|refine aA ?_|refine au ?_|refine ay ?_|refine aU ?_|refine aX ?_|refine pd ?_|refine fy.mk rfl ?_|refine aI ?_|(refine qH (fun v hv=>?_) (fun hv=>?_);(obtain rfl:=Jy hv))|refine JK ?_ (fB.new he)|(refine mj ?_;intro i61)|refine pc ?_|refine pt ?_|refine pb ?_|refine bB ?_|refine bc ?_|refine bC sd hnt ?_|refine dD ?_|refine ft ?_)
 ·exact⟨(j+1,_,_),by dsimp only;omega,⟨by dsimp only;omega,he.add hv,fun i hi hl=>by
    by_cases e:i=j
    ·subst e;exact⟨_,List.mem_append_right _ (List.mem_singleton.2 rfl),rfl⟩
    ·obtain⟨x,h1,h2⟩:=hall i (by dsimp only at hi;omega) hl
     exact⟨x,List.mem_append_left _ h1,h2⟩⟩,(.cons rfl (.refl _) (.cons rfl (.refl _) (.cons rfl (.refl _) (.cons rfl (.refl _) (.nil))))),(.cons rfl (.refl _) (.cons rfl (.refl _) (.cons rfl (.refl _) (.nil))))⟩
 ·exact⟨(j+1,l,ck),by dsimp only;omega,⟨by dsimp only;omega,he.up,fun i hi hl=>by
    by_cases e:i=j
    ·subst e;rw[hv]at hl;cases hl
    ·exact hall i (by dsimp only at hi;omega) hl⟩,(.cons rfl (.refl _) (.cons rfl (.refl _) (.cons rfl (.refl _) (.cons rfl (.refl _) (.nil))))),(.cons rfl (.refl _) (.cons rfl (.refl _) (.cons rfl (.refl _) (.nil))))⟩
 obtain rfl:j=u.fns.length:=by omega
 have hB:uC u (ia u lib lib.length) l:=fun i ⟨T,hT,hi⟩=>hall i (hT i hi).1 (hT i hi).2.1
 refine kn (ι:=jj×Bool) (fun q=>[(5,.ptr 1017 _ 0),(10,.bool q.2)]) (fun q=>Uc u (ia u lib lib.length) _ _ _ q.1 ck [] 0) (fun q=>fB u (ia u lib lib.length) u.fns.length q.1 ck/\uC u (ia u lib lib.length) q.1/\(q.2=false-> ∀e∈q.1,¬Ha (ia u lib lib.length) (dn q.1) u e.1.toNat)) (fun q=>if q.2=true then q.1.length+1 else 0) (l,true) ⟨he,hB,fun q=>by cases q⟩ [] (fun p=>p) (.cons rfl (.refl _) (.cons rfl (.refl _) .nil)) (b9.zs .nil (.cons rfl rfl (.refl _) (.cons rfl rfl (.refl _) (.cons rfl rfl (.refl _) .nil)))) ?_
 clear he hB hall
 rintro⟨l0,ag⟩ ⟨he0,hB0,hs0⟩
 dsimp only at he0 hB0 hs0⊢
 rcases ag with _|_
 ·repeat'(first|refine pg ?_|refine af ?_|refine ad ?_|refine ah ?_|(refine ak ?_;intro hl)|(refine ai ?_;intro b)|(refine aw ?_ ?_<;>intro hc<;>try first|contradiction|omega)|refine aj ?_|refine aA ?_|refine au ?_|refine ay ?_|refine aU ?_|refine pc ?_|refine pt ?_|refine pb ?_|refine bB ?_|refine bc ?_|refine bC sd hnt ?_|refine dD ?_|refine ft ?_)
  exact⟨Or.inr rfl,⟨trivial,trivial⟩,_,rfl,[(1017,some _,.cells (MI u (ia u lib lib.length) _ _))],fun p=>p,[(1014,some _,.dA l0 ck),(1015,some _,.dA [] 0)],_,b9.zs (.cons rfl .nil) (.cons rfl rfl (.refl _) (.cons rfl rfl (.refl _) .nil)),.ptr _ _ _ _ _ rfl (dH.refl _),k _ _ _ _ he0 (hB0.eq he0 (hs0 rfl))⟩
 repeat'(first|refine pg ?_|refine af ?_|refine ad ?_|refine ah ?_|(refine ak ?_;intro hl)|(refine ai ?_;intro b)|(refine aw ?_ ?_<;>intro hc<;>try first|contradiction|omega)|refine aj ?_|refine aA ?_|refine au ?_|refine ay ?_|refine aU ?_|(refine mj ?_;intro i61)|refine pc ?_|refine pt ?_|refine pb ?_|refine bB ?_|refine bc ?_|refine bC sd hnt ?_|refine dD ?_|refine ft ?_)
 refine kn (ι:=jj×List Nat×Bool) (fun q=>[(5,.ptr 1017 _ 0),(10,.bool q.2.2),(61,.ptr 61 i61 0)]) (fun q=>(61,some i61,.iter _ ck q.2.1 ck)::Uc u (ia u lib lib.length) _ _ _ q.1 ck [] 0) (fun q=>fB u (ia u lib lib.length) u.fns.length q.1 ck/\uC u (ia u lib lib.length) q.1/\(q.2.2=true->q.1.length+1<=l0.length)/\(q.2.2=false->q.1=l0/\ ∀e∈l0,e.2.2∈q.2.1-> ¬Ha (ia u lib lib.length) (dn l0) u e.1.toNat)) (fun q=>gX q.1 q.2.1) (l0,[],false) ⟨he0,hB0,fun q=>(by cases q),fun _=>⟨rfl,fun e _ he=>(by cases he)⟩⟩ [] (fun p=>p) (.cons rfl (.refl _) (.cons rfl (.refl _) (.cons rfl (.refl _) .nil))) (b9.zs .nil (.cons rfl rfl (.refl _) (.cons rfl rfl (.refl _) (.cons rfl rfl (.refl _) (.cons rfl rfl (.refl _) .nil))))) ?_
 rintro⟨l,seen,ag⟩ ⟨he,hB,g1,g2⟩
 dsimp only at he hB g1 g2⊢
 repeat'(first|refine pg ?_|refine af ?_|refine ad ?_|refine ah ?_|(refine ak ?_;intro hl)|(refine ai ?_;intro b)|(refine aw ?_ ?_<;>intro hc<;>try first|contradiction|omega)|refine aj ?_|refine aA ?_|refine au ?_|refine ay ?_|refine aU ?_|refine pc ?_|refine pt ?_|refine pb ?_|refine bB ?_|refine bc ?_|refine bC sd hnt ?_|refine dD ?_|refine ft ?_)
 refine uI (p:=61) (q:=1014) sd hnt (fun hdone=>?_) (fun g v st hm hns=>?_) (fun e he2=>(he.key e he2).2.1) (Nat.le_refl _) rfl rfl
 ·repeat'(first|refine pg ?_|refine af ?_|refine ad ?_|refine ah ?_|(refine ak ?_;intro hl)|(refine ai ?_;intro b)|(refine aw ?_ ?_<;>intro hc<;>try first|contradiction|omega)|refine aj ?_|refine aA ?_|refine au ?_|refine ay ?_|refine aU ?_|refine pc ?_|refine pt ?_|refine pb ?_|refine bB ?_|refine bc ?_|refine bC sd hnt ?_|refine dD ?_|refine ft ?_)
  refine⟨(l,ag),?_,⟨he,hB,fun q=>?_⟩,[],fun p=>p,(.cons rfl (.refl _) (.cons rfl (.refl _) .nil)),(b9.zs .nil (.cons rfl rfl (.refl _) (.cons rfl rfl (.refl _) (.cons rfl rfl (.refl _) .nil))))⟩
  ·dsimp only
   rcases ag with _|_
   ·simp
   ·have:=g1 rfl;simp;omega
  ·obtain⟨w1,w2⟩:=g2 q
   dsimp only at w1 w2⊢
   subst w1;exact fun e h=>w2 e h (hdone e h)
 have hk:=he.key _ hm
 dsimp only at hk
 obtain⟨rfl,hst,i,hi,rfl,hlf⟩:=hk
 have hun:=lE he hm hns
 repeat'(first|refine pg ?_|refine af ?_|refine ad ?_|refine ah ?_|(refine ak ?_;intro hl)|(refine ai ?_;intro b)|(refine aw ?_ ?_<;>intro hc<;>try first|contradiction|omega)|refine aj ?_|refine aA ?_|refine au ?_|refine ay ?_|refine aU ?_|refine qR (q:=1014) ?_|(refine dJ (DB (cf:=dn l) (ff:=dn []) (n:=i) hi cg AK (fun c v h=>⟨true,Jy h⟩) (fun g v h=>⟨true,he.b g v h⟩) hcl (fun hop=>⟨rfl,?_⟩) fun hop=>⟨rfl,?_⟩) rfl rfl rfl (.cons _ _ _ _ (.ptr _ _ _ _ _ rfl (.cons _ _ _ _ (.refl _) (.cons _ _ _ _ (.refl _) (.cons _ _ _ _ (.refl _) (.cons _ _ _ _ (.refl _) (.cons _ _ _ _ (.MX _ _ _ _ l rfl rfl (dH.refl _)) (.cons _ _ _ _ (.MX _ _ _ _ [] rfl rfl .nil) .nil))))))) (.cons _ _ _ _ (.refl _) .nil)))|refine MY ?_ (he.get.2 ⟨_,hm,rfl⟩)|refine pc ?_|refine pt ?_|refine pb ?_|refine bB ?_|refine bc ?_|refine bC sd hnt ?_|refine dD ?_|refine ft ?_)
 ·have hd:=he.del ((i:Nat):Int)
  have hdl:=BG (l:=l) (g:=((i:Nat):Int)) ⟨_,hm,rfl⟩
  have hus:gX (jd ((i:Nat):Int) l) (seen++[st])<=gX l (seen++[st]):=DY jL
  refine⟨(jd ((i:Nat):Int) l,seen++[st],true),by dsimp only;omega,⟨hd,hB.del he hop,fun _=>?_,fun q=>(by cases q)⟩,[],fun p=>p,(.cons rfl (.refl _) (.cons rfl (.refl _) (.cons rfl (.refl _) .nil))),(b9.zs .nil (.cons rfl rfl (.refl _) (.cons rfl rfl (.refl _) (.cons rfl rfl (.refl _) (.cons rfl rfl (.refl _) .nil)))))⟩
  dsimp only
  rcases ag with _|_
  ·rw[<-(g2 rfl).1];omega
  ·have:=g1 rfl;omega
 ·refine⟨(l,seen++[st],ag),by dsimp only;omega,⟨he,hB,g1,fun q=>?_⟩,[],fun p=>p,(.cons rfl (.refl _) (.cons rfl (.refl _) (.cons rfl (.refl _) .nil))),(b9.zs .nil (.cons rfl rfl (.refl _) (.cons rfl rfl (.refl _) (.cons rfl rfl (.refl _) (.cons rfl rfl (.refl _) .nil)))))⟩
  obtain⟨w1,w2⟩:=g2 q
  dsimp only at w1 w2⊢
  subst w1
  refine⟨rfl,fun e he3 hse=>?_⟩
  rcases List.mem_append.1 hse with w|w
  ·exact w2 e he3 w
  ·have:e=(((i:Nat):Int),PV.bool true,st):=by
     refine gq he.ns he3 hm ?_
     exact List.mem_singleton.1 w
   rw[this];exact hop
end Go.Proofs.YtemehfgkfidgjaaGreatDoor.Ev
