/- CoverStates, part 35 -/
import Derived.Test.YtemehfgkfidgjaaGreatDoorClX
import Derived.Test.YtemehfgkfidgjaaGreatDoorNdI
set_option linter.all false
set_option maxHeartbeats 4000000
namespace Go.Proofs.YtemehfgkfidgjaaGreatDoor.Ev
open Go
open Classical
structure Jv (u:aF)(lf:List Nat->Option PV)(i:Nat)(x:cU):Prop where
 cls:x.cls=(el u.fns i).cls
 gP:x.gP=(el u.fns i).name
 sig:x.sig=jH u.cl (el u.fns i).cls (el u.fns i).name
 VI:x.closed=true↔tY u lf i
 fl:x.c8.length<=4000000
structure qM (u:aF)(lf:List Nat->Option PV)(j:Nat)(L:List cU):Prop where
 all: ∀x∈L,∃i,i<j/\lf (el u.fns i).cls=some (.bool true)/\Jv u lf i x
 ex: ∀i,i<j->lf (el u.fns i).cls=some (.bool true)-> ∃x∈L,Jv u lf i x
theorem qM.add {u:aF}{lf:List Nat->Option PV}{j:Nat}{L:List cU}(h:qM u lf j L){x:cU}(hl:lf (el u.fns j).cls=some (.bool true))(hx:Jv u lf j x):qM u lf (j+1) (L++[x]):=⟨fun y hy=>by
 rcases List.mem_append.1 hy with q|q
 ·obtain⟨i,h1,h2⟩:=h.all y q;exact⟨i,by omega,h2⟩
 ·rw[List.mem_singleton.1 q];exact⟨j,Nat.lt_succ_self j,hl,hx⟩,fun i hi hl2=>by
 by_cases e:i=j
 ·subst e;exact⟨x,List.mem_append_right _ (List.mem_singleton.2 rfl),hx⟩
 ·obtain⟨y,h1,h2⟩:=h.ex i (by omega) hl2
  exact⟨y,List.mem_append_left _ h1,h2⟩⟩
theorem qM.skip {u:aF}{lf:List Nat->Option PV}{j:Nat}{L:List cU}(h:qM u lf j L)(hl:lf (el u.fns j).cls=none):qM u lf (j+1) L:=⟨fun y hy=>by
 obtain⟨i,h1,h2⟩:=h.all y hy;exact⟨i,by omega,h2⟩,fun i hi hl2=>by
 by_cases e:i=j
 ·subst e;rw[hl]at hl2;cases hl2
 ·exact h.ex i (by omega) hl2⟩
theorem qM.perm {u:aF}{lf:List Nat->Option PV}{j:Nat}{L M:List cU}(h:qM u lf j L)(hp:M.Perm L):qM u lf j M:=⟨fun y hy=>h.all y (hp.mem_iff.1 hy),fun i hi hl=>by
 obtain⟨x,h1,h2⟩:=h.ex i hi hl;exact⟨x,hp.mem_iff.2 h1,h2⟩⟩
theorem Hk {dr:Prop}{P:Program}{ng f:Nat}{args:List PV}{L:aJ}{K:PV->aJ->Prop}(K0:PV->aJ->Prop)(hL: ∀p x,aC L p=some x->p<1000)(w:tB dr P ng f args [] fun v S'=>wS S'/\K0 v S')(hk: ∀v S1,K0 v S1->K v (L++S1)):tB dr P ng f args L K:=by
 have:=Bp (L:=L) (S0:=[]) hL (fun p _=>rfl) w hk
 rwa [List.append_nil]at this
theorem Jw {L:aJ}(h: ∀p∈L.map (·.1),p<1000): ∀p x,aC L p=some x->p<1000:=fun p x e=>h p (mh e)
theorem tI {i14 i15 ck mk:Nat}{l m:jj}{fs:List dz}:wS (DM i14 i15 l ck m mk fs):=fun p hp=>by
 cases e:aC (DM i14 i15 l ck m mk fs) p with
 |none=>rfl
 |some y=>
  rw[aH,if_neg (by omega),aH,if_neg (by omega)]at e
  obtain⟨x,_,rfl,_⟩:=oR e
  omega
theorem PQ {L Z:aJ}(hL: ∀p y,aC L p=some y->p<1000)(hZ:wS Z):ZS Z (fun p=>p) (L++Z) L:=⟨fun q x e=>(by
 rw[de]
 cases hl:aC L q with
 |none=>exact e
 |some y=>have:=hZ q (hL q y hl);rw[e]at this;cases this),fun p id d e hd=>⟨hZ p (hL p _ e),d,by rw[de,e],.refl _⟩,fun p q _ _ _ _ _ _ _ e=>e⟩
theorem kX {l:List (List Nat)}{K:PV->aJ->Prop}(hl:l.length*16<=140737488355328)(k: ∀aT,K (oL 5 aT 1 l) [(5,aT,aL 1 pS l)]):sc Tryz.prog X0 Mx 50 [pL 1 pS l] [] K:=by
 have hnt:(8:Nat)<=1000000:=by decide
 refine lz (qN fY (bg _) (by simp) hnt ?_)
 repeat'(first|refine pg ?_|refine af ?_|(refine y7 (fun hc=>?_) ?_)|(refine bb ?_;intro b)|(refine y8 (f:=pS) ?_;intro od1 hod)|refine pc ?_|refine pt ?_)
 ·obtain rfl:l=[]:=List.length_eq_zero_iff.1 hc
  exact⟨Or.inr rfl,⟨trivial,trivial⟩,_,rfl,[],fun p=>p,[(5,none,aL 1 pS [])],_,b9.zs .nil (.kR .nil),.kR 5 1,k none⟩
 ·exact⟨Or.inr rfl,⟨trivial,trivial⟩,_,rfl,[],fun p=>p,[(5,od1,aL 1 pS l)],_,b9.zs .nil (.cons rfl rfl (.refl _) .nil),.refl _,k od1⟩
theorem s5 {cl:List aN}{c m:List Nat}{K:PV->aJ->Prop}(hpm: ∀x∈cl,∀t∈x.methods,t.params.length*16<=140737488355328)(k: ∀aT,K (.agg [.str (jH cl c m).name,.bool (jH cl c m).static,oL 5 aT 1 (jH cl c m).params,.str (jH cl c m).result]) [(5,aT,aL 1 pS (jH cl c m).params)]):sc Tryz.prog X0 Mx 44 [.agg (aY cl),.str c,.str m] [] K:=by
 have hnt:(38:Nat)<=1000000:=by decide
 refine lz (qN s6 (bg _) (by simp) hnt ?_)
 unfold jH at k
 have hfl:=dC (l:=bH cl) (s:=c)
 have hnl:(bH cl).length=cl.length:=List.length_map _
 repeat'(first|refine pg ?_|refine af ?_|refine ad ?_|refine ah ?_|(refine ak ?_;intro hl)|(refine ai ?_;intro b)|(refine aw ?_ ?_<;>intro hc<;>try first|contradiction|omega)|refine aj ?_|refine bA ?_|refine aA ?_|refine au ?_|refine ay ?_|refine aU ?_|refine ae (aa (dm ?_))|refine aI ?_|refine pc ?_|refine pt ?_|refine pb ?_)
 ·rw[if_pos (by assumption)]at k
  exact⟨Or.inr rfl,⟨rfl,trivial⟩,_,rfl,[],fun p=>p,[(5,none,aL 1 pS _)],_,b9.zs .nil (.kR .nil),(.agg _ _ (.cons _ _ _ _ (.refl _) (.cons _ _ _ _ (.refl _) (.cons _ _ _ _ (.kR 5 1) (.cons _ _ _ _ (.refl _) .nil))))),k none⟩
 rw[if_neg (by assumption)]at k
 have hcl:(aO (bH cl) c).toNat<cl.length:=by omega
 refine aD (fun j:Nat=>[(2,.str m),(6,.ptr 6 _ 0),(21,pL 4 cb (el cl (aO (bH cl) c).toNat).methods),(22,.int .i64 ((el cl (aO (bH cl) c).toNat).methods.length:Nat)),(23,.int .i64 j)]) (fun _=>[(6,some _,.cells [.str [],.bool false,.aE,.str []])]) (fun j=>j<=(el cl (aO (bH cl) c).toNat).methods.length/\ ∀i,i<j-> ¬(el (el cl (aO (bH cl) c).toNat).methods i).name=m) (fun j=>(el cl (aO (bH cl) c).toNat).methods.length-j) 0 ⟨Nat.zero_le _,fun i hi=>absurd hi (by omega)⟩ (.cons rfl (.refl _) (.cons rfl (.refl _) (.cons rfl (.refl _) (.cons rfl (.refl _) (.cons rfl (.refl _) (.nil)))))) (.cons rfl (.refl _) (.nil)) ?_
 rintro j ⟨hj,hb⟩
 repeat'(first|refine pg ?_|refine af ?_|refine ad ?_|refine ah ?_|(refine ak ?_;intro hl)|(refine ai ?_;intro b)|(refine aw ?_ ?_<;>intro hc<;>try first|contradiction|omega)|refine aj ?_|refine bA ?_|refine aA ?_|refine au ?_|refine ay ?_|refine aU ?_|refine aI ?_|(refine ae (Hl 5 (K0:=fun v aT b=>v=oL 5 aT 1 (el (el cl (aO (bH cl) c).toNat).methods j).params/\b=aL 1 pS (el (el cl (aO (bH cl) c).toNat).methods j).params) (kX (hpm _ (ba hcl) _ (ba (by omega))) fun aT=>⟨aT,_,rfl,rfl,rfl⟩) ?_);rintro v oid5 b5 ⟨rfl,rfl⟩)|refine pc ?_|refine pt ?_|refine pb ?_)
 ·have hs:fA (el cl (aO (bH cl) c).toNat) m=some (el (el cl (aO (bH cl) c).toNat).methods j):=lA (show j<(el cl (aO (bH cl) c).toNat).methods.length by omega) (by rw[if_pos (by assumption)]) fun i hi=>by rw[if_neg (hb i hi)]
  rw[hs]at k
  exact⟨Or.inr rfl,⟨rfl,trivial⟩,_,rfl,[],fun p=>p,[(5,oid5,aL 1 pS _)],_,b9.zs .nil (.cons rfl rfl (.refl _) .nil),.refl _,k oid5⟩
 ·refine⟨j+1,by dsimp only;omega,⟨by omega,fun i hi=>?_⟩,(.cons rfl (.refl _) (.cons rfl (.refl _) (.cons rfl (.refl _) (.cons rfl (.refl _) (.cons rfl (.refl _) (.nil)))))),(.cons rfl (.refl _) (.nil))⟩
  by_cases q:i=j
  ·subst q;assumption
  ·exact hb i (by omega)
 ·have hs:fA (el cl (aO (bH cl) c).toNat) m=none:=lB fun i hi=>by rw[if_neg (hb i (by omega))]
  rw[hs]at k
  exact⟨Or.inr rfl,⟨rfl,trivial⟩,_,rfl,[],fun p=>p,[(5,none,aL 1 pS _)],_,b9.zs .nil (.kR .nil),(.agg _ _ (.cons _ _ _ _ (.refl _) (.cons _ _ _ _ (.refl _) (.cons _ _ _ _ (.kR 5 1) (.cons _ _ _ _ (.refl _) .nil))))),k none⟩
theorem DJ {dr:Prop}{ng:Nat}(sd:Sd dr Tryz.prog ng X0 Mx){u:aF}{lib:List (List Nat)}{K:PV->aJ->Prop}(hs1:si dr Tryz.prog ng 100 88 2 qw)(hs2:si dr Tryz.prog ng 46 47 8 gG)(ur:Sg u)(fX:qu u=0)(hpm: ∀x∈u.cl,∀t∈x.methods,t.params.length*16<=140737488355328)(hl1: ∀j,j<lib.length->0<=aO (bH u.cl) (el lib j))(hl2: ∀j,j<lib.length-> ¬el lib j∈lib.take j)(k: ∀L,qM u (ia u lib lib.length) u.fns.length L->K (.bn [.agg (jv ⟨1,L⟩),.int .i64 0]) []):tB dr Tryz.prog ng 15 [.agg (bK u),pL 1 pS lib] [] K:=by
 have hnt:(104:Nat)<=1000000:=by decide
 refine ly (Bl sd Bf hnt ?_)
 unfold uv
 repeat'(first|refine pg ?_|refine af ?_|(refine aG ?_ ?_<;>intro hc<;>try contradiction)|refine ad ?_|refine ah ?_|(refine ak ?_;intro hl)|(refine ai ?_;intro b)|(refine aw ?_ ?_<;>intro hc<;>try first|contradiction|omega)|refine aj ?_|refine aA ?_|refine au ?_|refine ay ?_|refine aU ?_|(refine ae (aa (ux fun a1 b1=>?_)))|refine pc ?_|refine pt ?_|refine pb ?_|refine bB ?_|refine bc ?_|refine bC sd hnt ?_|refine en sd ?_|refine dD ?_|refine ft ?_)
 refine aD (fun j:Nat=>[(1,pL 1 pS lib),(2,.ptr 2 _ 0),(4,.ptr 4 _ 0),(26,pL 1 pS lib),(27,.int .i64 (lib.length:Nat)),(28,.int .i64 (j:Nat))]) (fun j=>[(2,some _,.cells (bK u)),(4,some _,.cells [.int .i64 0,.aE])]) (fun j=>j<=lib.length) (fun j=>lib.length-j) 0 (Nat.zero_le _) (.cons rfl (.refl _) (.cons rfl (.refl _) (.cons rfl (.refl _) (.cons rfl (.refl _) (.cons rfl (.refl _) (.cons rfl (.refl _) (.nil))))))) (.cons rfl (.refl _) (.cons rfl (.refl _) (.nil))) ?_
 rintro j hj
 rcases Nat.lt_or_ge j lib.length with hjl|hjl
 ·have hf1:=hl1 j hjl
  have hf2:=hl2 j hjl
  repeat'(first|refine pg ?_|refine af ?_|(refine aG ?_ ?_<;>intro hc<;>try contradiction)|refine ad ?_|refine ah ?_|(refine ak ?_;intro hl)|(refine ai ?_;intro b)|(refine aw ?_ ?_<;>intro hc<;>try first|contradiction|omega)|refine aj ?_|refine aA ?_|refine au ?_|refine ay ?_|refine aU ?_|(refine bz (us:=aY u.cl) ?_ rfl rfl ⟨by show 0+0+1<=3;decide,rfl⟩)|refine ae (aa (dm ?_))|(refine uo (f:=pS) j ?_)|(refine ae (aa (dw (fun hc=>?_) fun hc=>?_)))|refine pc ?_|refine pt ?_|refine pb ?_|refine bB ?_|refine bc ?_|refine bC sd hnt ?_|refine en sd ?_|refine dD ?_|refine ft ?_)
  ·exact absurd hc hf2
  ·exact⟨j+1,by dsimp only;omega,by dsimp only;omega,(.cons rfl (.refl _) (.cons rfl (.refl _) (.cons rfl (.refl _) (.cons rfl (.refl _) (.cons rfl (.refl _) (.cons rfl (.refl _) (.nil))))))),(.cons rfl (.refl _) (.cons rfl (.refl _) (.nil)))⟩
 repeat'(first|refine pg ?_|refine af ?_|(refine aG ?_ ?_<;>intro hc<;>try contradiction)|refine ad ?_|refine ah ?_|(refine ak ?_;intro hl)|(refine ai ?_;intro b)|(refine aw ?_ ?_<;>intro hc<;>try first|contradiction|omega)|refine aj ?_|refine aA ?_|refine au ?_|refine ay ?_|refine aU ?_|refine mg sd hnt ?_|refine pc ?_|refine pt ?_|refine pb ?_|refine bB ?_|refine bc ?_|refine bC sd hnt ?_|refine en sd ?_|refine dD ?_|refine ft ?_)
 refine⟨_,rfl,Hk (fun v S1=> ∃i14 i15 l ck,fB u (ia u lib lib.length) u.fns.length l ck/\(∀g,Jd l g↔ ∃i:Nat,g=i/\tY u (ia u lib lib.length) i)/\v= .fp (MI u (ia u lib lib.length) i14 i15) 0/\S1=DM i14 i15 l ck [] 0 []) (Jw fun p hp=>by simp only[List.map_cons,List.map_nil,List.mem_cons,List.not_mem_nil,or_false]at hp;omega) (uB sd ur.cg ur.AK (fun i hi=>Nat.le_trans (ur.cl i hi) (by decide)) fun i14 i15 l ck he hc=>⟨tI (fs:=[]),i14,i15,l,ck,he,hc,rfl,rfl⟩) ?_⟩
 rintro v S1 ⟨i14,i15,l,ck,he,hcN,rfl,rfl⟩
 repeat'(first|refine pg ?_|refine af ?_|(refine aG ?_ ?_<;>intro hc<;>try contradiction)|refine ad ?_|refine ah ?_|(refine ak ?_;intro hl)|(refine ai ?_;intro b)|(refine aw ?_ ?_<;>intro hc<;>try first|contradiction|omega)|refine aj ?_|refine aA ?_|refine au ?_|refine ay ?_|refine aU ?_|refine mg sd hnt ?_|refine pc ?_|refine pt ?_|refine pb ?_|refine bB ?_|refine bc ?_|refine bC sd hnt ?_|refine en sd ?_|refine dD ?_|refine ft ?_)
 refine⟨_,rfl,Bp (L:=[(2,_),(4,_)]) (S0:=DM i14 i15 l ck [] 0 []) (K0:=fun v S1=> ∃fs mk seen,(∀e∈l,e.2.2∈seen)/\Dm u l seen fs/\S1=O8 i14 i15 l ck fs mk) (Jw fun p hp=>by simp only[List.map_cons,List.map_nil,List.mem_cons,List.not_mem_nil,or_false]at hp;omega) (tI (fs:=[])) (Bq sd ur he (fun e h=>by obtain⟨i,h1,h2⟩:=(hcN e.1).1 ⟨e,h,rfl⟩;rw[h1,Int.toNat_natCast];exact uC.keep he (fun i hi=>(hcN _).2 ⟨i,rfl,hi⟩) h2) fun fs mk seen h1 h2=>⟨tI,fs,mk,seen,h1,h2,rfl⟩) ?_⟩
 rintro v S1 ⟨fs,mk,seen,hdone,hI,rfl⟩
 refine pg ?_
 refine dD ?_
 refine y9 (Z:=O8 i14 i15 l ck fs mk) (r:=fun p=>p) (G':=[(2,.ptr 2 _ 0),(4,.ptr 4 _ 0),(11,(.fp (eU u (ia u lib lib.length) (dn l) (dn (fs.map wT))) 0))]) (S':=[(2,_),(4,_)]) (.cons rfl (.refl _) (.cons rfl (.refl _) (.cons rfl (Jx rfl rfl fun x hx=>dL (pre:=[]) (oS fun p hp=>by cases hp) hI.nd hx) .nil))) (PQ (Jw fun p hp=>by simp only[List.map_cons,List.map_nil,List.mem_cons,List.not_mem_nil,or_false]at hp;omega) tI) ?_
 repeat'(first|refine pg ?_|refine af ?_|(refine aG ?_ ?_<;>intro hc<;>try contradiction)|refine ad ?_|refine ah ?_|(refine ak ?_;intro hl)|(refine ai ?_;intro b)|(refine aw ?_ ?_<;>intro hc<;>try first|contradiction|omega)|refine aj ?_|refine aA ?_|refine au ?_|refine ay ?_|refine aU ?_|refine aI ?_|refine pc ?_|refine pt ?_|refine pb ?_|refine bB ?_|refine bc ?_|refine bC sd hnt ?_|refine en sd ?_|refine dD ?_|refine ft ?_)
 refine kn (ι:=Nat×Option Nat×List cU) (fun q=>[(2,.ptr 2 _ 0),(4,.ptr 4 _ 0),(11,(.fp (eU u (ia u lib lib.length) (dn l) (dn (fs.map wT))) 0)),(12,.ptr 12 _ 0),(53,pL 7 eN u.fns),(54,.int .i64 (u.fns.length:Nat)),(55,.int .i64 (q.1:Nat))]) (fun q=>[(2,some _,.cells (bK u)),(4,some _,.cells [.int .i64 0,.aE]),(12,some _,.cells [.int .i64 1,oL 97 q.2.1 8 q.2.2]),(97,q.2.1,aL 8 gG q.2.2)]) (fun q=>q.1<=u.fns.length/\qM u (ia u lib lib.length) q.1 q.2.2/\(q.2.2=[]->q.2.1=none)/\q.2.2.length<=q.1) (fun q=>u.fns.length-q.1) (0,none,[]) ⟨Nat.zero_le _,⟨fun x hx=>(by cases hx),fun i hi=>by dsimp only at hi;omega⟩,fun _=>rfl,Nat.le_refl _⟩ [] (fun p=>p) (.cons rfl (.refl _) (.cons rfl (.refl _) (.cons rfl (.refl _) (.cons rfl (.refl _) (.cons rfl (.refl _) (.cons rfl (.refl _) (.cons rfl (.refl _) .nil))))))) (b9.zs .nil (.cons rfl rfl (.refl _) (.cons rfl rfl (.refl _) (.cons rfl rfl (.cells _ _ (.cons _ _ _ _ (.refl _) (.cons _ _ _ _ (.kR 97 8) .nil))) (.kR .nil))))) ?_
 rintro⟨j2,aT,L⟩ ⟨hj2,hE,hz,hLl⟩
 dsimp only at hj2 hE hz hLl⊢
 have hfn:=ur.fn
 repeat'(first|refine pg ?_|refine af ?_|(refine aG ?_ ?_<;>intro hc<;>try contradiction)|refine ad ?_|refine ah ?_|(refine ak ?_;intro hl)|(refine ai ?_;intro b)|(refine aw ?_ ?_<;>intro hc<;>try first|contradiction|omega)|refine aj ?_|refine aA ?_|refine au ?_|refine ay ?_|refine aU ?_|refine aX ?_|refine pd ?_|refine fy.mk rfl ?_|refine aI ?_|(refine qH (fun v hv=>?_) (fun hv=>?_);(obtain rfl:=Jy hv))|(refine VK (T:=5) (s5 hpm fun oid5=>⟨oid5,_,_,1,rfl,rfl,fun _ _=>rfl,?_⟩))|(refine xU (fun v hv2=>?_) (fun hv2=>?_);(obtain rfl:=he.b _ _ hv2))|(refine bz (us:=aY u.cl) ?_ rfl rfl ⟨by show 0+0+1<=3;decide,rfl⟩)|refine mg sd hnt ?_|refine AL ?_|refine pc ?_|refine pt ?_|refine pb ?_|refine bB ?_|refine bc ?_|refine bC sd hnt ?_|refine dD ?_|refine ft ?_)
 ·obtain⟨e,hem,hei⟩:=he.get.1 hv2
  obtain⟨x,hx,hex⟩:=hI.all e hem (hdone e hem)
  have hxi:x.i=j2:=by rw[hei]at hex;omega
  have hff:dn (fs.map wT) (j2:Nat)=some (.nC 2 (oT x.sn)):=by rw[<-hxi];exact oU (g:=fun y=> .nC 2 (oT y.sn)) hI.nd hx
  have hsp: ∀p,x.sn p=true->p∈Je (el u.fns j2):=by rw[<-hxi];exact hI.sup x hx
  obtain⟨i9,hi9,hcl9⟩:=(hcN _).1 (he.get.1 hv2)
  obtain rfl:j2=i9:=by omega
  refine en sd ?_
  repeat'(first|refine pg ?_|refine af ?_|(refine aG ?_ ?_<;>intro hc<;>try contradiction)|refine ad ?_|refine ah ?_|(refine ak ?_;intro hl)|(refine ai ?_;intro b)|(refine aw ?_ ?_<;>intro hc<;>try first|contradiction|omega)|refine aj ?_|refine aA ?_|refine au ?_|refine ay ?_|refine aU ?_|refine mg sd hnt ?_|refine pc ?_|refine pt ?_|refine pb ?_|refine bB ?_|refine bc ?_|refine bC sd hnt ?_|refine en sd ?_|refine ft ?_)
  refine⟨_,rfl,Bn (DN sd hs1 hff hsp (ur.pr j2 (by omega)) fun fl hfl=>?_)⟩
  repeat'(first|refine pg ?_|refine af ?_|(refine aG ?_ ?_<;>intro hc<;>try contradiction)|refine ad ?_|refine ah ?_|(refine ak ?_;intro hl)|(refine ai ?_;intro b)|(refine aw ?_ ?_<;>intro hc<;>try first|contradiction|omega)|refine aj ?_|refine aA ?_|refine au ?_|refine ay ?_|refine aU ?_|refine aI ?_|refine pc ?_|refine pt ?_|refine pb ?_|refine bB ?_|refine bc ?_|refine bC sd hnt ?_|refine en sd ?_|refine ft ?_)
  refine dD ?_
  generalize hy:(⟨(el u.fns j2).cls,(el u.fns j2).name,jH u.cl (el u.fns j2).cls (el u.fns j2).name,true,fl⟩:cU)=y
  refine y9 (Z:=[(5,oid5,aL 1 pS y.sig.params)]) (r:=fun p=>p) (G':=[(2,.ptr 2 _ 0),(4,.ptr 4 _ 0),(11,(.fp (eU u (ia u lib lib.length) (dn l) (dn (fs.map wT))) 0)),(12,.ptr 12 _ 0),(53,pL 7 eN u.fns),(54,.int .i64 (u.fns.length:Nat)),(55,.int .i64 (j2:Nat)),(15,.ptr 15 _ 0)]) (S':=[(2,_),(4,_),(12,_),(97,_),(15,some _,.cells (gG y))]) (.cons rfl (.refl _) (.cons rfl (.refl _) (.cons rfl (.refl _) (.cons rfl (.refl _) (.cons rfl (.refl _) (.cons rfl (.refl _) (.cons rfl (.refl _) (.cons rfl (.refl _) .nil)))))))) (by subst hy;exact b9.zs (.cons rfl .nil) (.cons rfl rfl (.refl _) (.cons rfl rfl (.refl _) (.cons rfl rfl (.refl _) (.cons rfl rfl (.refl _) (.cons rfl rfl (.cells _ _ (.cons _ _ _ _ (.refl _) (.cons _ _ _ _ (.refl _) (.cons _ _ _ _ (.refl _) (.cons _ _ _ _ (.refl _) (.cons _ _ _ _ cE (.cons _ _ _ _ (.refl _) (.cons _ _ _ _ (.refl _) (.cons _ _ _ _ (.refl _) .nil))))))))) .nil)))))) ?_
  repeat'(first|refine pg ?_|refine af ?_|(refine aG ?_ ?_<;>intro hc<;>try contradiction)|refine ad ?_|refine ah ?_|(refine ak ?_;intro hl)|(refine ai ?_;intro b)|(refine aw ?_ ?_<;>intro hc<;>try first|contradiction|omega)|refine aj ?_|refine aA ?_|refine au ?_|refine ay ?_|refine aU ?_|(refine bb ?_;intro b2)|(refine bV (f:=gG) y ?_;intro oid9)|refine aI ?_|refine pc ?_|refine pt ?_|refine pb ?_|refine bB ?_|refine bc ?_|refine bC sd hnt ?_|refine en sd ?_|refine dD ?_|refine ft ?_)
  have hEP:Jv u (ia u lib lib.length) j2 y:=by subst hy;exact⟨rfl,rfl,rfl,⟨fun _=>hcl9,fun _=>rfl⟩,hfl⟩
  exact⟨(j2+1,oid9,L++[y]),by dsimp only;omega,⟨by dsimp only;omega,hE.add hv hEP,fun q=>by simp at q,by dsimp only;rw[List.length_append,List.length_singleton];omega⟩,[],fun p=>p,(.cons rfl (.refl _) (.cons rfl (.refl _) (.cons rfl (.refl _) (.cons rfl (.refl _) (.cons rfl (.refl _) (.cons rfl (.refl _) (.cons rfl (.refl _) .nil))))))),(b9.zs .nil (.cons rfl rfl (.refl _) (.cons rfl rfl (.refl _) (.cons rfl rfl (.refl _) (.cons rfl rfl (.refl _) .nil)))))⟩
 ·have hcl9: ¬tY u (ia u lib lib.length) j2:=fun q=>iz.1 hv2 ((hcN _).2 ⟨j2,rfl,q⟩)
  refine en sd ?_
  repeat'(first|refine pg ?_|refine af ?_|(refine aG ?_ ?_<;>intro hc<;>try contradiction)|refine ad ?_|refine ah ?_|(refine ak ?_;intro hl)|(refine ai ?_;intro b)|(refine aw ?_ ?_<;>intro hc<;>try first|contradiction|omega)|refine aj ?_|refine aA ?_|refine au ?_|refine ay ?_|refine aU ?_|refine pc ?_|refine pt ?_|refine pb ?_|refine bB ?_|refine bc ?_|refine bC sd hnt ?_|refine en sd ?_|refine ft ?_)
  refine dD ?_
  generalize hy:(⟨(el u.fns j2).cls,(el u.fns j2).name,jH u.cl (el u.fns j2).cls (el u.fns j2).name,false,[]⟩:cU)=y
  refine y9 (Z:=[(5,oid5,aL 1 pS y.sig.params)]) (r:=fun p=>p) (G':=[(2,.ptr 2 _ 0),(4,.ptr 4 _ 0),(11,(.fp (eU u (ia u lib lib.length) (dn l) (dn (fs.map wT))) 0)),(12,.ptr 12 _ 0),(53,pL 7 eN u.fns),(54,.int .i64 (u.fns.length:Nat)),(55,.int .i64 (j2:Nat)),(15,.ptr 15 _ 0)]) (S':=[(2,_),(4,_),(12,_),(97,_),(15,some _,.cells (gG y))]) (.cons rfl (.refl _) (.cons rfl (.refl _) (.cons rfl (.refl _) (.cons rfl (.refl _) (.cons rfl (.refl _) (.cons rfl (.refl _) (.cons rfl (.refl _) (.cons rfl (.refl _) .nil)))))))) (by subst hy;exact b9.zs (.cons rfl .nil) (.cons rfl rfl (.refl _) (.cons rfl rfl (.refl _) (.cons rfl rfl (.refl _) (.cons rfl rfl (.refl _) (.cons rfl rfl (.cells _ _ (.cons _ _ _ _ (.refl _) (.cons _ _ _ _ (.refl _) (.cons _ _ _ _ (.refl _) (.cons _ _ _ _ (.refl _) (.cons _ _ _ _ cE (.cons _ _ _ _ (.refl _) (.cons _ _ _ _ (.refl _) (.cons _ _ _ _ (.aE _ _) .nil))))))))) .nil)))))) ?_
  repeat'(first|refine pg ?_|refine af ?_|(refine aG ?_ ?_<;>intro hc<;>try contradiction)|refine ad ?_|refine ah ?_|(refine ak ?_;intro hl)|(refine ai ?_;intro b)|(refine aw ?_ ?_<;>intro hc<;>try first|contradiction|omega)|refine aj ?_|refine aA ?_|refine au ?_|refine ay ?_|refine aU ?_|(refine bb ?_;intro b2)|(refine bV (f:=gG) y ?_;intro oid9)|refine aI ?_|refine pc ?_|refine pt ?_|refine pb ?_|refine bB ?_|refine bc ?_|refine bC sd hnt ?_|refine en sd ?_|refine dD ?_|refine ft ?_)
  have hEP:Jv u (ia u lib lib.length) j2 y:=by subst hy;exact⟨rfl,rfl,rfl,⟨fun q=>(by cases q),fun q=>absurd q hcl9⟩,by simp⟩
  exact⟨(j2+1,oid9,L++[y]),by dsimp only;omega,⟨by dsimp only;omega,hE.add hv hEP,fun q=>by simp at q,by dsimp only;rw[List.length_append,List.length_singleton];omega⟩,[],fun p=>p,(.cons rfl (.refl _) (.cons rfl (.refl _) (.cons rfl (.refl _) (.cons rfl (.refl _) (.cons rfl (.refl _) (.cons rfl (.refl _) (.cons rfl (.refl _) .nil))))))),(b9.zs .nil (.cons rfl rfl (.refl _) (.cons rfl rfl (.refl _) (.cons rfl rfl (.refl _) (.cons rfl rfl (.refl _) .nil)))))⟩
 ·exact⟨(j2+1,aT,L),by dsimp only;omega,⟨by dsimp only;omega,hE.skip hv,hz,by dsimp only;omega⟩,[],fun p=>p,(.cons rfl (.refl _) (.cons rfl (.refl _) (.cons rfl (.refl _) (.cons rfl (.refl _) (.cons rfl (.refl _) (.cons rfl (.refl _) (.cons rfl (.refl _) .nil))))))),(b9.zs .nil (.cons rfl rfl (.refl _) (.cons rfl rfl (.refl _) (.cons rfl rfl (.refl _) (.cons rfl rfl (.refl _) .nil)))))⟩
 ·obtain rfl:j2=u.fns.length:=by omega
  refine⟨_,rfl,hs2 97 aT L _ _ rfl hz (by omega) fun L2 hp=>?_⟩
  have hl2:L2.length=L.length:=hp.length_eq
  repeat'(first|refine pg ?_|refine af ?_|(refine aG ?_ ?_<;>intro hc<;>try contradiction)|refine ad ?_|refine ah ?_|(refine ak ?_;intro hl)|(refine ai ?_;intro b)|(refine aw ?_ ?_<;>intro hc<;>try first|contradiction|omega)|refine aj ?_|refine aA ?_|refine au ?_|refine ay ?_|refine aU ?_|refine aI ?_|refine pc ?_|refine pt ?_|refine pb ?_|refine bB ?_|refine bc ?_|refine bC sd hnt ?_|refine en sd ?_|refine dD ?_|refine ft ?_)
  exact⟨Or.inr rfl,⟨rfl,trivial,trivial⟩,_,rfl,[(97,aT,aL 8 gG L2)],fun p=>p,[],_,b9.zs (.cons rfl .nil) .nil,.bn _ _ (.cons _ _ _ _ (.agg _ _ (.cons _ _ _ _ (.refl _) (.cons _ _ _ _ (show Zf _ (PV.own 97 aT L.length 8) (pL 8 gG L2)from by rw[<-hl2];exact cE) .nil))) (.cons _ _ _ _ (.refl _) .nil)),k L2 (hE.perm hp)⟩
structure T0 (u:aF):Prop where
 fc: ∀i,i<u.fns.length->0<=aO (bH u.cl) (el u.fns i).cls
 uq: ∀i j,i<u.fns.length->j<u.fns.length->(el u.fns i).cls=(el u.fns j).cls->(el u.fns i).name=(el u.fns j).name->i=j
 sg: ∀i,i<u.fns.length->bE u.cl (el u.fns i).cls (el u.fns i).name=some ((el u.fns i).cls,jH u.cl (el u.fns i).cls (el u.fns i).name)
 pm: ∀x∈u.cl,∀t∈x.methods,t.params.length*16<=140737488355328
structure wE (u:aF)(E:List cU)(j:Nat)(C:List (List Nat)):Prop where
 mem: ∀s∈C,0<=aO (bH u.cl) s/\ ∃i,i<j/\(el E i).cls=s
 all: ∀i,i<j->0<=aO (bH u.cl) (el E i).cls->(el E i).cls∈C
 one: ∀i,i<C.length-> ¬el C i∈C.take i
 len:C.length<=j
theorem wE.keep {u:aF}{E:List cU}{j:Nat}{C:List (List Nat)}(h:wE u E j C)(hc:0<=aO (bH u.cl) (el E j).cls->(el E j).cls∈C):wE u E (j+1) C:=⟨fun s hs=>by
 obtain⟨h1,i,h2,h3⟩:=h.mem s hs;exact⟨h1,i,by omega,h3⟩,fun i hi q=>by
 by_cases e:i=j
 ·subst e;exact hc q
 ·exact h.all i (by omega) q,h.one,by have:=h.len;omega⟩
theorem wE.add {u:aF}{E:List cU}{j:Nat}{C:List (List Nat)}(h:wE u E j C)(hf:0<=aO (bH u.cl) (el E j).cls)(hn: ¬(el E j).cls∈C):wE u E (j+1) (C++[(el E j).cls]):=⟨fun s hs=>by
 rcases List.mem_append.1 hs with q|q
 ·obtain⟨h1,i,h2,h3⟩:=h.mem s q;exact⟨h1,i,by omega,h3⟩
 ·rw[List.mem_singleton.1 q];exact⟨hf,j,by omega,rfl⟩,fun i hi q=>by
 by_cases e:i=j
 ·subst e;exact List.mem_append_right _ (List.mem_singleton.2 rfl)
 ·exact List.mem_append_left _ (h.all i (by omega) q),fun i hi=>by
 rw[List.length_append,List.length_singleton]at hi
 rw[gW]
 by_cases e:i<C.length
 ·rw[if_pos e,List.take_append_of_le_length (by omega)];exact h.one i e
 ·rw[if_neg e,show i-C.length=0 by omega,show i=C.length by omega,List.take_append_of_le_length (Nat.le_refl _),List.take_length];exact hn,by
 have:=h.len
 rw[List.length_append,List.length_singleton];omega⟩
theorem MM {cl:List aN}(hpm: ∀x∈cl,∀t∈x.methods,t.params.length*16<=140737488355328)(c m:List Nat):(jH cl c m).params.length*16<=140737488355328:=by
 unfold jH
 split
 ·decide
 ·cases e:fA (el cl (aO (bH cl) c).toNat) m with
  |none=>decide
  |some t=>
   have hfl:=dC (l:=bH cl) (s:=c)
   rw[show(bH cl).length=cl.length from List.length_map _]at hfl
   obtain⟨x,h1,h2⟩:=List.exists_of_findSome?_eq_some e
   split at h2
   ·cases h2;exact hpm _ (ba (by omega)) _ h1
   ·cases h2
theorem uw {l:List bU}{c m:List Nat}(h:0<=dR l c m):(dR l c m).toNat<l.length/\(el l (dR l c m).toNat).cls=c/\(el l (dR l c m).toNat).name=m:=by
 have hin:=tG (l:=l) (c:=c) (m:=m)
 refine⟨by omega,?_⟩
 unfold dR cK at h⊢
 have hg:=jI h
 rw[cW (by have:=hg.1;rwa [List.length_map]at this)]at hg
 have:=hg.2
 split at this
 ·assumption
 ·cases this
theorem PL {u:aF}{C:List (List Nat)}{L:List cU}(va:T0 u)(hE:qM u (ia u C C.length) u.fns.length L){c m:List Nat}(h0:0<=dR u.fns c m):(0<=aO (bH u.cl) c/\bE u.cl c m=some (c,jH u.cl c m))/\ ∀y∈L,y.cls=c->y.gP=m->y.sig=jH u.cl c m/\(y.closed=true↔tY u (ia u C C.length) (dR u.fns c m).toNat):=by
 obtain⟨h1,h2,h3⟩:=uw h0
 have a:=va.fc _ h1
 have b:=va.sg _ h1
 rw[h2,h3]at b
 rw[h2]at a
 refine⟨⟨a,b⟩,fun y hy q1 q2=>?_⟩
 obtain⟨i,w1,w2,w3⟩:=hE.all y hy
 have e:=va.uq i _ w1 h1 (by rw[h2,<-w3.cls,q1]) (by rw[h3,<-w3.gP,q2])
 rw[<-e,<-q1,<-q2,w3.cls,w3.gP]
 exact⟨w3.sig,w3.VI⟩
theorem MN {u:aF}{C:List (List Nat)}{L:List cU}(hE:qM u (ia u C C.length) u.fns.length L){c m:List Nat}(h0:0<=dR u.fns c m)(hc:c∈C)(hf:0<=aO (bH u.cl) c): ∃y∈L,y.cls=c/\y.gP=m:=by
 obtain⟨h1,h2,h3⟩:=uw h0
 obtain⟨y,hy,w⟩:=hE.ex _ h1 (by
  unfold ia
  rw[h2,if_pos ⟨by obtain⟨i,q1,q2⟩:=cm hc;exact⟨i,q1,q2⟩,hf⟩])
 exact⟨y,hy,by rw[w.cls,h2],by rw[w.gP,h3]⟩
theorem MO {u:aF}{x:cU}{d:List Nat}{t:bZ}(h:bE u.cl x.cls x.gP=some (d,t)):DH u x↔(x.sig.name=t.name/\x.sig.static=t.static/\x.sig.result=t.result/\x.sig.params=t.params):=by
 constructor
 ·rintro⟨d2,t2,h1,h2,h3,h4,h5⟩
  rw[h]at h1;cases h1
  exact⟨h2.symm,h3.symm,h5.symm,h4.symm⟩
 ·rintro⟨h2,h3,h5,h4⟩
  exact⟨d,t,h,h2.symm,h3.symm,h4.symm,h5.symm⟩
theorem oH {dr:Prop}{ng:Nat}(sd:Sd dr Tryz.prog ng X0 Mx){u:aF}{l:ll}{K:PV->aJ->Prop}(hs1:si dr Tryz.prog ng 100 88 2 qw)(hs2:si dr Tryz.prog ng 46 47 8 gG)(hva:qu u=0->Sg u/\T0 u/\ ∀C,wE u l.bf l.bf.length C-> ∀i,i<u.fns.length->(tY u (ia u C C.length) i↔qA u (kh l.bf l.bf.length) i))(k:K (.int .i64 (nA l u)) []):tB dr Tryz.prog ng 5 [.agg (jv l),.agg (bK u)] [] K:=by
 have hnt:(111:Nat)<=1000000:=by decide
 refine ly (Bl sd wL hnt ?_)
 unfold oQ
 unfold nA at k
 have hent0:=Bm (l:=l)
 repeat'(first|refine pg ?_|refine af ?_|(refine aG ?_ ?_<;>intro hc<;>try contradiction)|refine ad ?_|(refine ak ?_;intro hl)|(refine ai ?_;intro b)|(refine aw ?_ ?_<;>intro hc<;>try first|contradiction|omega)|refine aj ?_|refine aA ?_|refine au ?_|refine ay ?_|refine ae (aa (A4 ?_))|(refine ae (aa (ux fun a1 b1=>?_)))|refine pc ?_|refine pt ?_|refine pb ?_|refine bB ?_|refine bC sd hnt ?_|refine dD ?_|refine Hh ?_)
 all_goals try rw[if_pos (by assumption)]at k
 all_goals try(rw[if_neg (not_not.2 (by assumption))]at k)
 all_goals try rw[if_pos (by assumption)]at k
 all_goals try(rw[if_neg (not_not.2 (by assumption))]at k)
 rotate_left
 ·exact⟨Or.inr rfl,⟨trivial,trivial⟩,_,rfl,[],fun p=>p,[],_,b9.zs .nil .nil,.refl _,k⟩
 ·exact⟨Or.inr rfl,⟨trivial,trivial⟩,_,rfl,[],fun p=>p,[],_,b9.zs .nil .nil,.refl _,k⟩
 have fX:qu u=0:=by assumption
 have hlen:=hent0 (by assumption)
 obtain⟨ur,va,hce⟩:=hva fX
 refine aD (ι:=Nat×Option Nat×List (List Nat)) (fun q=>[(2,.ptr 2 _ 0),(3,.ptr 3 _ 0),(9,oL 59 q.2.1 1 q.2.2),(33,pL 8 gG l.bf),(34,.int .i64 (l.bf.length:Nat)),(35,.int .i64 (q.1:Nat))]) (fun q=>[(2,some _,.cells (jv l)),(3,some _,.cells (bK u)),(59,q.2.1,aL 1 pS q.2.2)]) (fun q=>q.1<=l.bf.length/\wE u l.bf q.1 q.2.2) (fun q=>l.bf.length-q.1) (0,none,[]) ⟨Nat.zero_le _,⟨fun s hs=>(by cases hs),fun i hi=>(by dsimp only at hi;omega),fun i hi=>(by cases hi),Nat.le_refl _⟩⟩ (.cons rfl (.refl _) (.cons rfl (.refl _) (.cons rfl (.kR 59 1) (.cons rfl (.refl _) (.cons rfl (.refl _) (.cons rfl (.refl _) .nil)))))) (.cons rfl (.refl _) (.cons rfl (.refl _) (.kR .nil))) ?_
 rintro⟨j,aT,C⟩ ⟨hj,hI⟩
 dsimp only at hj hI⊢
 have hCl:=hI.len
 repeat'(first|refine pg ?_|refine af ?_|(refine aG ?_ ?_<;>intro hc<;>try contradiction)|refine ad ?_|(refine ak ?_;intro hl)|(refine ai ?_;intro b)|(refine aw ?_ ?_<;>intro hc<;>try first|contradiction|omega)|refine aj ?_|refine aA ?_|refine au ?_|refine ay ?_|(refine bz (us:=aY u.cl) ?_ rfl rfl ⟨by show 0+0+1<=3;decide,rfl⟩)|refine ae (aa (dm ?_))|refine aI ?_|(refine dJ (dw (l:=C) (fun hc2=>⟨rfl,?_⟩) fun hc2=>⟨rfl,?_⟩))|(refine bb ?_;intro b2)|(refine bV (f:=pS) (el l.bf j).cls ?_;intro oid2)|refine mg sd hnt ?_|refine pc ?_|refine pt ?_|refine pb ?_|refine bB ?_|refine bC sd hnt ?_|refine dD ?_|refine Hh ?_)
 ·exact⟨(j+1,aT,C),by dsimp only;omega,⟨by dsimp only;omega,hI.keep fun _=>hc2⟩,(.cons rfl (.refl _) (.cons rfl (.refl _) (.cons rfl (.refl _) (.cons rfl (.refl _) (.cons rfl (.refl _) (.cons rfl (.refl _) (.nil))))))),(.cons rfl (.refl _) (.cons rfl (.refl _) (.cons rfl (.refl _) (.nil))))⟩
 ·exact⟨(j+1,oid2,C++[(el l.bf j).cls]),by dsimp only;omega,⟨by dsimp only;omega,hI.add hc hc2⟩,(.cons rfl (.refl _) (.cons rfl (.refl _) (.cons rfl (.refl _) (.cons rfl (.refl _) (.cons rfl (.refl _) (.cons rfl (.refl _) (.nil))))))),(.cons rfl (.refl _) (.cons rfl (.refl _) (.cons rfl (.refl _) (.nil))))⟩
 ·exact⟨(j+1,aT,C),by dsimp only;omega,⟨by dsimp only;omega,hI.keep fun q=>absurd q hc⟩,(.cons rfl (.refl _) (.cons rfl (.refl _) (.cons rfl (.refl _) (.cons rfl (.refl _) (.cons rfl (.refl _) (.cons rfl (.refl _) (.nil))))))),(.cons rfl (.refl _) (.cons rfl (.refl _) (.cons rfl (.refl _) (.nil))))⟩
 obtain rfl:j=l.bf.length:=by omega
 refine⟨_,rfl,Jr (Z:=[(59,aT,aL 1 pS C)]) (r:=fun p=>p) (args':=[.agg (bK u),pL 1 pS C]) (S':=[(2,_),(3,_)]) (.cons _ _ _ _ (.refl _) (.cons _ _ _ _ cE .nil)) (b9.zs (.cons rfl .nil) (.cons rfl rfl (.refl _) (.cons rfl rfl (.refl _) .nil))) (Bn (DJ sd hs1 hs2 ur fX va.pm (fun j hj=>(hI.mem _ (ba hj)).1) hI.one fun L hE=>?_))⟩
 have hce2:=hce C hI
 repeat'(first|refine pg ?_|refine af ?_|(refine aG ?_ ?_<;>intro hc<;>try contradiction)|refine ad ?_|(refine ak ?_;intro hl)|(refine ai ?_;intro b)|(refine aw ?_ ?_<;>intro hc<;>try first|contradiction|omega)|refine aj ?_|refine aA ?_|refine au ?_|refine ay ?_|refine aI ?_|refine pc ?_|refine pt ?_|refine pb ?_|refine bB ?_|refine bC sd hnt ?_|refine dD ?_|refine Hh ?_)
 refine aD (fun j:Nat=>[(2,.ptr 2 _ 0),(3,.ptr 3 _ 0),(12,.ptr 12 _ 0),(71,pL 8 gG l.bf),(72,.int .i64 (l.bf.length:Nat)),(73,.int .i64 j)]) (fun _=>[(2,some _,.cells (jv l)),(3,some _,.cells (bK u)),(12,some _,.cells (jv ⟨1,L⟩))]) (fun j=>j<=l.bf.length/\ ∀i,i<j->Js u l.bf i=0) (fun j=>l.bf.length-j) 0 ⟨Nat.zero_le _,fun i hi=>absurd hi (by omega)⟩ (.cons rfl (.refl _) (.cons rfl (.refl _) (.cons rfl (.refl _) (.cons rfl (.refl _) (.cons rfl (.refl _) (.cons rfl (.refl _) (.nil))))))) (.cons rfl (.refl _) (.cons rfl (.refl _) (.cons rfl (.refl _) (.nil)))) ?_
 rintro j ⟨hj,hb⟩
 rcases Nat.lt_or_ge j l.bf.length with hjl|hjl
 rotate_left
 ·repeat'(first|refine pg ?_|refine af ?_|(refine aG ?_ ?_<;>intro hc<;>try contradiction)|refine ad ?_|(refine ak ?_;intro hl)|(refine ai ?_;intro b)|(refine aw ?_ ?_<;>intro hc<;>try first|contradiction|omega)|refine aj ?_|refine aA ?_|refine au ?_|refine ay ?_|refine pc ?_|refine pt ?_|refine pb ?_|refine bB ?_|refine bC sd hnt ?_|refine dD ?_|refine Hh ?_)
  rw[bL fun i hi=>hb i (by omega)]at k
  exact⟨Or.inr rfl,⟨trivial,trivial⟩,_,rfl,[],fun p=>p,[],_,b9.zs .nil .nil,.refl _,k⟩
 have hfb: ∀x∈L,x.sig.params.length*16<=140737488355328/\x.c8.length*16<=140737488355328:=fun x hx=>by
  obtain⟨i,_,_,w⟩:=hE.all x hx
  have:=w.fl
  exact⟨by rw[w.sig];exact MM va.pm _ _,by omega⟩
 by_cases hf0:dR u.fns (el l.bf j).cls (el l.bf j).gP<0
 ·repeat'(first|refine pg ?_|refine af ?_|(refine aG ?_ ?_<;>intro hc<;>try contradiction)|refine ad ?_|(refine ak ?_;intro hl)|(refine ai ?_;intro b)|(refine aw ?_ ?_<;>intro hc<;>try first|contradiction|omega)|refine aj ?_|refine aA ?_|refine au ?_|refine ay ?_|refine aI ?_|refine ae (aa (me ?_))|refine pc ?_|refine pt ?_|refine pb ?_|refine bB ?_|refine bC sd hnt ?_|refine dD ?_|refine Hh ?_)
  rw[aW hjl hb (O5 hf0) (by decide)]at k
  exact⟨Or.inr rfl,⟨trivial,trivial⟩,_,rfl,[],fun p=>p,[],_,b9.zs .nil .nil,.refl _,k⟩
 obtain⟨⟨hfc,hlk⟩,hyy⟩:=PL va hE (c:=(el l.bf j).cls) (m:=(el l.bf j).gP) (by omega)
 obtain⟨yh,hyh,hyc,hym⟩:=MN hE (c:=(el l.bf j).cls) (m:=(el l.bf j).gP) (by omega) (hI.all j hjl hfc) hfc
 have hgt:=(uw (l:=u.fns) (c:=(el l.bf j).cls) (m:=(el l.bf j).gP) (by omega)).1
 have hcl:=hce2 _ hgt
 have hesg:=MO (x:=el l.bf j) hlk
 repeat'(first|refine pg ?_|refine af ?_|(refine aG ?_ ?_<;>intro hc<;>try contradiction)|refine ad ?_|(refine ak ?_;intro hl)|(refine ai ?_;intro b)|(refine aw ?_ ?_<;>intro hc<;>try first|contradiction|omega)|refine aj ?_|refine aA ?_|refine au ?_|refine ay ?_|refine aI ?_|refine ae (aa (me ?_))|(refine bz (us:=[.str (el l.bf j).cls,.str (el l.bf j).gP]) ?_ rfl rfl ⟨by show 0+0+2<=8;decide,rfl⟩)|(refine ae (aa (DK (l:=⟨1,L⟩) hfb (fun jx hj1 hj2 hj3=>?_) fun hno=>?_)))|(refine bz (us:=cb (el l.bf j).sig) ?_ rfl rfl ⟨by show 0+2+4<=8;decide,rfl⟩)|(refine bz (us:=cb (el L jx).sig) ?_ rfl rfl ⟨by show 0+2+4<=8;decide,rfl⟩)|(refine ae (aa (uy (fun hs=>?_) fun hs=>?_)))|refine pc ?_|refine pt ?_|refine pb ?_|refine bB ?_|refine bC sd hnt ?_|refine dD ?_|refine Hh ?_)
 ·have hy:=hyy (el L jx) (ba hj1) hj2 hj3
  rw[show(el (ll.mk 1 L).bf jx).sig=jH u.cl (el l.bf j).cls (el l.bf j).gP from hy.1]at hs
  (refine⟨j+1,by dsimp only;omega,⟨by omega,fun i hi=>?_⟩,(.cons rfl (.refl _) (.cons rfl (.refl _) (.cons rfl (.refl _) (.cons rfl (.refl _) (.cons rfl (.refl _) (.cons rfl (.refl _) (.nil))))))),(.cons rfl (.refl _) (.cons rfl (.refl _) (.cons rfl (.refl _) (.nil))))⟩;by_cases q:i=j;(subst q;exact FB hf0 (hesg.2 hs) (Or.inr (hcl.1 (hy.2.1 (by assumption)))));(exact hb i (by omega)))
 ·have hy:=hyy (el L jx) (ba hj1) hj2 hj3
  rw[show(el (ll.mk 1 L).bf jx).sig=jH u.cl (el l.bf j).cls (el l.bf j).gP from hy.1]at hs
  rw[aW hjl hb (O6 hf0 (hesg.2 hs) (by assumption) (fun q=>by have w:=hy.2.2 (hcl.2 q);have w2:(el L jx).closed=false:=(by assumption);rw[w]at w2;cases w2)) (by decide)]at k
  exact⟨Or.inr rfl,⟨trivial,trivial⟩,_,rfl,[],fun p=>p,[],_,b9.zs .nil .nil,.refl _,k⟩
 ·have hy:=hyy (el L jx) (ba hj1) hj2 hj3
  rw[show(el (ll.mk 1 L).bf jx).sig=jH u.cl (el l.bf j).cls (el l.bf j).gP from hy.1]at hs
  (refine⟨j+1,by dsimp only;omega,⟨by omega,fun i hi=>?_⟩,(.cons rfl (.refl _) (.cons rfl (.refl _) (.cons rfl (.refl _) (.cons rfl (.refl _) (.cons rfl (.refl _) (.cons rfl (.refl _) (.nil))))))),(.cons rfl (.refl _) (.cons rfl (.refl _) (.cons rfl (.refl _) (.nil))))⟩;by_cases q:i=j;(subst q;exact FB hf0 (hesg.2 hs) (Or.inl (O2 (by assumption))));(exact hb i (by omega)))
 ·have hy:=hyy (el L jx) (ba hj1) hj2 hj3
  rw[show(el (ll.mk 1 L).bf jx).sig=jH u.cl (el l.bf j).cls (el l.bf j).gP from hy.1]at hs
  rw[aW hjl hb (O7 hf0 (fun q=>hs (hesg.1 q))) (by decide)]at k
  exact⟨Or.inr rfl,⟨trivial,trivial⟩,_,rfl,[],fun p=>p,[],_,b9.zs .nil .nil,.refl _,k⟩
 ·obtain⟨jx,hjx,rfl⟩:=cm hyh
  exact absurd ⟨hyc,hym⟩ (hno jx hjx)
theorem FE {u:aF}(h:qu u=0):iG u=0/\ ∀i,i<u.fns.length->fE u i=0:=by
 unfold qu at h
 obtain⟨h1,h⟩:=Bz h
 obtain⟨h2,h⟩:=Bz h
 exact⟨h1,gk h2⟩
theorem JA {cl:List aN}{f:bU}{i:Nat}(h:nR cl f i=0):DO (el f.code i)/\nS cl f (el f.code i)=0:=by
 unfold nR at h
 obtain⟨h1,h⟩:=dI (by decide) h
 obtain⟨h2,h⟩:=dI (by decide) h
 obtain⟨h3,h⟩:=dI (by decide) h
 obtain⟨h4,h⟩:=dI (by decide) h
 exact⟨not_not.1 h2,h⟩
theorem FF {l:List aN}{i:Nat}(hi:i<(allM l).length): ∃a b,a<l.length/\b<(el l a).methods.length/\el (allM l) i=((el l a).name,el (el l a).methods b):=by
 have hm:=ba hi
 unfold allM at hm
 obtain⟨c,hc,hm⟩:=List.mem_flatMap.1 hm
 obtain⟨m,hm,e⟩:=List.mem_map.1 hm
 obtain⟨a,ha,ea⟩:=cm hc
 subst ea
 obtain⟨b,hb,eb⟩:=cm hm
 subst eb
 exact⟨a,b,ha,hb,e.symm⟩
theorem BA: ∀(l:List aN),(∀a b,a<l.length->b<l.length->(el l a).name=(el l b).name->a=b)->(∀a,a<l.length-> ∀p q,p<(el l a).methods.length->q<(el l a).methods.length->(el (el l a).methods p).name=(el (el l a).methods q).name->p=q)-> ∀i j,i<(allM l).length->j<(allM l).length->(el (allM l) i).1=(el (allM l) j).1->(el (allM l) i).2.name=(el (allM l) j).2.name->i=j
 |[],_,_,i,j,hi,_,_,_=>absurd hi (Nat.not_lt_zero _)
 |c::l,hd,hm,i,j,hi,hj,h1,h2=>by
  have e:allM (c::l)=c.methods.map (fun m=>(c.name,m))++allM l:=rfl
  rw[e]at hi hj h1 h2
  rw[List.length_append,List.length_map]at hi hj
  rw[gW,gW,List.length_map]at h1 h2
  have ih:=BA l (fun a b ha hb q=>by have:=hd (a+1) (b+1) (by simp;omega) (by simp;omega) q;omega) fun a ha=>hm (a+1) (by simp;omega)
  have out: ∀k,k<(allM l).length->(el (allM l) k).1≠c.name:=fun k hk q=>by
   obtain⟨a,b,ha,_,w⟩:=FF hk
   rw[w]at q
   have:=hd (a+1) 0 (by simp;omega) (by simp) q
   omega
  by_cases q1:i<c.methods.length<;>by_cases q2:j<c.methods.length
  ·rw[if_pos q1,if_pos q2,cW q1,cW q2]at h2
   exact hm 0 (by simp) i j q1 q2 h2
  ·rw[if_pos q1,if_neg q2,cW q1]at h1
   exact absurd h1.symm (out _ (by omega))
  ·rw[if_neg q1,if_pos q2,cW q2]at h1
   exact absurd h1 (out _ (by omega))
  ·rw[if_neg q1,if_neg q2]at h1 h2
   have:=ih _ _ (by omega) (by omega) h1 h2
   omega
theorem PT {op:Int}(h:hasB op 108=true):op=9\/op=10:=by
 have h0:0<=op/\op<17:=by
  unfold hasB at h
  rw[Bool.and_eq_true]at h
  exact of_decide_eq_true h.1
 obtain⟨k,rfl⟩:=ko h0
 revert h
 revert k
 decide
structure VL (u:aF)(i:Nat):Prop where
 ex: ∃a b,a<u.cl.length/\b<(el u.cl a).methods.length/\(el u.fns i).cls=(el u.cl a).name/\(el u.fns i).name=(el (el u.cl a).methods b).name
 vr:(el u.fns i).vars.length<=256
 cl:(el u.fns i).code.length<=1024
 pr:(el u.fns i).params<=7
 ins: ∀m,m<(el u.fns i).code.length->nR u.cl (el u.fns i) m=0
theorem PU {u:aF}(h:qu u=0){i:Nat}(hi:i<u.fns.length):VL u i:=by
 obtain⟨hw,hf⟩:=FE h
 obtain⟨h1,h2,h3,_⟩:=jJ hw
 obtain⟨f1,f2,f3,_,_,f6⟩:=ze (hf i hi)
 obtain⟨a,b,ha,hb,e⟩:=FF (l:=u.cl) (i:=i) (by omega)
 have h6:=uD ((gm ((fC h1).2 a ha)).2.2.2.2 b hb)
 rw[e]at f1
 obtain⟨g1,g2,_,_,g5,_⟩:=f1
 refine⟨⟨a,b,ha,hb,g1,g2⟩,f2,f3,?_,f6⟩
 rw[g5];unfold pn
 dsimp only
 split<;>omega
theorem MQ {u:aF}(h:qu u=0){i m:Nat}(hi:i<u.fns.length)(hm:m<(el u.fns i).code.length):(el (el u.fns i).code m).args.length<=6:=by
 have hk:=fX (jJ (FE h).1).1
 obtain⟨h1,h2⟩:=JA ((PU h hi).ins m hm)
 rcases h1.2.2.2.2.2.2.1 with q|q
 ·have ho:=PT q
  rw[zg ho]at h2
  unfold qP at h2
  obtain⟨_,h2⟩:=dI (by decide) h2
  split at h2
  ·rename_i hs
   unfold uE at h2
   obtain⟨h4,_⟩:=dI (by decide) h2
   have h5:hs.choose.params.length<=6:=by
    rcases hs.choose_spec with⟨_,c,h6,_⟩|⟨_,h6,_⟩
    ·exact hk.h6 _ _ _ _ h6
    ·exact hk.h6 _ _ _ _ h6
   omega
  ·exact absurd h2 (by decide)
 ·omega
theorem Vu {u:aF}(h:qu u=0):Sg u:=by
 have hw:=jJ (FE h).1
 have hk:=fX hw.1
 exact⟨hk.cg,fun c m d t q=>by have:=hk.h6 c m d t q;omega,by omega,fun i hi=>by have:=(PU h hi).cl;omega,fun i hi=>by have:=(PU h hi).vr;omega,fun i hi j hj=>by have:=MQ h hi hj;omega,fun i hi=>by have:=(PU h hi).pr;omega⟩
theorem Vv {u:aF}(h:qu u=0):T0 u:=by
 obtain⟨hw,hf⟩:=FE h
 obtain⟨h1,h2,h3,_⟩:=jJ hw
 have hh:=fC h1
 have hd: ∀a,a<u.cl.length->aO (bH u.cl) (el u.cl a).name=a:=fun a ha=>(gm (hh.2 a ha)).2.1
 have hn: ∀a,a<u.cl.length-> ∀p q,p<q->q<(el u.cl a).methods.length->(el (el u.cl a).methods p).name≠(el (el u.cl a).methods q).name:=fun a ha p q hpq hq e=>by
  have:=(gm (hh.2 a ha)).2.2.2.2 q hq
  unfold fV at this
  obtain⟨_,this⟩:=dI (by decide) this
  obtain⟨w,_⟩:=dI (by decide) this
  exact w ⟨p,hpq,e⟩
 refine⟨fun i hi=>?_,fun i j hi hj e1 e2=>?_,fun i hi=>?_,fun x hx t ht=>?_⟩
 ·obtain⟨a,b,ha,hb,e1,e2⟩:=(PU h hi).ex
  rw[e1,hd a ha];omega
 ·have f1:=(ze (hf i hi)).1
  have f2:=(ze (hf j hj)).1
  refine BA u.cl (fun a b ha hb q=>by have w1:=hd a ha;have w2:=hd b hb;rw[q]at w1;omega) (fun a ha p q hp hq e=>?_) i j (by omega) (by omega) (by rw[<-f1.1,<-f2.1,e1]) (by rw[<-f1.2.1,<-f2.2.1,e2])
  rcases Nat.lt_trichotomy p q with w|w|w
  ·exact absurd e (hn a ha p q w hq)
  ·exact w
  ·exact absurd e.symm (hn a ha q p w hp)
 ·obtain⟨a,b,ha,hb,e1,e2⟩:=(PU h hi).ex
  have hc:(el u.fns i).cls∈bH u.cl:=aS.1 (by rw[e1,hd a ha];omega)
  obtain⟨r,hr,_⟩:=uF hc
  have hcl:bt u.cl (el u.fns i).cls=el u.cl a:=by unfold bt;rw[e1,hd a ha];rfl
  have hs: ∃t,fA (el u.cl a) (el u.fns i).name=some t:=by
   cases q:fA (el u.cl a) (el u.fns i).name with
   |some t=>exact⟨t,rfl⟩
   |none=>
    unfold fA at q
    rw[List.findSome?_eq_none_iff]at q
    have:=q _ (ba hb)
    rw[if_pos e2.symm]at this;cases this
  obtain⟨t,ht⟩:=hs
  have hg:jH u.cl (el u.fns i).cls (el u.fns i).name=t:=by
   unfold jH
   rw[show aO (bH u.cl) (el u.fns i).cls=a by rw[e1,hd a ha],if_neg (by omega),Int.toNat_natCast,ht];rfl
  rw[hg]
  unfold bE
  rw[hr,List.findSome?_cons,hcl,ht];rfl
 ·obtain⟨a,ha,rfl⟩:=cm hx
  obtain⟨b,hb,rfl⟩:=cm ht
  have:=uD ((gm (hh.2 a ha)).2.2.2.2 b hb)
  omega
theorem lC {f:bU}{v:Int}{c:List Nat}: ∀{k:Nat},c∈dU f v k↔ ∃j,j<k/\mQ (el f.code j)=v/\(el f.code j).cls=c
 |0=>⟨fun h=>(by cases h),fun⟨j,h,_⟩=>(by omega)⟩
 |k+1=>by
  unfold dU
  rw[List.mem_append,lC (k:=k)]
  constructor
  ·rintro(⟨j,h1,h2⟩|h)
   ·exact⟨j,by omega,h2⟩
   ·split at h
    ·exact⟨k,by omega,by assumption,(List.mem_singleton.1 h).symm⟩
    ·cases h
  ·rintro⟨j,h1,h2,h3⟩
   by_cases e:j=k
   ·subst e;rw[if_pos h2];exact Or.inr (List.mem_singleton.2 h3.symm)
   ·exact Or.inl ⟨j,by omega,h2,h3⟩
theorem zh {u:aF}{f:bU}{x:bF}{g:Int}: ∀{k:Nat},g∈jC u f x k↔ ∃j,j<k/\(mQ (el f.code j)=x.a/\(el f.code j).op=6)/\qE u (el f.code j).cls x.name=g
 |0=>⟨fun h=>(by cases h),fun⟨j,h,_⟩=>(by omega)⟩
 |k+1=>by
  unfold jC
  rw[List.mem_append,zh (k:=k)]
  constructor
  ·rintro(⟨j,h1,h2⟩|h)
   ·exact⟨j,by omega,h2⟩
   ·split at h
    ·exact⟨k,by omega,by assumption,(List.mem_singleton.1 h).symm⟩
    ·cases h
  ·rintro⟨j,h1,h2,h3⟩
   by_cases e:j=k
   ·subst e;rw[if_pos h2];exact Or.inr (List.mem_singleton.2 h3.symm)
   ·exact Or.inl ⟨j,by omega,h2,h3⟩
theorem zi {u:aF}{f:bU}{x:bF}{g:Int}:g∈ui u f x↔g∈A8 u f x:=by unfold ui;exact Jz
theorem JB {u:aF}(h:qu u=0){i:Nat}(hi:i<u.fns.length){lf:List Nat->Option PV}{lib:List (List Nat)}(hlf: ∀s,lf s=some (.bool true)↔wM lib s/\0<=aO (bH u.cl) s){T:Nat->Prop}: ¬Ha lf (Sr T) u i↔wN u lib T (el u.fns i):=by
 generalize hf:el u.fns i=f
 have hins: ∀m,m<f.code.length->nR u.cl f m=0:=by subst hf;exact(PU h hi).ins
 have hnew: ∀m,m<f.code.length->(el f.code m).op=6->0<=aO (bH u.cl) (el f.code m).cls:=fun m hm h6=>by
  have ht:=(JA (hins m hm)).2
  rw[zj (Or.inl h6)]at ht
  obtain⟨w,_⟩:=dI (by decide) ht
  exact aS.2 (not_not.1 w)
 have raw9: ∀x:bF,x.op=9->A8 u f x=jC u f x f.code.length:=fun x hx=>by unfold A8;rw[if_neg (by omega),if_pos hx]
 have raw10: ∀x:bF,x.op=10->A8 u f x=[dR u.fns x.cls x.name]:=fun x hx=>by unfold A8;rw[if_pos hx]
 have cal10: ∀x:bF,x.op=10->gV u f x=[dR u.fns x.cls x.name]:=fun x hx=>by unfold gV;rw[if_pos hx]
 have cal9: ∀x:bF,x.op=9->xM f x.a-> ∀g,g∈gV u f x↔g∈jC u f x f.code.length:=fun x hx hm g=>by
  unfold gV
  rw[if_neg (by omega),if_pos hm,qL,zh]
  unfold Hf
  constructor
  ·rintro⟨k,h1,h2⟩
   obtain⟨j,h3,h4,h5⟩:=lC.1 (ba h1)
   exact⟨j,h3,⟨h4,hm j h3 h4⟩,by rw[h5,h2]⟩
  ·rintro⟨j,h1,⟨h2,_⟩,h3⟩
   obtain⟨k,h4,h5⟩:=cm (lC.2 ⟨j,h1,h2,rfl⟩)
   exact⟨k,h4,by rw[h5,h3]⟩
 constructor
 ·intro hn m hm
  have hq: ¬Ur lf (Sr T) u f (el f.code m):=fun q=>hn ⟨m,by rw[hf];exact hm,by rw[hf];exact q⟩
  have hcal: ∀g,g∈ui u f (el f.code m)->0<=g/\T g.toNat:=fun g hg=>by
   obtain⟨j,hj,rfl⟩:=cm hg
   exact FG.1 (Classical.byContradiction fun w=>hq (Or.inr (Or.inr (Or.inr ⟨j,hj,w⟩))))
  refine⟨fun e=>hq (Or.inl e),fun e=>hq (Or.inr (Or.inl e)),fun ho=>?_⟩
  by_cases h9:(el f.code m).op=9
  ·have hpa: ¬(el f.code m).a<f.params:=fun w=>hq (Or.inr (Or.inr (Or.inl ⟨h9,Or.inl w⟩)))
   have hdet:Jn lf u f (el f.code m):=Classical.byContradiction fun w=>hq (Or.inr (Or.inr (Or.inl ⟨h9,Or.inr w⟩)))
   have hmade:xM f (el f.code m).a:=fun j hj hd=>(hdet j hj hd).1
   refine⟨fun _=>⟨hmade,hpa,fun k hk=>?_⟩,fun g hg=>hcal g ?_⟩
   ·obtain⟨j,h1,h2,h3⟩:=lC.1 (ba hk)
    rw[<-h3];exact((hlf _).1 (hdet j h1 h2).2.1).1
   ·rw[zi,raw9 _ h9];exact(cal9 _ h9 hmade g).1 hg
  ·have h10:(el f.code m).op=10:=ho.resolve_left h9
   refine⟨fun w=>absurd w h9,fun g hg=>hcal g ?_⟩
   rw[zi,raw10 _ h10,<-cal10 _ h10];exact hg
 ·rintro hs ⟨m,hm,q⟩
  rw[hf]at hm q
  obtain⟨h7,h8,hr⟩:=hs m hm
  have hdet:(el f.code m).op=9-> ¬(el f.code m).a<f.params/\Jn lf u f (el f.code m):=fun h9=>by
   obtain⟨r1,r2⟩:=hr (Or.inl h9)
   obtain⟨r3,r4,r5⟩:=r1 h9
   refine⟨r4,fun j hj hd=>?_⟩
   have h6:=r3 j hj hd
   obtain⟨k,hk,e⟩:=cm (lC.2 ⟨j,hj,hd,rfl⟩)
   refine⟨h6,(hlf _).2 ⟨by rw[<-e];exact r5 k hk,hnew j hj h6⟩,?_⟩
   exact(r2 _ ((cal9 _ h9 r3 _).2 (zh.2 ⟨j,hj,⟨hd,h6⟩,rfl⟩))).1
  rcases q with q|q|⟨q1,q2⟩|⟨j,hj,q⟩
  ·exact h7 q
  ·exact h8 q
  ·exact q2.elim (hdet q1).1 fun w=>w (hdet q1).2
  ·refine q (FG.2 ?_)
   have hg:=zi.1 (ba hj)
   by_cases h9:(el f.code m).op=9
   ·rw[raw9 _ h9]at hg
    obtain⟨r1,r2⟩:=hr (Or.inl h9)
    exact r2 _ ((cal9 _ h9 (r1 h9).1 _).2 hg)
   ·by_cases h10:(el f.code m).op=10
    ·rw[raw10 _ h10,<-cal10 _ h10]at hg
     exact(hr (Or.inr h10)).2 _ hg
    ·unfold A8 at hg
     rw[if_neg h10,if_neg h9]at hg;cases hg
theorem PH {u:aF}(h:qu u=0){E:List cU}{n:Nat}{C:List (List Nat)}(hC:wE u E n C){i:Nat}(hi:i<u.fns.length):tY u (ia u C C.length) i↔qA u (kh E n) i:=by
 have hlf: ∀s,ia u C C.length s=some (.bool true)↔wM (kh E n) s/\0<=aO (bH u.cl) s:=fun s=>by
  unfold ia
  have hm:wM (kh E n) s↔ ∃i,i<n/\(el E i).cls=s:=by
   rw[<-Bs]
   exact⟨fun⟨k,h1,h2⟩=>h2▸ba h1,fun h=>cm h⟩
  rw[hm]
  constructor
  ·intro q
   by_cases w:(∃i,i<C.length/\el C i=s)/\0<=aO (bH u.cl) s
   ·obtain⟨⟨k,h1,h2⟩,h3⟩:=w
    subst h2
    exact⟨(hC.mem _ (ba h1)).2,h3⟩
   ·rw[if_neg w]at q;cases q
  ·rintro⟨⟨k,h1,h2⟩,h3⟩
   subst h2
   obtain⟨j,q1,q2⟩:=cm (hC.all k h1 h3)
   rw[if_pos ⟨⟨j,q1,q2⟩,h3⟩]
 have hg: ∀T,O9 u (ia u C C.length) T↔FC u (kh E n) T:=fun T=>by
  constructor
  ·intro g j hj
   obtain⟨g1,g2,g3⟩:=g j hj
   exact⟨g1,((hlf _).1 g2).1,(JB h g1 hlf).1 g3⟩
  ·intro g j hj
   obtain⟨g1,g2,g3⟩:=g j hj
   exact⟨g1,(hlf _).2 ⟨g2,(Vv h).fc j g1⟩,(JB h g1 hlf).2 g3⟩
 exact⟨fun⟨T,h1,h2⟩=>⟨T,(hg T).1 h1,h2⟩,fun⟨T,h1,h2⟩=>⟨T,(hg T).2 h1,h2⟩⟩
end Go.Proofs.YtemehfgkfidgjaaGreatDoor.Ev
