/- CoverStates, part 30 -/
import Derived.Test.YtemehfgkfidgjaaGreatDoorClKs
set_option linter.all false
set_option maxHeartbeats 4000000
namespace Go.Proofs.YtemehfgkfidgjaaGreatDoor.Ev
open Go
open Classical
theorem Ho {α:Type} [Inhabited α] [DecidableEq α] {l:List α}{x:α}:x∈Lib.compact l↔x∈l:=by
 constructor
 ·intro h
  unfold Lib.compact Lib.compactUpTo at h
  obtain⟨i,hi,rfl⟩:=List.mem_map.1 h
  have hi':i<l.length:=List.mem_range.1 (List.mem_filter.1 hi).1
  simp[getElem!_pos,hi']
 ·intro h
  have key: ∀m,m<l.length->l.toArray[m]! ∈Lib.compactUpTo l.toArray (m+1):=fun m=>by
   induction m with
   |zero=>intro _;rw[Lib.compactUpTo_succ,if_pos (Lib.keeps_lt_one _ 0 (by decide))];exact List.mem_append_right _ (List.mem_singleton.2 rfl)
   |succ m ih=>
    intro hm
    rw[Lib.compactUpTo_succ]
    by_cases q:l.toArray[m+1]! =l.toArray[m+1-1]!
    ·rw[q];exact List.mem_append_left _ (ih (by omega))
    ·rw[if_pos (Lib.keeps_pos q)];exact List.mem_append_right _ (List.mem_singleton.2 rfl)
  obtain⟨i,hi,rfl⟩:=List.mem_iff_getElem.1 h
  have e:l[i]=l.toArray[i]! :=by simp[getElem!_pos,hi]
  have mono: ∀k,i<k->l.toArray[i]! ∈Lib.compactUpTo l.toArray k:=fun k=>by
   induction k with
   |zero=>intro q;omega
   |succ k ih=>
    intro q
    by_cases w:i=k
    ·subst w;exact key i hi
    ·rw[Lib.compactUpTo_succ];exact List.mem_append_left _ (ih (by omega))
  rw[e];exact mono _ hi
theorem Jz {l:List Int}{x:Int}:x∈Lib.compact (fW l)↔x∈l:=by
 rw[Ho];unfold fW;exact List.mem_mergeSort
theorem Bu {x:bF}{K:PV->Prop}(k: ∀b,K (.bool b)):PF Tryz.prog X0 Mx 218 [.agg (dh x)] K:=by
 have hnt:(10:Nat)<=1000000:=by decide
 refine bD Bv (bg _) (by simp) hnt ?_
 repeat'(first|refine pg ?_|refine af ?_|refine ad ?_|(refine ai ?_;intro b)|(refine aw ?_ ?_<;>intro hc<;>try first|contradiction|omega)|refine pc ?_|refine pt ?_|refine pb ?_)
 all_goals exact⟨Or.inr rfl,⟨trivial,trivial⟩,_,_,rfl,.refl _,k _⟩
abbrev PR (i1:Nat)(aT:Option Nat)(l:List Int):aJ:=[(1001,some i1,.cells [oL 1002 aT 1 l]),(1002,aT,aL 1 pI l)]
theorem Bw {f:bU}{i1:Nat}{aT:Option Nat}{l:List Int}{j:Int}{K:PV->aJ->Prop}(hl:l.length<=1000)(k1:0<=j->j<f.code.length-> ∀aT,K (.bn []) (PR i1 aT (l++[j])))(k0:K (.bn []) (PR i1 aT l)):sc Tryz.prog X0 Mx 266 [.int .i64 j,.fp (eN f) 0,.ptr 1001 i1 0] (PR i1 aT l) K:=by
 have hnt:(17:Nat)<=1000000:=by decide
 refine lz (qN Bx (bg _) (by simp) hnt ?_)
 unfold PR
 repeat'(first|refine pg ?_|refine af ?_|refine ad ?_|refine ah ?_|(refine ak ?_;intro hl)|(refine aw ?_ ?_<;>intro hc<;>try first|contradiction|omega)|(refine bb ?_;intro b2)|(refine bV (f:=pI) _ ?_;intro oid2)|refine aI ?_|refine pc ?_|refine pt ?_)
 all_goals first
  |exact⟨Or.inl rfl,trivial,_,rfl,[],fun p=>p,PR i1 oid2 (l++[j]),_,b9.zs .nil (.cons rfl rfl (.refl _) (.cons rfl rfl (.refl _) .nil)),.refl _,k1 (by omega) (by omega) _⟩
  |exact⟨Or.inl rfl,trivial,_,rfl,[],fun p=>p,PR i1 aT l,_,b9.zs .nil (.cons rfl rfl (.refl _) (.cons rfl rfl (.refl _) .nil)),.refl _,k0⟩
theorem Hp {P:Program}{X:cj}{M:Mf}{S:aJ}{K:PV->aJ->Prop}{sf p n:Nat}{aT:Option Nat}{l:List Int}(hM: ∀av c h,M sf av c h=gU sf sf av c h)(hn:l.length<4611686018427387904)(hz:l=[]->aT=none)(k0:l=[]->K .aE S)(k1:l≠[]->K (oL p aT 1 (Lib.compact l)) ((p,aT,aL 1 pI (Lib.compact l))::S))(hl:n=l.length)(hS:aC S p=some (aT,aL 1 pI l):=by exact rfl):sc P X M sf [.own p aT n 1] S K:=by
 subst hl;exact jE hM hn hz k0 k1 hS
theorem Hq {f:bU}{i:Int}{K:PV->Prop}(k: ∀l:List Int,(∀x∈l,0<=x/\x<f.code.length)->K (pL 1 pI l)):PF Tryz.prog X0 Mx 217 [.agg (eN f),.int .i64 i] K:=by
 have hnt:(58:Nat)<=1000000:=by decide
 refine bD Hr (bg _) (by simp) hnt ?_
 repeat'(first|refine pg ?_|refine af ?_|refine ad ?_|refine ah ?_|(refine ak ?_;intro hl)|(refine ai (v:= .agg (eN f)) ?_;intro b)|(refine aw ?_ ?_<;>intro hc<;>try first|contradiction|omega)|refine bA ?_|refine aA ?_|refine pc ?_|refine pt ?_|refine pb ?_)
 ·exact⟨Or.inr rfl,⟨trivial,trivial⟩,_,_,rfl,(.aE _ _),k [] (fun x h=>by cases h)⟩
 ·exact⟨Or.inr rfl,⟨trivial,trivial⟩,_,_,rfl,(.aE _ _),k [] (fun x h=>by cases h)⟩
 ·refine ai ?_;intro b5
  refine pg ?_
  refine pt ?_
  (refine oV (Z:=[(2,some b,.cells (eN f))]) (r:=fun p=>if p=1001 then 5 else p) (G':=[(1,.int .i64 i),(2,.fp (eN f) 0),(5,.ptr 1001 b5 0)]) (S':=PR b5 none []) (.cons rfl (.refl _) (.cons rfl (.ptr _ _ _ _ _ rfl (dH.refl _)) (.cons rfl (.Hs _ _ _ _) .nil))) (s7.zs (.cons rfl .nil) (.cons rfl rfl (.cells _ _ (.cons _ _ _ _ (.kR _ _) .nil)) (.kR .nil)) [1001,1002] rfl (by decide)) ?_)
  repeat'(first|refine pg ?_|refine af ?_|refine ad ?_|refine ah ?_|(refine ak ?_;intro hl)|(refine ai (v:= .agg (eN f)) ?_;intro b)|(refine aw ?_ ?_<;>intro hc<;>try first|contradiction|omega)|refine bA ?_|refine aA ?_|(refine ae (Bw (by first|exact Nat.zero_le _|(simp;done)) (fun h1 h2 aT=>?_) ?_))|(refine ae (qJ (p:=1002) yV ?_ ?_ (fun hn0=>?_) (fun hn1=>?_)))|(refine ae (Hp (p:=1002) qI ?_ ?_ (fun hn2=>?_) (fun hn2=>?_) ?_))|refine pc ?_|refine pt ?_|refine pb ?_)
  all_goals first
   |(show _<4611686018427387904;first|(rw[dd];simp;done)|(simp;done))
   |(show _=[]->_=none;intro q;first|rfl|(simp at q;done)|(have q2:=congrArg List.length q;rw[dd]at q2;simp at q2;done))
   |(show _=List.length _;first|rfl|rw[dd])
   |exact absurd hn0 hn2
   |exact absurd rfl hn1
   |exact⟨Or.inr rfl,⟨trivial,trivial⟩,_,_,rfl,cE,k _ (fun x hx=>by rw[Jz]at hx;simp only[List.nil_append,List.mem_append,List.mem_singleton,List.not_mem_nil,or_false,false_or]at hx;first|exact hx.elim|(rcases hx with rfl|rfl<;>exact⟨by omega,by omega⟩)|(subst hx;exact⟨by omega,by omega⟩))⟩
   |exact⟨Or.inr rfl,⟨trivial,trivial⟩,_,_,rfl,(.aE _ _),k [] (fun x h=>by cases h)⟩
def Us (l:List Int):List PV:=[pL 1 pI l]
def mS (f:bU)(cs:List (List Int)):List PV:=[.str f.cls,.str f.name,.bool f.static,.int .i64 f.params,pL 2 s8 f.vars,.str f.result,pL 10 dh f.code,pL 1 Us cs,.int .i64 (f.vars.length:Nat),.int .i64 ((f.vars.length:Nat)+1:Int),.int .i64 ((f.vars.length:Nat)+2:Int),.int .i64 ((f.vars.length:Nat)+3:Int)]
def Ut (ff:Int->Option PV)(g:Int):Prop:= ∃fl:Int×Int->Option PV,ff g=some (.nC 2 fl)/\ ∀p v,fl p=some v-> ∃b,v= .bool b
def Uu (ff:Int->Option PV)(g a b:Int):Prop:= ∃fl:Int×Int->Option PV,ff g=some (.nC 2 fl)/\fl (a,b)=some (.bool true)
def R8 (ff:Int->Option PV)(cs:List (List Int)):Prop:= ∀i,i<cs.length-> ∀g,g∈el cs i->Ut ff g
theorem wW {u:aF}{lf:List Nat->Option PV}{cf ff:Int->Option PV}{g out:Int}{K:PV->Prop}(hf:Ut ff g)(kt:Uu ff g (-1) out->K (.bool true))(kf: ¬Uu ff g (-1) out->K (.bool false)):PF Tryz.prog X0 Mx 293 [.int .i64 g,.fp [.fp (eU u lf cf ff) 0] 0,.fp [.int .i64 out] 0] K:=by
 have hnt:(14:Nat)<=1000000:=by decide
 refine bD wX (bg _) (by simp) hnt ?_
 obtain⟨fl,hf1,hf2⟩:=hf
 repeat'(first|refine pg ?_|refine af ?_|refine ah ?_|refine aU ?_|refine aX ?_|refine pd ?_|refine fy.mk rfl ?_|(refine xU (fun v hv=>?_) (fun hv=>?_)<;>(rw[hf1]at hv;first|(cases hv;done)|cases hv))|(refine Ht (fun v hv=>?_) (fun hv=>?_))|refine pc ?_|refine pt ?_)
 ·obtain⟨b,rfl⟩:=hf2 _ _ hv
  cases b
  ·repeat'(first|refine pg ?_|refine af ?_|refine ah ?_|refine aU ?_|refine aX ?_|refine pd ?_|refine fy.mk rfl ?_|refine pc ?_|refine pt ?_)
   exact⟨Or.inr rfl,⟨trivial,trivial⟩,_,_,rfl,.refl _,kf (fun⟨fl2,q1,q2⟩=>by rw[hf1]at q1;cases q1;rw[hv]at q2;cases q2)⟩
  ·repeat'(first|refine pg ?_|refine af ?_|refine ah ?_|refine aU ?_|refine aX ?_|refine pd ?_|refine fy.mk rfl ?_|refine pc ?_|refine pt ?_)
   exact⟨Or.inr rfl,⟨trivial,trivial⟩,_,_,rfl,.refl _,kt ⟨fl,hf1,hv⟩⟩
 ·repeat'(first|refine pg ?_|refine af ?_|refine ah ?_|refine aU ?_|refine aX ?_|refine pd ?_|refine fy.mk rfl ?_|refine pc ?_|refine pt ?_)
  exact⟨Or.inr rfl,⟨trivial,trivial⟩,_,_,rfl,.refl _,kf (fun⟨fl2,q1,q2⟩=>by rw[hf1]at q1;cases q1;rw[hv]at q2;cases q2)⟩
theorem sj {u:aF}{lf:List Nat->Option PV}{cf ff:Int->Option PV}{f:bU}{cs:List (List Int)}{i:Nat}{out:Int}{K:PV->Prop}(hi:i<cs.length)(hflc:R8 ff cs)(k: ∀b,K (.bool b)):PF Tryz.prog X0 Mx 265 [.fp (eU u lf cf ff) 0,.fp (mS f cs) 0,.int .i64 (i:Nat),.int .i64 out] K:=by
 have hnt:(18:Nat)<=1000000:=by decide
 refine bD By (bg _) (by simp) hnt ?_
 repeat'(first|refine pg ?_|refine af ?_|refine ah ?_|(refine ai ?_;intro b)|refine aj ?_|(refine dJ (eA (l:=el cs i) (sf:= 293) (caps:=[.fp [.fp (eU u lf cf ff) 0] 0,.fp [.int .i64 out] 0]) (p:=fun g=>Uu ff g (-1) out) (fun g hg K a b=>wW (hflc i hi g hg) a b) (fun j2 h1 h2=>⟨rfl,?_⟩) fun hn=>⟨rfl,?_⟩) rfl rfl rfl (.cons _ _ _ _ (.refl _) (.cons _ _ _ _ (.fn _ _ _ (.cons _ _ _ _ (.ptr _ _ _ _ _ rfl (.refl _)) (.cons _ _ _ _ (.ptr _ _ _ _ _ rfl (.refl _)) .nil))) .nil)))|refine pc ?_|refine pt ?_)
 all_goals exact⟨Or.inr rfl,⟨trivial,trivial⟩,_,_,rfl,.refl _,k _⟩
theorem oW {u:aF}{lf:List Nat->Option PV}{cf ff:Int->Option PV}{f:bU}{cs:List (List Int)}{i:Nat}{d out:Int}{K:PV->Prop}(hi:i<cs.length)(hif:i<f.code.length)(ha:(el f.code i).args.length<=1000000)(hflc:R8 ff cs)(k: ∀b,K (.bool b)):PF Tryz.prog X0 Mx 264 [.fp (eU u lf cf ff) 0,.fp (mS f cs) 0,.int .i64 (i:Nat),.int .i64 d,.int .i64 out] K:=by
 have hnt:(72:Nat)<=1000000:=by decide
 refine bD za (bg _) (by simp) hnt ?_
 repeat'(first|refine pg ?_|refine af ?_|refine ad ?_|refine ah ?_|(refine ak ?_;intro hl)|(refine ai ?_;intro b)|(refine aw ?_ ?_<;>intro hc<;>try first|contradiction|omega)|refine aj ?_|refine aA ?_|refine ay ?_|refine aU ?_|refine aI ?_|(refine bb ?_;intro b2)|(refine PS (f:=pI) (el f.code i).a ?_;intro oid2)|refine pc ?_|refine pt ?_|refine pb ?_)
 ·refine zd [(32,oid2,aL 1 pI ((el f.code i).a::(el f.code i).args))] [(0,.fp (eU u lf cf ff) 0),(3,.int .i64 d),(4,.int .i64 out),(12,pL 1 pI ((el f.code i).a::(el f.code i).args)),(42,pL 1 pI (el cs i)),(43,.int .i64 ((el cs i).length:Nat)),(44,.int .i64 0)] [] (.cons rfl .nil) (.cons rfl (.refl _) (.cons rfl (.refl _) (.cons rfl (.refl _) (.cons rfl cE (.cons rfl (.refl _) (.cons rfl (.refl _) (.cons rfl (.refl _) .nil))))))) .nil ?_
  refine aD (fun j:Nat=>[(0,.fp (eU u lf cf ff) 0),(3,.int .i64 d),(4,.int .i64 out),(12,pL 1 pI ((el f.code i).a::(el f.code i).args)),(42,pL 1 pI (el cs i)),(43,.int .i64 ((el cs i).length:Nat)),(44,.int .i64 (j:Nat))]) (fun _=>[]) (fun j=>j<=(el cs i).length) (fun j=>(el cs i).length-j) 0 (Nat.zero_le _) (.cons rfl (.refl _) (.cons rfl (.refl _) (.cons rfl (.refl _) (.cons rfl (.refl _) (.cons rfl (.refl _) (.cons rfl (.refl _) (.cons rfl (.refl _) (.nil)))))))) .nil ?_
  rintro j hj
  repeat'(first|refine pg ?_|refine af ?_|refine ad ?_|refine ah ?_|(refine ak ?_;intro hl)|(refine ai ?_;intro b)|(refine aw ?_ ?_<;>intro hc<;>try first|contradiction|omega)|refine aj ?_|refine aA ?_|refine ay ?_|refine aU ?_|refine pc ?_|refine pt ?_|refine pb ?_)
  ·obtain⟨fl,hf1,hf2⟩:=hflc i hi (el (el cs i) j) (ba (show j<(el cs i).length by omega))
   refine aD (fun k:Nat=>[(0,.fp (eU u lf cf ff) 0),(3,.int .i64 d),(4,.int .i64 out),(12,pL 1 pI ((el f.code i).a::(el f.code i).args)),(42,pL 1 pI (el cs i)),(43,.int .i64 ((el cs i).length:Nat)),(44,.int .i64 (j:Nat)),(14,.int .i64 (el (el cs i) j)),(48,pL 1 pI ((el f.code i).a::(el f.code i).args)),(49,.int .i64 (((el f.code i).a::(el f.code i).args).length:Nat)),(50,.int .i64 (k:Nat))]) (fun _=>[]) (fun k=>k<=((el f.code i).a::(el f.code i).args).length) (fun k=>((el f.code i).a::(el f.code i).args).length-k) 0 (Nat.zero_le _) (.cons rfl (.refl _) (.cons rfl (.refl _) (.cons rfl (.refl _) (.cons rfl (.refl _) (.cons rfl (.refl _) (.cons rfl (.refl _) (.cons rfl (.refl _) (.cons rfl (.refl _) (.cons rfl (.refl _) (.cons rfl (.refl _) (.cons rfl (.refl _) (.nil)))))))))))) .nil ?_
   rintro m hm
   repeat'(first|refine pg ?_|refine af ?_|refine ad ?_|refine ah ?_|(refine ak ?_;intro hl)|(refine ai ?_;intro b)|(refine aw ?_ ?_<;>intro hc<;>try first|contradiction|omega)|refine aj ?_|refine aA ?_|refine ay ?_|refine aU ?_|(refine mf (fun v hv=>?_) (fun hv=>?_)<;>(rw[hf1]at hv;first|(cases hv;done)|cases hv))|(refine qO (fun v hv=>?_) (fun hv=>?_);(obtain⟨b3,rfl⟩:=hf2 _ _ hv;rcases b3 with _|_))|refine pc ?_|refine pt ?_|refine pb ?_)
   all_goals first
    |exact⟨Or.inr rfl,⟨trivial,trivial⟩,_,_,rfl,.refl _,k _⟩
    |exact⟨m+1,by dsimp only;omega,by dsimp only;omega,(.cons rfl (.refl _) (.cons rfl (.refl _) (.cons rfl (.refl _) (.cons rfl (.refl _) (.cons rfl (.refl _) (.cons rfl (.refl _) (.cons rfl (.refl _) (.cons rfl (.refl _) (.cons rfl (.refl _) (.cons rfl (.refl _) (.cons rfl (.refl _) (.nil)))))))))))),.nil⟩
    |exact⟨j+1,by dsimp only;omega,by dsimp only;omega,(.cons rfl (.refl _) (.cons rfl (.refl _) (.cons rfl (.refl _) (.cons rfl (.refl _) (.cons rfl (.refl _) (.cons rfl (.refl _) (.cons rfl (.refl _) (.nil)))))))),.nil⟩
  ·exact⟨Or.inr rfl,⟨trivial,trivial⟩,_,_,rfl,.refl _,k _⟩
 ·refine aD (fun j:Nat=>[(0,.fp (eU u lf cf ff) 0),(3,.int .i64 d),(4,.int .i64 out),(12,pL 1 pI ((el f.code i).args)),(42,pL 1 pI (el cs i)),(43,.int .i64 ((el cs i).length:Nat)),(44,.int .i64 (j:Nat))]) (fun _=>[]) (fun j=>j<=(el cs i).length) (fun j=>(el cs i).length-j) 0 (Nat.zero_le _) (.cons rfl (.refl _) (.cons rfl (.refl _) (.cons rfl (.refl _) (.cons rfl (.refl _) (.cons rfl (.refl _) (.cons rfl (.refl _) (.cons rfl (.refl _) (.nil)))))))) .nil ?_
  rintro j hj
  repeat'(first|refine pg ?_|refine af ?_|refine ad ?_|refine ah ?_|(refine ak ?_;intro hl)|(refine ai ?_;intro b)|(refine aw ?_ ?_<;>intro hc<;>try first|contradiction|omega)|refine aj ?_|refine aA ?_|refine ay ?_|refine aU ?_|refine pc ?_|refine pt ?_|refine pb ?_)
  ·obtain⟨fl,hf1,hf2⟩:=hflc i hi (el (el cs i) j) (ba (show j<(el cs i).length by omega))
   refine aD (fun k:Nat=>[(0,.fp (eU u lf cf ff) 0),(3,.int .i64 d),(4,.int .i64 out),(12,pL 1 pI ((el f.code i).args)),(42,pL 1 pI (el cs i)),(43,.int .i64 ((el cs i).length:Nat)),(44,.int .i64 (j:Nat)),(14,.int .i64 (el (el cs i) j)),(48,pL 1 pI ((el f.code i).args)),(49,.int .i64 (((el f.code i).args).length:Nat)),(50,.int .i64 (k:Nat))]) (fun _=>[]) (fun k=>k<=((el f.code i).args).length) (fun k=>((el f.code i).args).length-k) 0 (Nat.zero_le _) (.cons rfl (.refl _) (.cons rfl (.refl _) (.cons rfl (.refl _) (.cons rfl (.refl _) (.cons rfl (.refl _) (.cons rfl (.refl _) (.cons rfl (.refl _) (.cons rfl (.refl _) (.cons rfl (.refl _) (.cons rfl (.refl _) (.cons rfl (.refl _) (.nil)))))))))))) .nil ?_
   rintro m hm
   repeat'(first|refine pg ?_|refine af ?_|refine ad ?_|refine ah ?_|(refine ak ?_;intro hl)|(refine ai ?_;intro b)|(refine aw ?_ ?_<;>intro hc<;>try first|contradiction|omega)|refine aj ?_|refine aA ?_|refine ay ?_|refine aU ?_|(refine mf (fun v hv=>?_) (fun hv=>?_)<;>(rw[hf1]at hv;first|(cases hv;done)|cases hv))|(refine qO (fun v hv=>?_) (fun hv=>?_);(obtain⟨b3,rfl⟩:=hf2 _ _ hv;rcases b3 with _|_))|refine pc ?_|refine pt ?_|refine pb ?_)
   all_goals first
    |exact⟨Or.inr rfl,⟨trivial,trivial⟩,_,_,rfl,.refl _,k _⟩
    |exact⟨m+1,by dsimp only;omega,by dsimp only;omega,(.cons rfl (.refl _) (.cons rfl (.refl _) (.cons rfl (.refl _) (.cons rfl (.refl _) (.cons rfl (.refl _) (.cons rfl (.refl _) (.cons rfl (.refl _) (.cons rfl (.refl _) (.cons rfl (.refl _) (.cons rfl (.refl _) (.cons rfl (.refl _) (.nil)))))))))))),.nil⟩
    |exact⟨j+1,by dsimp only;omega,by dsimp only;omega,(.cons rfl (.refl _) (.cons rfl (.refl _) (.cons rfl (.refl _) (.cons rfl (.refl _) (.cons rfl (.refl _) (.cons rfl (.refl _) (.cons rfl (.refl _) (.nil)))))))),.nil⟩
  ·exact⟨Or.inr rfl,⟨trivial,trivial⟩,_,_,rfl,.refl _,k _⟩
def BB (f:bU)(i:Nat)(d x:Int):Prop:=x=d\/x=(el f.code i).dst\/x=f.vars.length\/x=(f.vars.length:Int)+3
theorem zk {u:aF}{lf:List Nat->Option PV}{cf ff:Int->Option PV}{f:bU}{cs:List (List Int)}{i:Nat}{d:Int}{K:PV->Prop}(hi:i<cs.length)(hif:i<f.code.length)(ha:(el f.code i).args.length<=1000000)(hflc:R8 ff cs)(k: ∀l:List Int,(∀x∈l,BB f i d x)->K (pL 1 pI l)):PF Tryz.prog X0 Mx 216 [.fp (eU u lf cf ff) 0,.fp (mS f cs) 0,.int .i64 (i:Nat),.int .i64 d] K:=by
 have hnt:(154:Nat)<=1000000:=by decide
 refine bD zl (bg _) (by simp) hnt ?_
 repeat'(first|refine pg ?_|refine af ?_|refine ad ?_|refine ah ?_|(refine ak ?_;intro hl)|(refine ai ?_;intro b)|(refine aw ?_ ?_<;>intro hc<;>try first|contradiction|omega)|refine aj ?_|refine au ?_|refine ay ?_|refine aI ?_|refine pc ?_|refine pt ?_|refine pb ?_)
 refine cz 33 55 (d=mQ (el f.code i)\/(d=f.vars.length/\(el f.code i).op=15)\/(d=(f.vars.length:Int)+1/\0<(el cs i).length)) (fun b hdr=>?_) (fun J=>?_)
 rotate_left
 ·repeat'(first|(refine J _ _ .su rfl ?_)|refine pg ?_|refine af ?_|refine ad ?_|refine ah ?_|(refine ak ?_;intro hl)|(refine ai ?_;intro b)|(refine aw ?_ ?_<;>intro hc<;>try first|contradiction|omega)|refine aj ?_|refine au ?_|refine ay ?_|refine ae (aa (uh ?_))|refine pc ?_|refine pt ?_|refine pb ?_)
  all_goals first|exact⟨fun _=>by omega,fun _=>rfl⟩|exact⟨fun q=>(by cases q),fun q=>absurd q (by omega)⟩
 rcases b with _|_
 all_goals clear hdr
 all_goals repeat'(first|refine pg ?_|refine af ?_|refine ad ?_|refine ah ?_|(refine ak ?_;intro hl)|(refine ai ?_;intro b)|(refine aw ?_ ?_<;>intro hc<;>try first|contradiction|omega)|refine aj ?_|refine au ?_|refine ay ?_|(refine ae (aa (oW hi hif ha hflc (fun bp=>?_)));rcases bp with _|_)|(refine ae (aa (sj hi hflc (fun bk=>?_)));rcases bk with _|_)|(refine bb ?_;intro b2)|(refine fD (f:=pI) d ?_;intro od)|(refine bV (f:=pI) d ?_ (hb:=by simp);intro od)|(refine fD (f:=pI) (el f.code i).dst ?_;intro od)|(refine bV (f:=pI) (el f.code i).dst ?_ (hb:=by simp);intro od)|(refine fD (f:=pI) (f.vars.length:Int) ?_;intro od)|(refine bV (f:=pI) (f.vars.length:Int) ?_ (hb:=by simp);intro od)|(refine fD (f:=pI) ((f.vars.length:Int)+3) ?_;intro od)|(refine bV (f:=pI) ((f.vars.length:Int)+3) ?_ (hb:=by simp);intro od)|refine pc ?_|refine pt ?_|refine pb ?_)
 all_goals first
  |exact⟨Or.inr rfl,⟨trivial,trivial⟩,_,_,rfl,cE,k _ (fun x hx=>by simp only[List.nil_append,List.mem_append,List.mem_singleton,List.mem_cons,List.not_mem_nil,or_false,false_or]at hx<;>(unfold BB;omega))⟩
  |exact⟨Or.inr rfl,⟨trivial,trivial⟩,_,_,rfl,(.aE _ _),k [] (fun x hx=>by simp only[List.nil_append,List.mem_append,List.mem_singleton,List.mem_cons,List.not_mem_nil,or_false,false_or]at hx<;>(unfold BB;omega))⟩
theorem oX {u:aF}{lf:List Nat->Option PV}{cf ff:Int->Option PV}{f:bU}{cs:List (List Int)}{i:Nat}{d:Int}{K:PV->Prop}(hi:i<cs.length)(hif:i<f.code.length)(ha:(el f.code i).args.length<=1000000)(hflc:R8 ff cs)(k: ∀l:List Int,(∀x∈l,BB f i d x)->K (pL 1 pI l)):PF Tryz.prog X0 Mx 219 [.fp (eU u lf cf ff) 0,.fp (mS f cs) 0,.int .i64 (i:Nat),.int .i64 d] K:=by
 have hnt:(87:Nat)<=1000000:=by decide
 refine bD oY (bg _) (by simp) hnt ?_
 repeat'(first|refine pg ?_|refine af ?_|refine ad ?_|refine ah ?_|(refine ak ?_;intro hl)|(refine ai ?_;intro b)|(refine aw ?_ ?_<;>intro hc<;>try first|contradiction|omega)|refine aj ?_|refine ay ?_|refine aI ?_|(refine ae (aa (oW hi hif ha hflc (fun bp=>?_)));rcases bp with _|_)|(refine ae (aa (sj hi hflc (fun bk=>?_)));rcases bk with _|_)|(refine bb ?_;intro b2)|(refine fD (f:=pI) d ?_;intro od)|(refine bV (f:=pI) d ?_ (hb:=by simp);intro od)|(refine fD (f:=pI) (el f.code i).dst ?_;intro od)|(refine bV (f:=pI) (el f.code i).dst ?_ (hb:=by simp);intro od)|(refine fD (f:=pI) (f.vars.length:Int) ?_;intro od)|(refine bV (f:=pI) (f.vars.length:Int) ?_ (hb:=by simp);intro od)|(refine fD (f:=pI) ((f.vars.length:Int)+3) ?_;intro od)|(refine bV (f:=pI) ((f.vars.length:Int)+3) ?_ (hb:=by simp);intro od)|refine pc ?_|refine pt ?_|refine pb ?_)
 all_goals first
  |exact⟨Or.inr rfl,⟨trivial,trivial⟩,_,_,rfl,cE,k _ (fun x hx=>by simp only[List.nil_append,List.mem_append,List.mem_singleton,List.mem_cons,List.not_mem_nil,or_false,false_or]at hx<;>(unfold BB;omega))⟩
  |exact⟨Or.inr rfl,⟨trivial,trivial⟩,_,_,rfl,(.aE _ _),k [] (fun x hx=>by simp only[List.nil_append,List.mem_append,List.mem_singleton,List.mem_cons,List.not_mem_nil,or_false,false_or]at hx<;>(unfold BB;omega))⟩
def pQ (p:Int×Int):List PV:=[.int .i64 p.1,.int .i64 p.2]
def oT (sn:Int×Int->Bool)(p:Int×Int):Option PV:=if sn p=true then some (.bool true)else none
def gn (sn:Int×Int->Bool)(a:Int×Int)(p:Int×Int):Bool:=if p=a then true else sn p
def FH (U:List (Int×Int))(sn:Int×Int->Bool):Nat:=(U.filter fun p=>!sn p).length
theorem JC {a:Int×Int}{sn:Int×Int->Bool}: ∀{U:List (Int×Int)},FH U (gn sn a)<=FH U sn
 |[]=>Nat.le_refl _
 |p::U=>by
  have ih:=JC (a:=a) (sn:=sn) (U:=U)
  unfold FH at ih⊢
  rw[List.filter_cons,List.filter_cons]
  by_cases e:p=a
  ·rw[if_neg (by simp[gn,e])];split<;>simp<;>omega
  ·rw[show gn sn a p=sn p by unfold gn;rw[if_neg e]];split<;>simp<;>omega
theorem DP {a:Int×Int}{sn:Int×Int->Bool}(ha:sn a=false): ∀{U:List (Int×Int)},a∈U->FH U (gn sn a)+1<=FH U sn
 |[],h=>by cases h
 |p::U,h=>by
  by_cases e:p=a
  ·have ih:=JC (a:=a) (sn:=sn) (U:=U)
   unfold FH at ih⊢
   rw[List.filter_cons,List.filter_cons,if_neg (by simp[gn,e]),if_pos (by rw[e,ha];rfl),List.length_cons]
   omega
  ·have ih:=DP ha (U:=U) ((List.mem_cons.1 h).resolve_left fun q=>e q.symm)
   unfold FH at ih⊢
   rw[List.filter_cons,List.filter_cons,show gn sn a p=sn p by unfold gn;rw[if_neg e]]
   split<;>simp<;>omega
theorem MR {sn:Int×Int->Bool}{a:Int×Int}(k:Int×Int):(if k=a then some (PV.bool true)else oT sn k)=oT (gn sn a) k:=by
 unfold oT gn
 by_cases e:k=a
 ·rw[if_pos e,if_pos e];rfl
 ·rw[if_neg e,if_neg e]
theorem JD {sn:Int×Int->Bool}{a:Int×Int}(h:oT sn a=none):sn a=false:=by
 unfold oT at h
 split at h
 ·cases h
 ·exact Bool.eq_false_iff.2 (by assumption)
theorem FI {sn:Int×Int->Bool}{a:Int×Int}{v:PV}(h:oT sn a=some v):v= .bool true:=by
 unfold oT at h
 split at h
 ·cases h;rfl
 ·cases h
abbrev MS (i1 i2 im:Nat)(aT:Option Nat)(sn:Int×Int->Bool)(l:List (Int×Int)):aJ:=[(1001,some i1,.cells [.gC 1003 im]),(1002,some i2,.cells [oL 1004 aT 2 l]),(1003,some im,.map 2 (oT sn)),(1004,aT,aL 2 pQ l)]
structure BC (U:List (Int×Int))(m:Nat)(sn:Int×Int->Bool)(l:List (Int×Int)):Prop where
 mem: ∀q,q∈l->q∈U/\0<=q.1
 le:2*FH U sn+l.length<=m
theorem BC.add {U:List (Int×Int)}{m:Nat}{sn:Int×Int->Bool}{l:List (Int×Int)}(h:BC U m sn l){a:Int×Int}(ha:a∈U)(h0:0<=a.1)(hn:sn a=false):BC U m (gn sn a) (l++[a]):=⟨fun q hq=>by
 rcases List.mem_append.1 hq with q1|q1
 ·exact h.mem q q1
 ·rw[List.mem_singleton.1 q1];exact⟨ha,h0⟩,by
 have:=DP hn ha
 have:=h.le
 rw[List.length_append,List.length_singleton];omega⟩
theorem gD {U:List (Int×Int)}{m i1 i2 im:Nat}{aT:Option Nat}{sn:Int×Int->Bool}{l:List (Int×Int)}{j:Int}{fs:List Int}{K:PV->aJ->Prop}(hU: ∀d∈fs,(j,d)∈U)(hj:0<=j)(hm:m<=1000000000000)(hI:BC U m sn l)(kk: ∀sn l aT,BC U m sn l->K (.bn []) (MS i1 i2 im aT sn l)):sc Tryz.prog X0 Mx 215 [.int .i64 j,pL 1 pI fs,.ptr 1001 i1 0,.ptr 1002 i2 0] (MS i1 i2 im aT sn l) K:=by
 have hnt:(29:Nat)<=1000000:=by decide
 refine lz (qN wY (bg _) (by simp) hnt ?_)
 unfold MS
 repeat'(first|refine pg ?_|refine af ?_|refine ad ?_|refine ah ?_|(refine ak ?_;intro hl)|(refine ai ?_;intro b)|(refine aw ?_ ?_<;>intro hc<;>try first|contradiction|omega)|refine aj ?_|refine aA ?_|refine au ?_|refine aU ?_|refine pc ?_|refine pt ?_|refine pb ?_)
 refine aD (ι:=Nat×(Int×Int->Bool)×List (Int×Int)×Option Nat) (fun q=>[(0,.int .i64 j),(2,.ptr 1001 i1 0),(3,.ptr 1002 i2 0),(9,pL 1 pI fs),(10,.int .i64 (fs.length:Nat)),(11,.int .i64 (q.1:Nat))]) (fun q=>MS i1 i2 im q.2.2.2 q.2.1 q.2.2.1) (fun q=>q.1<=fs.length/\BC U m q.2.1 q.2.2.1) (fun q=>fs.length-q.1) (0,sn,l,aT) ⟨Nat.zero_le _,hI⟩ (.cons rfl (.refl _) (.cons rfl (.refl _) (.cons rfl (.refl _) (.cons rfl (.refl _) (.cons rfl (.refl _) (.cons rfl (.refl _) (.nil))))))) (.cons rfl (.refl _) (.cons rfl (.refl _) (.cons rfl (.refl _) (.cons rfl (.refl _) (.nil))))) ?_
 rintro⟨k,sn,l,aT⟩ ⟨hk,hI⟩
 dsimp only at hk hI⊢
 have hle:=hI.le
 repeat'(first|refine pg ?_|refine af ?_|refine ad ?_|refine ah ?_|(refine ak ?_;intro hl)|(refine ai ?_;intro b)|(refine aw ?_ ?_<;>intro hc<;>try first|contradiction|omega)|refine aj ?_|refine aA ?_|refine au ?_|refine aU ?_|(refine JE (fun v hv=>?_) (fun hv=>?_);(obtain rfl:=FI hv))|refine DQ ?_|refine aI ?_|(refine bb ?_;intro b2)|(refine bV (f:=pQ) (j,el fs k) ?_;intro oid2)|refine pc ?_|refine pt ?_|refine pb ?_)
 ·exact⟨(k+1,sn,l,aT),by dsimp only;omega,⟨by dsimp only;omega,hI⟩,(.cons rfl (.refl _) (.cons rfl (.refl _) (.cons rfl (.refl _) (.cons rfl (.refl _) (.cons rfl (.refl _) (.cons rfl (.refl _) (.nil))))))),(.cons rfl (.refl _) (.cons rfl (.refl _) (.cons rfl (.refl _) (.cons rfl (.refl _) (.nil)))))⟩
 ·exact⟨(k+1,gn sn (j,el fs k),l++[(j,el fs k)],oid2),by dsimp only;omega,⟨by dsimp only;omega,hI.add (hU _ (ba (show k<fs.length by omega))) hj (JD hv)⟩,(.cons rfl (.refl _) (.cons rfl (.refl _) (.cons rfl (.refl _) (.cons rfl (.refl _) (.cons rfl (.refl _) (.cons rfl (.refl _) (.nil))))))),(.cons rfl (.refl _) (.cons rfl (.refl _) (.cons rfl (.map _ _ _ MR) (.cons rfl (.refl _) .nil))))⟩
 ·exact⟨Or.inl rfl,trivial,_,rfl,[],fun p=>p,MS i1 i2 im aT sn l,_,b9.zs .nil (.cons rfl rfl (.refl _) (.cons rfl rfl (.refl _) (.cons rfl rfl (.refl _) (.cons rfl rfl (.refl _) .nil)))),.refl _,kk _ _ _ hI⟩
def mi (f:bU):List Int:=(List.range (f.code.length+2)).map (fun i=>((i:Nat):Int))++f.code.map (·.qQ)
def nT (f:bU)(d0:Int):List Int:=d0::(f.vars.length:Int)::((f.vars.length:Int)+3)::f.code.map (·.dst)
def jK (f:bU)(d0:Int):List (Int×Int):=(mi f).flatMap fun p=>(nT f d0).map fun d=>(p,d)
theorem oZ {f:bU}{d0 p d:Int}(h1:p∈mi f)(h2:d∈nT f d0):(p,d)∈jK f d0:=List.mem_flatMap.2 ⟨p,h1,List.mem_map.2 ⟨d,h2,rfl⟩⟩
theorem MT {f:bU}{d0:Int}{q:Int×Int}(h:q∈jK f d0):q.2∈nT f d0:=by
 obtain⟨p,h1,h2⟩:=List.mem_flatMap.1 h
 obtain⟨d,h3,rfl⟩:=List.mem_map.1 h2
 exact h3
theorem FJ {f:bU}{p:Int}(h0:0<=p)(h1:p<=(f.code.length:Int)+1):p∈mi f:=List.mem_append_left _ (List.mem_map.2 ⟨p.toNat,List.mem_range.2 (by omega),by omega⟩)
theorem JF {f:bU}{i:Nat}(h:i<f.code.length):(el f.code i).qQ∈mi f:=List.mem_append_right _ (List.mem_map.2 ⟨_,ba h,rfl⟩)
theorem zm {f:bU}{d0 d x:Int}{i:Nat}(hi:i<f.code.length)(hd:d∈nT f d0)(h:BB f i d x):x∈nT f d0:=by
 rcases h with rfl|rfl|rfl|rfl
 ·exact hd
 ·exact List.mem_cons_of_mem _ (List.mem_cons_of_mem _ (List.mem_cons_of_mem _ (List.mem_map.2 ⟨_,ba hi,rfl⟩)))
 ·exact List.mem_cons_of_mem _ List.mem_cons_self
 ·exact List.mem_cons_of_mem _ (List.mem_cons_of_mem _ List.mem_cons_self)
theorem MU {f:bU}{d0:Int}(h:f.code.length<=100000):(jK f d0).length<=40000000000:=by
 have key: ∀(l:List Int) (m:List Int),(l.flatMap fun p=>m.map fun d=>(p,d)).length=l.length*m.length:=fun l m=>by
  induction l with
  |nil=>simp
  |cons a l ih=>rw[List.flatMap_cons,List.length_append,ih,List.length_map,List.length_cons,Nat.succ_mul,Nat.add_comm]
 unfold jK
 rw[key]
 have h1:(mi f).length<=200002:=by unfold mi;simp;omega
 have h2:(nT f d0).length<=100003:=by unfold nT;simp;omega
 exact Nat.le_trans (Nat.mul_le_mul h1 h2) (by decide)
theorem BC.mono {U:List (Int×Int)}{m M:Nat}{sn:Int×Int->Bool}{l:List (Int×Int)}(h:BC U m sn l)(hm:m<=M):BC U M sn l:=⟨h.mem,Nat.le_trans h.le hm⟩
theorem BC.mu {U:List (Int×Int)}{m M:Nat}{sn:Int×Int->Bool}{l:List (Int×Int)}(h:BC U m sn l)(hm:m<M):2*FH U sn+l.length<M:=Nat.lt_of_le_of_lt h.le hm
theorem MV {a:Int×Int}(k:Int×Int):(if k=a then some (PV.bool true)else none)=oT (gn (fun _=>false) a) k:=by
 unfold oT gn
 by_cases e:k=a
 ·rw[if_pos e,if_pos e];rfl
 ·rw[if_neg e,if_neg e];rfl
theorem BD {u:aF}{lf:List Nat->Option PV}{cf ff:Int->Option PV}{f:bU}{cs:List (List Int)}{d0:Int}{K:PV->Prop}(hcs:cs.length=f.code.length)(hcl:f.code.length<=100000)(ha: ∀i,i<f.code.length->(el f.code i).args.length<=1000000)(hflc:R8 ff cs)(k: ∀sn,K (.nC 2 (oT sn))):PF Tryz.prog X0 Mx 149 [.fp (eU u lf cf ff) 0,.fp (mS f cs) 0,.int .i64 d0] K:=by
 have hnt:(111:Nat)<=1000000:=by decide
 refine bD BE (bg _) (by simp) hnt ?_
 have hul:=MU (d0:=d0) hcl
 repeat'(first|refine pg ?_|refine af ?_|refine ad ?_|refine ah ?_|(refine ak ?_;intro hl)|(refine ai ?_;intro b)|(refine aw ?_ ?_<;>intro hc<;>try first|contradiction|omega)|refine aj ?_|refine aA ?_|refine au ?_|refine ay ?_|refine aU ?_|refine aI ?_|(refine PW ?_ .m;intro bm)|refine DQ ?_|(refine bb ?_;intro b2)|refine pc ?_|refine pt ?_|refine pb ?_)
 refine DA (G':=[(0,.fp (eU u lf cf ff) 0),(1,.fp (mS f cs) 0),(8,.ptr 8 _ 0),(9,.ptr 9 _ 0),(10,.fn 215 [.ptr 8 _ 0,.ptr 9 _ 0]),(11,.int .i64 (f.code.length:Nat))]) (S':=[(8,some _,.cells [.gC 21 _]),(9,some _,.cells [.own 25 (some _) 1 2]),(21,some _,.map 2 (oT (gn (fun _=>false) (0,d0)))),(25,some _,.arr 2 1 fun i=>pQ (el [((0:Int),d0)] i))]) (.cons rfl (.refl _) (.cons rfl (.refl _) (.cons rfl (.refl _) (.cons rfl (.refl _) (.cons rfl (.refl _) (.cons rfl (.refl _) (.nil))))))) (.cons rfl (.refl _) (.cons rfl (.refl _) (.cons rfl (.map _ _ _ MV) (.cons rfl (.arr _ _ _ _ _ (Nat.le_refl _) fun i hi=>dH.of_eq (by obtain rfl:i=0:=(by omega);rfl)) .nil)))) ?_
 refine oV (Z:=[]) (r:=(fun p=>if p=1001 then 8 else if p=1002 then 9 else if p=1003 then 21 else if p=1004 then 25 else p)) (G':=[(0,.fp (eU u lf cf ff) 0),(1,.fp (mS f cs) 0),(8,.ptr 1001 _ 0),(9,.ptr 1002 _ 0),(10,.fn 215 [.ptr 1001 _ 0,.ptr 1002 _ 0]),(11,.int .i64 (f.code.length:Nat))]) (S':=MS _ _ _ (some _) (gn (fun _=>false) (0,d0)) [(0,d0)]) (.cons rfl (.refl _) (.cons rfl (.refl _) (.cons rfl (.Hs _ _ _ _) (.cons rfl (.Hs _ _ _ _) (.cons rfl (.fn _ _ _ (.cons _ _ _ _ (.Hs _ _ _ _) (.cons _ _ _ _ (.Hs _ _ _ _) .nil))) (.cons rfl (.refl _) .nil)))))) (s7.zs .nil (.cons rfl rfl (.cells _ _ (.cons _ _ _ _ (.PX _ _ _) .nil)) (.cons rfl rfl (.cells _ _ (.cons _ _ _ _ (.Uv _ _ _ _ _) .nil)) (.cons rfl rfl (.refl _) (.cons rfl rfl (.refl _) .nil)))) [1001,1002,1003,1004] rfl (by decide)) ?_
 have hI0:BC (jK f d0) (2*(jK f d0).length+1) (gn (fun _=>false) (0,d0)) [(0,d0)]:=⟨fun q hq=>by rw[List.mem_singleton.1 hq];exact⟨oZ (FJ (Int.le_refl 0) (by omega)) List.mem_cons_self,Int.le_refl 0⟩,by
  have:FH (jK f d0) (gn (fun _=>false) (0,d0))<=(jK f d0).length:=List.length_filter_le _ _
  rw[List.length_singleton];omega⟩
 have hM:2*(jK f d0).length+1<=80000000001:=by omega
 generalize 2*(jK f d0).length+1=M at hI0 hM
 (refine aD (ι:=(Int×Int->Bool)×List (Int×Int)×Option Nat) (fun q=>[(0,.fp (eU u lf cf ff) 0),(1,.fp (mS f cs) 0),(8,.ptr 1001 _ 0),(9,.ptr 1002 _ 0),(10,.fn 215 [.ptr 1001 _ 0,.ptr 1002 _ 0]),(11,.int .i64 (f.code.length:Nat))]) (fun q=>MS _ _ _ q.2.2 q.1 q.2.1) (fun q=>BC (jK f d0) M q.1 q.2.1) (fun q=>2*FH (jK f d0) q.1+q.2.1.length) ((gn (fun _=>false) (0,d0)),[(0,d0)],some _) hI0 (.cons rfl (.refl _) (.cons rfl (.refl _) (.cons rfl (.refl _) (.cons rfl (.refl _) (.cons rfl (.refl _) (.cons rfl (.refl _) (.nil))))))) (.cons rfl (.refl _) (.cons rfl (.refl _) (.cons rfl (.refl _) (.cons rfl (.refl _) (.nil))))) ?_)
 rintro⟨sn,l,aT⟩ hI
 dsimp only at hI⊢
 have hle:=hI.le
 rcases Nat.eq_zero_or_pos l.length with hz|hz
 ·repeat'(first|refine pg ?_|refine af ?_|refine ad ?_|refine ah ?_|(refine ak ?_;intro hl)|(refine ai ?_;intro b)|(refine aw ?_ ?_<;>intro hc<;>try first|contradiction|omega)|refine aj ?_|refine aA ?_|refine au ?_|refine ay ?_|refine aU ?_|refine pc ?_|refine pt ?_|refine pb ?_)
  exact⟨Or.inr rfl,⟨trivial,trivial⟩,_,_,rfl,(.gC _ _ _ _ rfl),k _⟩
 have hx:=hI.mem _ (ba (show l.length-1<l.length by omega))
 obtain⟨i,hi⟩:=Int.eq_ofNat_of_zero_le hx.2
 have hd2:=MT hx.1
 generalize hm2:2*FH (jK f d0) sn+(l.length-1)=m2
 have hT:BC (jK f d0) m2 sn (l.take (l.length-1)):=⟨fun q hq=>hI.mem q (List.mem_of_mem_take hq),by rw[List.length_take];omega⟩
 repeat'(first|refine pg ?_|refine af ?_|refine ad ?_|refine ah ?_|(refine ak ?_;intro hl)|(refine ai ?_;intro b)|(refine aw ?_ ?_<;>intro hc<;>try first|contradiction|omega)|refine aj ?_|refine aA ?_|refine au ?_|refine ay ?_|refine aU ?_|refine aX ?_|refine pd ?_|refine fy.mk rfl ?_|refine aI ?_|(refine DR (l.length-1) ?_;intro id q0;first|subst q0|cases q0)|refine uG (j:=0) ?_|refine uG (j:=1) ?_|(refine iy (v:= .int .i64 (i:Nat)) ?_ rfl rfl (by show some (PV.int _ (el l (l.length-1)).1)=_;rw[hi]))|refine iy ?_|refine lq ?_|refine DS (l.length-1) ?_|(refine iF (us:=eN f) ?_ rfl ⟨by show 0+0+7<=12;decide,rfl⟩)|(refine ae (aa (zk (f:=f) (cs:=cs) (i:=i) (by omega) (by omega) (ha i (by omega)) hflc (fun la hla=>?_))))|(refine ae (aa (Hq (fun ln hln=>?_))))|refine pc ?_|refine pt ?_|refine pb ?_)
 ·exact⟨(sn,l.take (l.length-1),some id),hT.mu (by dsimp only;omega),hT.mono (by omega),(.cons rfl (.refl _) (.cons rfl (.refl _) (.cons rfl (.refl _) (.cons rfl (.refl _) (.cons rfl (.refl _) (.cons rfl (.refl _) (.nil))))))),(.cons rfl (.refl _) (.cons rfl (.cells _ _ (.cons _ _ _ _ (Zf.eq (by unfold oL;rw[List.length_take,Nat.min_eq_left (Nat.sub_le _ _)])) .nil)) (.cons rfl (.refl _) (.cons rfl (.arr _ _ _ _ _ (by rw[List.length_take];omega) fun i hi=>dH.of_eq (congrArg pQ (zn (by rw[List.length_take]at hi;omega)).symm)) .nil))))⟩
 have hif:i<f.code.length:=by omega
 have hpx: ∀la:List Int,(∀x∈la,BB f i (el l (l.length-1)).2 x)-> ∀d∈la,(((f.code.length:Nat):Int),d)∈jK f d0:=fun la hla d hd=>oZ (FJ (Int.natCast_nonneg _) (by omega)) (zm hif hd2 (hla d hd))
 refine zd [(14,some _,.cells (dh (el f.code i)))] [(0,.fp (eU u lf cf ff) 0),(1,.fp (mS f cs) 0),(8,.ptr 1001 _ 0),(9,.ptr 1002 _ 0),(10,.fn 215 [.ptr 1001 _ 0,.ptr 1002 _ 0]),(11,.int .i64 (f.code.length:Nat)),(12,.int .i64 (i:Nat)),(14,.fp (dh (el f.code i)) 0),(13,.int .i64 (el l (l.length-1)).2),(15,pL 1 pI la),(76,pL 1 pI ln),(77,.int .i64 (ln.length:Nat)),(78,.int .i64 0)] (MS _ _ _ (some _) sn (l.take (l.length-1))) (.cons rfl .nil) (.cons rfl (.refl _) (.cons rfl (.refl _) (.cons rfl (.refl _) (.cons rfl (.refl _) (.cons rfl (.refl _) (.cons rfl (.refl _) (.cons rfl (.refl _) (.cons rfl (.ptr _ _ _ _ _ rfl (dH.refl _)) (.cons rfl (.refl _) (.cons rfl (.refl _) (.cons rfl (.refl _) (.cons rfl (.refl _) (.cons rfl (.refl _) .nil))))))))))))) (.cons rfl rfl (.refl _) (.cons rfl rfl (.cells _ _ (.cons _ _ _ _ (Zf.eq (by unfold oL;rw[List.length_take,Nat.min_eq_left (Nat.sub_le _ _)])) .nil)) (.cons rfl rfl (.refl _) (.cons rfl rfl (.arr _ _ _ _ _ (by rw[List.length_take];omega) fun i hi=>dH.of_eq (congrArg pQ (zn (by rw[List.length_take]at hi;omega)).symm)) .nil)))) ?_
 refine aD (ι:=Nat×(Int×Int->Bool)×List (Int×Int)×Option Nat) (fun q=>[(0,.fp (eU u lf cf ff) 0),(1,.fp (mS f cs) 0),(8,.ptr 1001 _ 0),(9,.ptr 1002 _ 0),(10,.fn 215 [.ptr 1001 _ 0,.ptr 1002 _ 0]),(11,.int .i64 (f.code.length:Nat)),(12,.int .i64 (i:Nat)),(14,.fp (dh (el f.code i)) 0),(13,.int .i64 (el l (l.length-1)).2),(15,pL 1 pI la),(76,pL 1 pI ln),(77,.int .i64 (ln.length:Nat)),(78,.int .i64 (q.1:Nat))]) (fun q=>MS _ _ _ q.2.2.2 q.2.1 q.2.2.1) (fun q=>q.1<=ln.length/\BC (jK f d0) m2 q.2.1 q.2.2.1) (fun q=>ln.length-q.1) (0,sn,l.take (l.length-1),some id) ⟨Nat.zero_le _,hT⟩ (.cons rfl (.refl _) (.cons rfl (.refl _) (.cons rfl (.refl _) (.cons rfl (.refl _) (.cons rfl (.refl _) (.cons rfl (.refl _) (.cons rfl (.refl _) (.cons rfl (.refl _) (.cons rfl (.refl _) (.cons rfl (.refl _) (.cons rfl (.refl _) (.cons rfl (.refl _) (.cons rfl (.refl _) (.nil)))))))))))))) (.cons rfl (.refl _) (.cons rfl (.refl _) (.cons rfl (.refl _) (.cons rfl (.refl _) (.nil))))) ?_
 rintro⟨k2,Ua,l2,oid2⟩ ⟨hk2,hI2⟩
 dsimp only at hk2 hI2⊢
 repeat'(first|refine pg ?_|refine af ?_|refine ad ?_|refine ah ?_|(refine ak ?_;intro hl)|(refine ai ?_;intro b)|(refine aw ?_ ?_<;>intro hc<;>try first|contradiction|omega)|refine aj ?_|refine aA ?_|refine au ?_|refine ay ?_|refine aU ?_|(refine ae (gD (U:=(jK f d0)) (m:=m2) (j:=(el ln k2)) (fs:=la) (fun d hd=>oZ (FJ (hln _ (ba (show k2<ln.length by omega))).1 (by have:=(hln _ (ba (show k2<ln.length by omega))).2;omega)) (zm hif hd2 (hla d hd))) (hln _ (ba (show k2<ln.length by omega))).1 (by omega) (by assumption) (fun Ss l4 oid4 hI4=>?_)))|(refine ae (gD (U:=(jK f d0)) (m:=m2) (j:=((f.code.length:Nat):Int)) (fs:=la) (hpx la hla) (Int.natCast_nonneg _) (by omega) (by assumption) (fun Ub l5 oid5 hI5=>?_)))|(refine ae (aa (Bu (fun br=>?_)));rcases br with _|_)|(refine ae (aa (oX (f:=f) (cs:=cs) (i:=i) (by omega) (by omega) (ha i (by omega)) hflc (fun lx hlx=>?_))))|(refine ae (gD (U:=(jK f d0)) (m:=m2) (j:=(el f.code i).qQ) (fs:=lx) (fun d hd=>oZ (JF hif) (zm hif hd2 (hlx d hd))) (by omega) (by omega) (by assumption) (fun Sv l6 oid6 hI6=>?_)))|(refine ae (gD (U:=(jK f d0)) (m:=m2) (j:=(((f.code.length:Nat):Int)+1)) (fs:=lx) (fun d hd=>oZ (FJ (by omega) (by omega)) (zm hif hd2 (hlx d hd))) (by omega) (by omega) (by assumption) (fun Sv l6 oid6 hI6=>?_)))|refine pc ?_|refine pt ?_|refine pb ?_)
 ·exact⟨(k2+1,Ss,l4,oid4),by dsimp only;omega,⟨by dsimp only;omega,hI4⟩,(.cons rfl (.refl _) (.cons rfl (.refl _) (.cons rfl (.refl _) (.cons rfl (.refl _) (.cons rfl (.refl _) (.cons rfl (.refl _) (.cons rfl (.refl _) (.cons rfl (.refl _) (.cons rfl (.refl _) (.cons rfl (.refl _) (.cons rfl (.refl _) (.cons rfl (.refl _) (.cons rfl (.refl _) (.nil)))))))))))))),(.cons rfl (.refl _) (.cons rfl (.refl _) (.cons rfl (.refl _) (.cons rfl (.refl _) (.nil)))))⟩
 all_goals exact⟨(_,_,_),BC.mu (by assumption) (by dsimp only;omega),BC.mono (by assumption) (by omega),(.cons rfl (.refl _) (.cons rfl (.refl _) (.cons rfl (.refl _) (.cons rfl (.refl _) (.cons rfl (.refl _) (.cons rfl (.refl _) (.nil))))))),(.cons rfl (.refl _) (.cons rfl (.refl _) (.cons rfl (.refl _) (.cons rfl (.refl _) (.nil)))))⟩
def Hu (f:bU)(x:wF):Prop:= -2<=x.sW/\x.sW<f.params/\(x.out= -1\/x.out= -2)
theorem tJ {f:bU}{l:List wF}{x:wF}(h: ∀y∈l,Hu f y)(hx:Hu f x): ∀y∈l++[x],Hu f y:=fun y hy=>by
 rcases List.mem_append.1 hy with q|q
 ·exact h y q
 ·rw[List.mem_singleton.1 q];exact hx
structure Vz (ff:Int->Option PV)(f:bU)(cs:List (List Int)):Prop where
 len:cs.length=f.code.length
 cl:f.code.length<=100000
 ar: ∀i,i<f.code.length->(el f.code i).args.length<=1000000
 fl:R8 ff cs
 pr:f.params<=1000000
theorem DT {u:aF}{lf:List Nat->Option PV}{cf ff:Int->Option PV}{f:bU}{cs:List (List Int)}{K:PV->aJ->Prop}(hb:Vz ff f cs)(k: ∀aT l,(∀x∈l,Hu f x)->K (oL 78 aT 2 l) [(78,aT,aL 2 qw l)]):sc Tryz.prog X0 Mx 99 [.fp (eU u lf cf ff) 0,.fp (mS f cs) 0] [] K:=by
 have hnt:(91:Nat)<=1000000:=by decide
 refine lz (qN DU (bg _) (by simp) hnt ?_)
 have hpr:=hb.pr
 have hcl:=hb.cl
 repeat'(first|refine pg ?_|refine af ?_|refine ah ?_|(refine ak ?_;intro hl)|(refine aw ?_ ?_<;>intro hc<;>try first|contradiction|omega)|refine aA ?_|refine aU ?_|refine pc ?_|refine pt ?_|refine pb ?_)
 refine aD (ι:=Int×Option Nat×List wF) (fun q=>[(0,.fp (eU u lf cf ff) 0),(1,.fp (mS f cs) 0),(5,oL 78 q.2.1 2 q.2.2),(6,.int .i64 (f.code.length:Nat)),(7,.int .i64 q.1)]) (fun q=>[(78,q.2.1,aL 2 qw q.2.2)]) (fun q=> -2<=q.1/\(q.2.2.length:Int)<=2*(q.1+2)/\ ∀x∈q.2.2,Hu f x) (fun q=>(f.params-q.1).toNat) (-2,none,[]) ⟨Int.le_refl _,Int.le_refl _,fun x hx=>by cases hx⟩ (.cons rfl (.refl _) (.cons rfl (.refl _) (.cons rfl (.kR 78 2) (.cons rfl (.refl _) (.cons rfl (.refl _) .nil))))) (.kR .nil) ?_
 rintro⟨a,aT,l⟩ ⟨ha,hl,hp⟩
 dsimp only at ha hl hp⊢
 repeat'(first|refine pg ?_|refine af ?_|refine ah ?_|(refine ak ?_;intro hl)|(refine aw ?_ ?_<;>intro hc<;>try first|contradiction|omega)|refine aA ?_|refine aU ?_|refine aX ?_|refine pd ?_|refine fy.mk rfl ?_|(refine ae (aa (BD hb.len hb.cl hb.ar hb.fl (fun sn=>?_))))|(refine qO (fun v hv=>?_) (fun hv=>?_);(obtain rfl:=FI hv))|(refine bb ?_;intro b2)|(refine bV (f:=qw) ⟨a,-1⟩ ?_;intro oid2)|(refine bV (f:=qw) ⟨a,-2⟩ ?_ (hb:=by(try simp only[List.length_append,List.length_singleton]);omega);intro oid3)|refine pc ?_|refine pt ?_|refine pb ?_)
 all_goals first
  |exact⟨Or.inr rfl,⟨trivial,trivial⟩,_,rfl,[],fun p=>p,[(78,aT,aL 2 qw l)],_,b9.zs .nil (.cons rfl rfl (.refl _) .nil),.refl _,k aT l hp⟩
  |exact⟨(a+1,oid3,l++[⟨a,-1⟩]++[⟨a,-2⟩]),by dsimp only;omega,⟨by dsimp only;omega,by dsimp only;(try simp only[List.length_append,List.length_singleton]);omega,(tJ (tJ hp ⟨by dsimp only;omega,by dsimp only;omega,Or.inl rfl⟩) ⟨by dsimp only;omega,by dsimp only;omega,Or.inr rfl⟩)⟩,(.cons rfl (.refl _) (.cons rfl (.refl _) (.cons rfl (.refl _) (.cons rfl (.refl _) (.cons rfl (.refl _) (.nil)))))),(.cons rfl (.refl _) (.nil))⟩
  |exact⟨(a+1,oid3,l++[⟨a,-2⟩]),by dsimp only;omega,⟨by dsimp only;omega,by dsimp only;(try simp only[List.length_append,List.length_singleton]);omega,(tJ hp ⟨by dsimp only;omega,by dsimp only;omega,Or.inr rfl⟩)⟩,(.cons rfl (.refl _) (.cons rfl (.refl _) (.cons rfl (.refl _) (.cons rfl (.refl _) (.cons rfl (.refl _) (.nil)))))),(.cons rfl (.refl _) (.nil))⟩
  |exact⟨(a+1,oid2,l++[⟨a,-1⟩]),by dsimp only;omega,⟨by dsimp only;omega,by dsimp only;(try simp only[List.length_append,List.length_singleton]);omega,(tJ hp ⟨by dsimp only;omega,by dsimp only;omega,Or.inl rfl⟩)⟩,(.cons rfl (.refl _) (.cons rfl (.refl _) (.cons rfl (.refl _) (.cons rfl (.refl _) (.cons rfl (.refl _) (.nil)))))),(.cons rfl (.refl _) (.nil))⟩
  |exact⟨(a+1,aT,l),by dsimp only;omega,⟨by dsimp only;omega,by dsimp only;(try simp only[List.length_append,List.length_singleton]);omega,hp⟩,(.cons rfl (.refl _) (.cons rfl (.refl _) (.cons rfl (.refl _) (.cons rfl (.refl _) (.cons rfl (.refl _) (.nil)))))),(.cons rfl (.refl _) (.nil))⟩
noncomputable def s9 (u:aF)(f:bU):Nat->List (List Int)
 |0=>[]
 |k+1=>s9 u f k++[ui u f (el f.code k)]
theorem lD {u:aF}{f:bU}: ∀{k:Nat},(s9 u f k).length=k
 |0=>rfl
 |k+1=>by rw[s9,List.length_append,lD];rfl
theorem FK {u:aF}{f:bU}{i:Nat}: ∀{k:Nat},i<k->el (s9 u f k) i=ui u f (el f.code i)
 |0,h=>absurd h (Nat.not_lt_zero _)
 |k+1,h=>by
  rw[s9,gW,lD]
  by_cases q:i<k
  ·rw[if_pos q,FK q]
  ·rw[if_neg q,show i=k by omega,Nat.sub_self];rfl
abbrev Uw (f:bU)(aT:Option Nat)(c:List (List Int)):List PV:=[.str f.cls,.str f.name,.bool f.static,.int .i64 f.params,pL 2 s8 f.vars,.str f.result,pL 10 dh f.code,oL 48 aT 1 c,.int .i64 (f.vars.length:Nat),.int .i64 ((f.vars.length:Nat)+1:Int),.int .i64 ((f.vars.length:Nat)+2:Int),.int .i64 ((f.vars.length:Nat)+3:Int)]
theorem DV {u:aF}{w1 w2 w3:PV}{n:Nat}{K:PV->Prop}(hi:n<u.fns.length)(cg:u.cl.length<=64)(AK: ∀c m d t,bE u.cl c m=some (d,t)->t.params.length*16<=140737488355328)(hcl:(el u.fns n).code.length<=1000000)(hv:(el u.fns n).vars.length<=1000000)(k:K (.fp (mS (el u.fns n) (s9 u (el u.fns n) (el u.fns n).code.length)) 0)):PF Tryz.prog X0 Mx 98 [.fp (Dw u w1 w2 w3) 0,.int .i64 (n:Nat)] K:=by
 have hnt:(53:Nat)<=1000000:=by decide
 refine bD DW (bg _) (by simp) hnt ?_
 repeat'(first|refine pg ?_|refine af ?_|refine ad ?_|refine ah ?_|(refine ak ?_;intro hl)|(refine ai ?_;intro b)|(refine aw ?_ ?_<;>intro hc<;>try first|contradiction|omega)|refine aj ?_|refine aA ?_|refine au ?_|refine ay ?_|refine aU ?_|refine aI ?_|refine pc ?_|refine pt ?_|refine pb ?_)
 refine aD (ι:=Nat×Option Nat) (fun q=>[(0,.fp (Dw u w1 w2 w3) 0),(5,.ptr 5 _ 0),(7,.ptr 30 _ 0),(32,pL 10 dh (el u.fns n).code),(33,.int .i64 ((el u.fns n).code.length:Nat)),(34,.int .i64 (q.1:Nat))]) (fun q=>[(5,some _,.cells (eN (el u.fns n))),(30,some _,.cells (Uw (el u.fns n) q.2 (s9 u (el u.fns n) q.1))),(48,q.2,aL 1 Us (s9 u (el u.fns n) q.1))]) (fun q=>q.1<=(el u.fns n).code.length) (fun q=>(el u.fns n).code.length-q.1) (0,none) (Nat.zero_le _) (.cons rfl (.refl _) (.cons rfl (.refl _) (.cons rfl (.refl _) (.cons rfl (.refl _) (.cons rfl (.refl _) (.cons rfl (.refl _) (.nil))))))) (.cons rfl (.refl _) (.cons rfl (.cells _ _ (.cons _ _ _ _ (.refl _) (.cons _ _ _ _ (.refl _) (.cons _ _ _ _ (.refl _) (.cons _ _ _ _ (.refl _) (.cons _ _ _ _ (.refl _) (.cons _ _ _ _ (.refl _) (.cons _ _ _ _ (.refl _) (.cons _ _ _ _ (.kR 48 1) (dH.refl _)))))))))) (.kR .nil))) ?_
 rintro⟨j,aT⟩ hj
 dsimp only at hj⊢
 have hlj:=lD (u:=u) (f:=(el u.fns n)) (k:=j)
 repeat'(first|refine pg ?_|refine af ?_|refine ad ?_|refine ah ?_|(refine ak ?_;intro hl)|(refine ai ?_;intro b)|(refine aw ?_ ?_<;>intro hc<;>try first|contradiction|omega)|refine aj ?_|refine aA ?_|refine au ?_|refine ay ?_|refine aU ?_|refine aX ?_|refine pd ?_|refine fy.mk rfl ?_|refine aI ?_|refine ix (aR (nE cg AK hcl ?_))|(refine bb ?_;intro b2)|(refine bV (f:=Us) (ui u (el u.fns n) (el (el u.fns n).code j)) ?_;intro oid2)|refine AL ?_|refine pc ?_|refine pt ?_|refine pb ?_)
 ·exact⟨(j+1,oid2),by dsimp only;omega,by dsimp only;omega,(.cons rfl (.refl _) (.cons rfl (.refl _) (.cons rfl (.refl _) (.cons rfl (.refl _) (.cons rfl (.refl _) (.cons rfl (.refl _) (.nil))))))),(.cons rfl (.refl _) (.cons rfl (.refl _) (.cons rfl (.refl _) (.nil))))⟩
 ·rw[<-show j=(el u.fns n).code.length by omega]at k
  exact⟨Or.inr rfl,⟨trivial,trivial⟩,_,_,rfl,(.ptr _ _ _ _ _ rfl (.cons _ _ _ _ (.refl _) (.cons _ _ _ _ (.refl _) (.cons _ _ _ _ (.refl _) (.cons _ _ _ _ (.refl _) (.cons _ _ _ _ (.refl _) (.cons _ _ _ _ (.refl _) (.cons _ _ _ _ (.refl _) (.cons _ _ _ _ cE (dH.refl _)))))))))),k⟩
end Go.Proofs.YtemehfgkfidgjaaGreatDoor.Ev
