/- CoverStates, part 23 -/
import Derived.Test.YtemehfgkfidgjaaGreatDoorCvI
set_option linter.all false
set_option maxHeartbeats 4000000
namespace Go.Proofs.YtemehfgkfidgjaaGreatDoor.Ev
open Go
open Classical
theorem dI {c:Prop} [Decidable c] {a b:Int}(ha:a≠0)(h:(if c then a else b)=0): ¬c/\b=0:=by
 by_cases q:c
 ·rw[if_pos q]at h;exact absurd h ha
 ·rw[if_neg q]at h;exact⟨q,h⟩
theorem Bz {a b:Int}{_:Decidable (a≠0)}(h:(if a≠0 then a else b)=0):a=0/\b=0:=by
 by_cases q:a=0
 ·rw[if_neg (not_not.2 q)]at h;exact⟨q,h⟩
 ·rw[if_pos q]at h;exact absurd h q
theorem fC {cl:List aN}(h:gb cl=0):cl.length<=64/\ ∀i,i<cl.length->lJ cl i=0:=by
 unfold gb at h
 obtain⟨h1,h2⟩:=dI dc h
 exact⟨om,gk h2⟩
theorem gm {cl:List aN}{i:Nat}(h:lJ cl i=0):du (el cl i).name/\aO (bH cl) (el cl i).name=i/\(cw cl (el cl i).name).2=false/\(el cl i).methods.length<=16/\ ∀j,j<(el cl i).methods.length->fV cl i j=0:=by
 unfold lJ at h
 obtain⟨h1,h⟩:=dI dc h
 obtain⟨h2,h⟩:=dI dc h
 obtain⟨h3,h⟩:=dI dc h
 obtain⟨h4,h⟩:=dI dc h
 obtain⟨h5,h⟩:=dI dc h
 obtain⟨h6,h⟩:=Bz h
 exact⟨not_not.1 h1,not_not.1 h2,by simpa using h4,om,gk h⟩
theorem uD {cl:List aN}{i j:Nat}(h:fV cl i j=0):(el (el cl i).methods j).params.length<=6:=by
 unfold fV at h
 obtain⟨h1,h⟩:=dI dc h
 obtain⟨h2,h⟩:=dI dc h
 obtain⟨h3,h⟩:=dI dc h
 omega
theorem tN {cl:List aN}(h: ∀i,i<cl.length->(el cl i).methods.length<=16): ∀j,j<=cl.length->(allM (cl.take j)).length<=16*j
 |0,_=>Nat.zero_le _
 |j+1,hj=>by
  have h1:=tN h j om
  have h2:=jT (cl:=cl) (j:=j) om
  have h3:=h j om
  omega
def Sx:List Nat:=[77,97,105,110]
def Sy:List Nat:=[109,97,105,110]
def Ka (f:bU):Prop:=f.cls=Sx/\f.name=Sy/\f.static=true/\f.params=0/\f.result=[]
noncomputable def iG (u:aF):Int:=if ¬gb u.cl=0 then gb u.cl else if 256<u.fns.length then 3 else if(allM u.cl).length≠u.fns.length then 20 else if u.main<0\/(allM u.cl).length<=u.main then 14 else if Ka (el u.fns u.main.toNat)then 0 else 14
theorem Ca {u:aF}{K:PV->Prop}(k:K (.int .i64 (iG u))):PF Tryz.prog X0 Mx 106 [.agg (bK u)] K:=by
 refine Pf Cb fun hnt=>?_
 repeat'(first|refine Qc ?_|(refine Ba ?_ ?_<;>try exact Za)|refine ad ?_|refine ah ?_|refine ak ?_|refine ai ?_|refine ay ?_|(refine ae (aa (B0 (fun i=>?_))))|refine bz (us:=aY u.cl) ?_ rfl rfl ⟨by show 1<=3;decide,rfl⟩|refine pb ?_|intro hc)
 case refine_1.refine_1=>unfold iG at k;replace k:=Ik k;exact E1 k
 case refine_2=>unfold iG at k;replace k:=Ik k;exact E1 k
 have hk:=fC (by assumption:gb u.cl=0)
 have hml:=tN (cl:=u.cl) fun i hi=>(gm (hk.2 i hi)).2.2.2.1
 refine aD (fun j:Nat=>[(1,.ptr 1 _ 0),(5,.int .i64 ((allM (u.cl.take j)).length:Nat)),(6,.int .i64 j)]) (fun _=>[(1,some _,.cells (bK u))]) (fun j=>j<=u.cl.length) (fun j=>u.cl.length-j) 0 (Nat.zero_le _) .su .su ?_
 intro j hj
 have hmj:=hml j hj
 by_cases hlt:j<u.cl.length
 ·have hs:=jT hlt
  have hml1:=(gm (hk.2 j hlt)).2.2.2.1
  repeat'(first|refine Qc ?_|(refine Ba ?_ ?_<;>try exact Za)|refine ad ?_|refine ah ?_|refine ak ?_|refine ai ?_|refine ay ?_|refine pb ?_|intro hc)
  rw[show(((allM (u.cl.take j)).length:Nat):Int)+((el u.cl j).methods.length:Nat)=((allM (u.cl.take (j+1))).length:Nat)by omega]
  exact⟨j+1,by dsimp only;omega,om,.su,.su⟩
 ·have hjl:j=u.cl.length:=by omega
  have ht:(allM (u.cl.take j)).length=(allM u.cl).length:=by rw[hjl,List.take_length]
  rw[ht]at hmj⊢
  repeat'(first|refine Qc ?_|(refine Ba ?_ ?_<;>try exact Za)|refine ad ?_|refine ah ?_|refine ak ?_|refine ai ?_|refine ay ?_|refine aI ?_|refine pb ?_|intro hc)
  all_goals unfold iG at k
  all_goals replace k:=Ik k
  all_goals first
   |exact E1 k
   |(rw[if_pos ⟨by assumption,by assumption,by assumption,by assumption,by assumption⟩]at k;exact E1 k)
   |(rw[if_neg (fun q=>by first|exact absurd q.1 (by assumption)|exact absurd q.2.1 (by assumption)|exact absurd (q.2.2.1.symm.trans (by assumption)) (by decide)|exact absurd q.2.2.2.1 (by assumption)|exact absurd q.2.2.2.2 (by assumption))]at k;exact E1 k)
def jU (l:List bF):Nat:=(l.filter fun x=>decide (x.op=6)).length
def c9 (l:List bU):Nat:=(l.map fun f=>jU f.code).sum
theorem x5 {l:List bF}{j:Nat}(hj:j<l.length):jU (l.take (j+1))=jU (l.take j)+(if(el l j).op=6 then 1 else 0):=by
 have e:el l j=l[j]:=by simp[el,hj]
 rw[List.take_succ_eq_append_getElem hj,jU,List.filter_append,<-e,List.length_append,jU]
 by_cases q:(el l j).op=6<;>simp[q]
theorem FR {l:List bF}{j:Nat}:jU (l.take j)<=l.length:=by
 unfold jU
 have h1:=List.length_filter_le (fun x:bF=>decide (x.op=6)) (l.take j)
 rw[List.length_take]at h1
 omega
theorem uZ {l:List bU}{j:Nat}(hj:j<l.length):c9 (l.take (j+1))=c9 (l.take j)+jU (el l j).code:=by
 have e:el l j=l[j]:=by simp[el,hj]
 rw[List.take_succ_eq_append_getElem hj,c9,List.map_append,List.sum_append,<-e,c9]
 simp
noncomputable def fE (u:aF)(i:Nat):Int:=xk u.cl (el u.fns i) (el (allM u.cl) i).1 (el (allM u.cl) i).2
noncomputable def qu (u:aF):Int:=if ¬iG u=0 then iG u else if ¬bO (fE u) u.fns.length=0 then bO (fE u) u.fns.length else if 1024<c9 u.fns then 3 else 0
theorem jJ {u:aF}(h:iG u=0):gb u.cl=0/\u.fns.length<=256/\(allM u.cl).length=u.fns.length/\0<=u.main/\u.main<u.fns.length/\Ka (el u.fns u.main.toNat):=by
 unfold iG at h
 obtain⟨h1,h⟩:=Bz h
 obtain⟨h2,h⟩:=dI dc h
 obtain⟨h3,h⟩:=dI dc h
 obtain⟨h4,h⟩:=dI dc h
 refine⟨h1,om,not_not.1 h3,om,om,?_⟩
 by_cases q:Ka (el u.fns u.main.toNat)
 ·exact q
 ·rw[if_neg q]at h;exact absurd h dc
theorem ze {cl:List aN}{f:bU}{c:List Nat}{s:bZ}(h:xk cl f c s=0):pq f c s/\f.vars.length<=256/\f.code.length<=1024/\(∀i,i<f.vars.length->jS cl f i=0)/\f.code.length≠0/\ ∀i,i<f.code.length->nR cl f i=0:=by
 unfold xk at h
 obtain⟨h1,h⟩:=dI dc h
 obtain⟨h2,h⟩:=dI dc h
 obtain⟨h3,h⟩:=Bz h
 obtain⟨h4,h⟩:=dI dc h
 exact⟨not_not.1 h1,om,om,gk h3,h4,gk h⟩
theorem P8 {cl:List aN}(h:gb cl=0){i:Nat}(hi:i<(allM cl).length):(el (allM cl) i).2.params.length<=6:=by
 have hm:=ba hi
 unfold allM at hm
 obtain⟨c,hc,hm⟩:=List.mem_flatMap.1 hm
 obtain⟨m,hm,e⟩:=List.mem_map.1 hm
 obtain⟨a,ha,ea⟩:=cm hc
 subst ea
 obtain⟨b,hb,eb⟩:=cm hm
 subst eb
 have:=uD ((gm ((fC h).2 a ha)).2.2.2.2 b hb)
 rw[show(el (allM cl) i).2=el (el cl a).methods b from by unfold allM;rw[<-e]]
 exact this
theorem Cc {u:aF}{K:PV->Prop}(ha: ∀i,i<u.fns.length-> ∀j,j<(el u.fns i).code.length->(el (el u.fns i).code j).args.length<=iC)(k: ∀a b,K (.bn [.int .i64 a,.int .i64 b,.int .i64 (qu u)])):PF Tryz.prog X0 Mx 54 [.agg (bK u)] K:=by
 refine Pf Cd fun hnt=>?_
 repeat'(first|refine Qb ?_|(refine ak ?_;intro hl)|(refine ai ?_;intro b)|(refine Ba ?_ ?_<;>intro hc<;>try exact Zb)|refine ae (aa (Ca ?_))|refine pb ?_)
 rotate_left
 ·specialize k (-1) (-1);unfold qu at k;replace k:=Ik k;exact E1 k
 have hw:=jJ (by assumption:iG u=0)
 have cg:=(fC hw.1).1
 refine aD (fun j:Nat=>[(1,.ptr 1 _ 0),(6,.int .i64 (c9 (u.fns.take j):Nat)),(7,.int .i64 j)]) (fun _=>[(1,some _,.cells (bK u))]) (fun j=>j<=u.fns.length/\(∀i,i<j->fE u i=0)/\c9 (u.fns.take j)<=1024*j) (fun j=>u.fns.length-j) 0 ⟨Nat.zero_le _,gY,Nat.zero_le _⟩ .su .su ?_
 rintro j ⟨hj,hb,hsn⟩
 have hw3:=hw.2.2.1
 have hw2:=hw.2.1
 repeat'(first|refine Qb ?_|(refine ak ?_;intro hl)|(refine ai ?_;intro b)|(refine Ba ?_ ?_<;>intro hc<;>try exact Zb)|refine aX ?_|refine pd ?_|(refine ae (aa (uX ?_ ?_ ?_)))|refine bz (us:=aY u.cl) ?_ rfl rfl ⟨by show 1<=3;decide,rfl⟩|(refine ix (aR (te cg ?_ ?_ (fun at_=>?_))))|(exact P8 hw.1 om)|(exact ha j om)|refine pb ?_)
 ·omega
 ·omega
 ·have hf0:fE u j=0:=by assumption
  have hfo:=ze hf0
  have hfc:=hfo.2.2.1
  refine aD (fun m:Nat=>[(1,.ptr 1 _ 0),(6,.int .i64 ((c9 (u.fns.take j)+jU ((el u.fns j).code.take m):Nat):Int)),(7,.int .i64 j),(13,.int .i64 m)]) (fun _=>[(1,some _,.cells (bK u))]) (fun m=>m<=(el u.fns j).code.length) (fun m=>(el u.fns j).code.length-m) 0 (Nat.zero_le _) .su .su ?_
  intro m hm
  have hcn:=FR (l:=(el u.fns j).code) (j:=m)
  by_cases hlt:m<(el u.fns j).code.length
  ·have hcs:=x5 hlt
   repeat'(first|refine Qb ?_|(refine ak ?_;intro hl)|(refine ai ?_;intro b)|(refine Ba ?_ ?_<;>intro hc<;>try exact Zb)|refine pb ?_)
   ·rw[if_pos (by assumption)]at hcs
    rw[show((c9 (u.fns.take j)+jU ((el u.fns j).code.take m):Nat):Int)+1=((c9 (u.fns.take j)+jU ((el u.fns j).code.take (m+1)):Nat):Int)by omega]
    exact⟨m+1,by dsimp only;omega,om,.su,.su⟩
   ·rw[if_neg (by assumption)]at hcs
    rw[show((c9 (u.fns.take j)+jU ((el u.fns j).code.take m):Nat):Int)=((c9 (u.fns.take j)+jU ((el u.fns j).code.take (m+1)):Nat):Int)by omega]
    exact⟨m+1,by dsimp only;omega,om,.su,.su⟩
  ·have hml:m=(el u.fns j).code.length:=by omega
   have hs:=uZ (l:=u.fns) (j:=j) om
   rw[hml,List.take_length]at hcn⊢
   repeat'(first|refine Qb ?_|(refine ak ?_;intro hl)|(refine ai ?_;intro b)|(refine Ba ?_ ?_<;>intro hc<;>try exact Zb)|refine pb ?_)
   rw[show((c9 (u.fns.take j)+jU (el u.fns j).code:Nat):Int)=((c9 (u.fns.take (j+1)):Nat):Int)by omega]
   refine⟨j+1,by dsimp only;omega,⟨om,fun i hi=>?_,om⟩,.su,.su⟩
   by_cases q:i=j
   ·subst q;exact hf0
   ·exact hb i om
 ·have e:=aW (f:=fE u) (n:=u.fns.length) om hb rfl am
  specialize k (j:Nat) at_;unfold qu at k;replace k:=Ik k;rw[e]at k;replace k:=Ik k;exact E1 k
 all_goals
  have hjl:j=u.fns.length:=by omega
  have hs0:c9 (u.fns.take j)=c9 u.fns:=by rw[hjl,List.take_length]
  have hb0:bO (fE u) u.fns.length=0:=bL fun x hx=>hb x om
 ·specialize k (-1) (-1);unfold qu at k;replace k:=Ik k;exact E1 k
 ·specialize k 0 0;unfold qu at k;replace k:=Ik k;exact E1 k
theorem Bt {u:aF}{K:PV->Prop}(ha: ∀i,i<u.fns.length-> ∀j,j<(el u.fns i).code.length->(el (el u.fns i).code j).args.length<=iC)(k: ∀a b,K (.bn [.int .i64 a,.int .i64 b,.int .i64 (qu u)])):PF Tryz.prog X0 Mx 20 [.agg (bK u)] K:=by
 refine Pf Ce fun hnt=>?_
 repeat'(first|refine Qa ?_|(refine ae (aa (Cc ha fun a b=>?_)))|intro hc)
 specialize k a b
 exact E1 k
noncomputable def lb (l:List (List Nat))(s:List Nat):Option PV:=if 0<=aO l s then some (.int .i64 (aO l s))else none
noncomputable def jf (cl:List aN):List PV:=[pL 4 gS cl,.nC 0 (lb (bH cl))]
theorem vg {l:List (List Nat)}{j:Nat}(hj:j<l.length)(s:List Nat):aO (l.take (j+1)) s=if 0<=aO (l.take j) s then aO (l.take j) s else if el l j=s then(j:Int)else -1:=by
 have e:el l j=l[j]:=by simp[el,hj]
 rw[List.take_succ_eq_append_getElem hj,<-e]
 have hl:(l.take j).length=j:=by rw[List.length_take];omega
 rcases dx (l.take j) s with⟨h1,h2⟩|⟨i,h1,h2,h3,h4⟩
 ·rw[h1,if_neg (by decide)]
  by_cases q:el l j=s
  ·rw[if_pos q]
   refine lG (by simp[hl]) ?_ fun i hi=>?_
   ·rw[gW,if_neg (by omega),hl,Nat.sub_self];exact q
   ·rw[gW,if_pos (by omega)];exact h2 i om
  ·rw[if_neg q]
   refine o0 fun i hi=>?_
   rw[List.length_append,hl]at hi
   rw[gW]
   by_cases w:i<(l.take j).length
   ·rw[if_pos w];exact h2 i w
   ·rw[if_neg w,show i-(l.take j).length=0 by simp at hi;omega];exact q
 ·rw[if_pos (by omega),h1]
  refine lG (by simp;omega) ?_ fun k hk=>?_
  ·rw[gW,if_pos h2];exact h3
  ·rw[gW,if_pos (by omega)];exact h4 k hk
theorem HL {l:List (List Nat)}{j:Nat}(hj:j<l.length){v:PV}(h:lb (l.take j) (el l j)=some v):lb (l.take (j+1))=lb (l.take j):=by
 have h0:0<=aO (l.take j) (el l j):=by
  by_cases q:0<=aO (l.take j) (el l j)
  ·exact q
  ·rw[lb,if_neg q]at h;cases h
 funext s
 unfold lb
 rw[vg hj]
 by_cases q:0<=aO (l.take j) s
 ·rw[if_pos q]
 ·rw[if_neg q]
  by_cases w:el l j=s
  ·rw[w]at h0;exact absurd h0 q
  ·rw[if_neg w,if_neg q];rfl
theorem Kd {l:List (List Nat)}{j:Nat}(hj:j<l.length)(h:lb (l.take j) (el l j)=none):lb (l.take (j+1))=fun k=>if k=el l j then some (.int .i64 (j:Nat))else lb (l.take j) k:=by
 have h0: ¬0<=aO (l.take j) (el l j):=fun q=>by rw[lb,if_pos q]at h;cases h
 funext s
 unfold lb
 rw[vg hj]
 by_cases w:s=el l j
 ·subst w
  rw[if_pos rfl,if_neg h0,if_pos rfl,if_pos (by omega)]
 ·rw[if_neg w]
  by_cases q:0<=aO (l.take j) s
  ·rw[if_pos q]
  ·rw[if_neg q,if_neg (Ne.symm w),if_neg q];rfl
theorem n5 {cl:List aN}{j:Nat}(h:j<cl.length):el (bH cl) j=(el cl j).name:=by
 unfold bH;rw[cW h]
theorem HM {l:List (List Nat)}{s:List Nat}{v:PV}(h:lb l s=some v):0<=aO l s/\v= .int .i64 (aO l s):=by
 unfold lb at h
 by_cases q:0<=aO l s
 ·rw[if_pos q]at h;exact⟨q,(Option.some.inj h).symm⟩
 ·rw[if_neg q]at h;cases h
theorem HN {l:List (List Nat)}{s:List Nat}(h:lb l s=none):aO l s= -1:=by
 unfold lb at h
 by_cases q:0<=aO l s
 ·rw[if_pos q]at h;cases h
 ·have:=(dC (l:=l) (s:=s)).2;omega
theorem dp {cl:List aN}{s:List Nat}{K:PV->Prop}(k:K (.int .i64 (aO (bH cl) s))):PF Tryz.prog X0 Mx 179 [.agg (jf cl),.str s] K:=by
 refine Pf px fun hnt=>?_
 repeat'(first|refine Qa ?_|(refine Ke (fun v hv=>?_) fun hv=>?_)|intro hc)
 ·obtain⟨h0,e⟩:=HM hv
  subst e
  repeat'(first|refine Qa ?_|intro hc)
  exact E1 k
 ·rw[HN hv]at k
  repeat'(first|refine Qa ?_|intro hc)
  exact E1 k
theorem fG {cl:List aN}{K:PV->Prop}(k:K (.agg (jf cl))):PF Tryz.prog X0 Mx 115 [.agg (aY cl)] K:=by
 refine Pf vd fun hnt=>?_
 repeat'(first|refine Qa ?_|(refine Ba ?_ ?_<;>try exact Za)|(refine JH ?_ (.h _ _ _ rfl);intro b)|intro hc)
 refine aD (fun j:Nat=>[(1,.ptr 1 _ 0),(2,.ptr 2 _ 0),(3,.ptr 3 _ 0),(16,pL 4 gS cl),(17,.int .i64 (cl.length:Nat)),(18,.int .i64 j)]) (fun j=>[(1,some _,.cells (aY cl)),(2,some _,.cells [.aE,.dt]),(3,some _,.cells [pL 4 gS cl,.gC 13 _]),(13,some _,.map 0 (lb ((bH cl).take j)))]) (fun j=>j<=cl.length) (fun j=>cl.length-j) 0 (Nat.zero_le _) .su .su ?_
 intro j hj
 repeat'(first|refine Qa ?_|(refine Ba ?_ ?_<;>try exact Za)|(refine Kf (fun v hv=>?_) fun hv=>?_)|refine JJ ?_|intro hc)
 ·rw[<-n5 (by omega)]at hv
  have e:=HL (by rw[cn];omega) hv
  exact⟨j+1,by dsimp only;omega,om,.su,(.c (.c (.c (.cons rfl (by show wB _ (.map 0 (lb ((bH cl).take (j+1))));rw[e];exact .refl _) .nil))))⟩
 ·rw[<-n5 (by omega)]at hv
  have e:=Kd (by rw[cn];omega) hv
  rw[n5 (by omega)]at e
  exact⟨j+1,by dsimp only;omega,om,.su,(.c (.c (.c (.cons rfl (by show wB _ (.map 0 (lb ((bH cl).take (j+1))));rw[e];exact .refl _) .nil))))⟩
 ·have e:(bH cl).take j=bH cl:=List.take_of_length_le (by rw[cn];omega)
  rw[e]
  exact⟨Or.inr rfl,⟨rfl,trivial⟩,_,_,rfl,.agg _ _ (.cons _ _ _ _ (.refl _) (.cons _ _ _ _ (.gC 13 _ 0 _ rfl) .nil)),k⟩
def zS (cl:List aN)(i:Int):Int:=if(el cl i.toNat).dy=[]then -1 else aO (bH cl) (el cl i.toNat).dy
def idx (cl:List aN)(s:List Nat):Int:=aO (bH cl) s
noncomputable def pA (l:List Int)(k:Int):Option PV:=if k∈l then some (.bool true)else none
theorem HO {l:List Int}{a:Int}:(fun j=>if j=a then some (PV.bool true)else pA l j)=pA (l++[a]):=by
 funext j
 unfold pA
 by_cases h:j=a
 ·rw[if_pos h,if_pos (by simp[h])]
 ·rw[if_neg h]
  by_cases q:j∈l
  ·rw[if_pos q,if_pos (by simp[q])]
  ·rw[if_neg q,if_neg (by simp[q,h])]
theorem Ey {l:List Int}{k:Int}{v:PV}(h:pA l k=some v):k∈l/\v= .bool true:=by
 unfold pA at h
 by_cases q:k∈l
 ·rw[if_pos q]at h;exact⟨q,(Option.some.inj h).symm⟩
 ·rw[if_neg q]at h;cases h
theorem Ez {l:List Int}{k:Int}(h:pA l k=none): ¬k∈l:=fun q=>by rw[pA,if_pos q]at h;cases h
structure VO where
 m:Nat
 out:List (List Nat)
 s:List Nat
 i:Int
 aT:Option Nat
theorem Kg {cl:List aN}{out:List (List Nat)}{s:List Nat}(ho: ∀x∈out,x∈bH cl)(h0:0<=idx cl s):idx cl s∈out.map (idx cl)↔s∈out:=by
 constructor
 ·intro h
  obtain⟨x,hx,e⟩:=List.mem_map.1 h
  have h1:=(jI (l:=bH cl) (s:=s) h0).2
  have h2:=(jI (l:=bH cl) (s:=x) (aS.2 (ho x hx))).2
  have e':aO (bH cl) x=aO (bH cl) s:=e
  rw[e']at h2
  rw[<-h1,h2];exact hx
 ·exact fun h=>List.mem_map.2 ⟨s,h,rfl⟩
theorem n9 {cl:List aN}{i:Int}{K:PV->Prop}(hi:0<=i/\i<cl.length)(k:K (.int .i64 (zS cl i))):PF Tryz.prog X0 Mx 248 [.agg (jf cl),.int .i64 i] K:=by
 refine Pf n4 fun hnt=>?_
 repeat'(first|refine Qb ?_|(refine ai ?_;intro b)|(refine Ba ?_ ?_<;>intro hc<;>try exact Zb)|refine aX ?_|refine pd ?_|refine ix (aR (dp ?_)))
 ·unfold zS at k;rw[if_pos (by assumption)]at k;exact E1 k
 ·unfold zS at k;rw[if_neg (by assumption)]at k;exact E1 k
theorem iL {cl:List aN}{s:List Nat}{K:PV->Prop}(cg:cl.length<=64)(k:K (.bn [pL 1 pI ((cw cl s).1.map (idx cl)),.bool (cw cl s).2])):PF Tryz.prog X0 Mx 178 [.agg (jf cl),.int .i64 (idx cl s)] K:=by
 refine Pf nZ fun hnt=>?_
 repeat'(first|refine Qa ?_|(refine Ba ?_ ?_<;>try exact Za)|(refine JR ?_ .m;intro b)|intro hc)
 refine aD (ι:=VO) (fun q=>[(1,.int .i64 q.i),(2,.ptr 2 _ 0),(4,oL 21 q.aT 1 (q.out.map (idx cl))),(6,.gC 7 _)]) (fun q=>[(2,some _,.cells (jf cl)),(21,q.aT,aL 1 pI (q.out.map (idx cl))),(7,some _,.map 1 (pA (q.out.map (idx cl))))]) (fun q=>cw cl s=(if q.i<0 then(q.out,false)else bX cl q.m q.out q.s)/\(0<=q.i->q.i=idx cl q.s)/\(∀x∈q.out,x∈bH cl)/\lH (bH cl) q.out<q.m/\q.out.length+lH (bH cl) q.out<=cl.length) (fun q=>q.m) ⟨cl.length+1,[],s,idx cl s,none⟩ ?_ (.c (.c (.cons rfl (.kR 21 1) (.c .nil)))) (.c (.kR (.c .nil))) ?_
 ·have hc0:=tK (ns:=bH cl) (out:=[])
  rw[cn]at hc0
  refine⟨?_,fun _=>rfl,fun x hx=>(by cases hx),by dsimp only;omega,by simpa using hc0⟩
  show bX cl (cl.length+1) [] s=_
  by_cases q:idx cl s<0
  ·rw[if_pos q,bX];exact if_pos q
  ·rw[if_neg q]
 rintro⟨m,out,s',i,aT⟩ ⟨hE,hi,ho,hm,hn⟩
 dsimp only at hE hi ho hm hn⊢
 have hl:=dC (l:=bH cl) (s:=s')
 rw[cn]at hl
 have hil:0<=i->0<=i/\i<cl.length:=fun q=>by have:=hi q;unfold idx at this;omega
 repeat'(first|refine Qa ?_|(refine Ba ?_ ?_<;>try exact Za)|(refine BJ (fun v hv=>?_) fun hv=>?_)|refine JS ?_|(refine bb ?_;intro b2)|(refine ml (f:=pI) (l:=out.map (idx cl)) (m:=[i]) ?_ rfl rfl (.own _ _ _ _ _ rfl (Nat.le_refl _)) (.own _ _ _ _ _ rfl (Nat.le_refl _)) (fun a ha=>by have:a=0:=(by simpa using ha);subst this;rfl) (fun _=>rfl) (by rw[List.length_map];show(_+1)*_<=_;omega);intro oid2)|refine ae (aa (n9 (hil am) ?_))|intro hc)
 ·obtain⟨hin,e⟩:=Ey hv
  subst e
  repeat'(first|refine Qa ?_|(refine Ba ?_ ?_<;>try exact Za)|intro hc)
  obtain⟨m,rfl⟩: ∃n,m=n+1:=⟨m-1,om⟩
  rw[hi (by assumption)]at hin
  have h0:0<=aO (bH cl) s':=by have:=hi am;unfold idx at this;omega
  rw[if_neg (by omega),bX,if_neg (by omega),if_pos ((Kg ho h0).1 hin)]at hE
  rw[hE]at k
  exact⟨Or.inr rfl,⟨trivial,⟨trivial,trivial⟩⟩,_,_,rfl,.bn _ _ (.cons _ _ _ _ cE (.cons _ _ _ _ (.refl _) .nil)),k⟩
 ·have hin:=Ez hv
  have e9:=hi am
  have h0:0<=aO (bH cl) s':=by unfold idx at e9;omega
  rw[e9]at hin
  have hno: ¬s'∈out:=fun q=>hin ((Kg ho h0).2 q)
  obtain⟨m,rfl⟩: ∃n,m=n+1:=⟨m-1,om⟩
  rw[if_neg (by omega),bX,if_neg (by omega),if_neg hno]at hE
  have hlt:=o6 (aS.1 h0) hno
  have e:(out++[s']).map (idx cl)=out.map (idx cl)++[i]:=by rw[List.map_append,e9];rfl
  have es:gr cl s'=(el cl i.toNat).dy:=by rw[e9];rfl
  refine⟨⟨m,out++[s'],gr cl s',zS cl i,oid2⟩,Nat.lt_succ_self _,⟨?_,fun q=>?_,fun x hx=>?_,by dsimp only;omega,by simp only[List.length_append,List.length_singleton];omega⟩,(.c (.c (.cons rfl (by show Cv _ (oL 21 oid2 1 ((out++[s']).map (idx cl)));rw[e];exact .refl _) (.c .nil)))),(.c (.cons rfl (by show wB _ (aL 1 pI ((out++[s']).map (idx cl)));rw[e];exact .refl _) (.cons rfl (by show wB _ (.map 1 (pA ((out++[s']).map (idx cl))));rw[e,<-HO];exact .refl _) .nil)))⟩
  ·rw[hE]
   show _=if zS cl i<0 then _ else _
   unfold zS
   rw[es]
   by_cases q:(el cl i.toNat).dy=[]
   ·rw[if_pos q,if_pos q,if_pos (by decide)]
   ·rw[if_neg q,if_neg q]
    by_cases w:aO (bH cl) (el cl i.toNat).dy<0
    ·rw[if_pos w]
     obtain⟨m,rfl⟩: ∃n,m=n+1:=⟨m-1,om⟩
     rw[bX,if_pos w]
    ·rw[if_neg w]
  ·show zS cl i=idx cl (gr cl s')
   have q:0<=zS cl i:=q
   unfold zS at q⊢
   rw[es]
   by_cases w:(el cl i.toNat).dy=[]
   ·rw[if_pos w]at q;exact absurd q dc
   ·rw[if_neg w];rfl
  ·rcases List.mem_append.1 hx with q|q
   ·exact ho x q
   ·rw[List.mem_singleton.1 q];exact aS.1 h0
 ·rw[if_pos (by omega)]at hE
  rw[hE]at k
  exact⟨Or.inr rfl,⟨trivial,⟨trivial,trivial⟩⟩,_,_,rfl,.bn _ _ (.cons _ _ _ _ cE (.cons _ _ _ _ (.refl _) .nil)),k⟩
theorem iM {cl:List aN}{s:List Nat}{K:PV->Prop}(cg:cl.length<=64)(k:K (pL 1 pI ((aB cl s).map (idx cl)))):PF Tryz.prog X0 Mx 116 [.agg (jf cl),.str s] K:=by
 refine Pf nW fun hnt=>?_
 repeat'(first|refine Qb ?_|(refine ai ?_;intro b)|refine aX ?_|refine pd ?_|refine ix (aR (dp ?_))|refine ix (aR (iL cg ?_)))
 exact E1 k
noncomputable def cK {α:Type} [Inhabited α] (p:α->Prop)(l:List α):Int:=aO (l.map fun x=>if p x then[1]else[]) [1]
theorem gg {α:Type} [Inhabited α] {p:α->Prop}{l:List α}{j:Nat}(hj:j<l.length)(he:p (el l j))(hb: ∀i,i<j-> ¬p (el l i)):cK p l=(j:Int):=by
 unfold cK
 refine lG (by simpa using hj) (by rw[cW hj,if_pos he]) fun i hi=>?_
 rw[cW (by omega),if_neg (hb i hi)]
 intro q;cases q
theorem gh {α:Type} [Inhabited α] {p:α->Prop}{l:List α}(hb: ∀i,i<l.length-> ¬p (el l i)):cK p l= -1:=by
 unfold cK
 refine o0 fun i hi=>?_
 rw[List.length_map]at hi
 rw[cW hi,if_neg (hb i hi)]
 intro q;cases q
theorem rm {x:lF}{s:List Nat}{K:PV->Prop}(kt:x.name=s->K (.bool true))(kf: ¬x.name=s->K (.bool false)):PF Tryz.prog X0 Mx 290 [.agg (s8 x),.fp [.str s] 0] K:=by
 refine Pf rk fun hnt=>?_
 repeat'(first|refine Qa ?_|(refine Ba ?_ ?_<;>try exact Za)|intro hc)
 ·exact E1 (kt hc)
 ·exact E1 (kf hc)
theorem pC {l:List lF}{s:List Nat}{K:PV->Prop}(k:K (.int .i64 (cK (fun x:lF=>x.name=s) l))):PF Tryz.prog X0 Mx 289 [pL 2 s8 l,.fn 290 [.fp [.str s] 0]] K:=by
 refine Pf py fun hnt=>?_
 repeat'(first|refine Qa ?_|(refine Ba ?_ ?_<;>try exact Za)|intro hc)
 refine aD (fun j:Nat=>[(0,pL 2 s8 l),(1,.fn 290 [.fp [.str s] 0]),(7,.int .i64 (l.length:Nat)),(8,.int .i64 j)]) (fun _=>[]) (fun j=>j<=l.length/\ ∀i,i<j-> ¬(el l i).name=s) (fun j=>l.length-j) 0 ⟨Nat.zero_le _,gY⟩ .su (.nil) ?_
 rintro j ⟨hj,hb⟩
 repeat'(first|refine Qa ?_|(refine Ba ?_ ?_<;>try exact Za)|(refine ae (aa (rm (fun hc=>?_) fun hc=>?_)))|intro hc)
 ·rw[gg (p:=fun x:lF=>x.name=s) (j:=j) (by omega) hc hb]at k
  exact E1 k
 ·refine⟨j+1,by dsimp only;omega,⟨om,fun i hi=>?_⟩,.su,(.nil)⟩
  by_cases q:i=j
  ·subst q;assumption
  ·exact hb i om
 ·rw[gh (p:=fun x:lF=>x.name=s) fun i hi=>hb i (by omega)]at k
  exact E1 k
theorem ed {c:aN}{s:List Nat}{K:PV->Prop}(k:K (.int .i64 (cK (fun x:lF=>x.name=s) c.fields))):PF Tryz.prog X0 Mx 260 [.agg (gS c),.str s] K:=by
 refine Pf vf fun hnt=>?_
 repeat'(first|refine Qa ?_|(refine dJ (pC ⟨rfl,?_⟩) rfl rfl rfl (.cons _ _ _ _ (.refl _) (.cons _ _ _ _ (.fn _ _ _ (.cons _ _ _ _ (.ptr _ _ _ _ _ rfl (.refl _)) .nil)) .nil)))|intro hc)
 exact E1 k
theorem pD {x:bZ}{s:List Nat}{K:PV->Prop}(kt:x.name=s->K (.bool true))(kf: ¬x.name=s->K (.bool false)):PF Tryz.prog X0 Mx 291 [.agg (cb x),.fp [.str s] 0] K:=by
 refine Pf pz fun hnt=>?_
 repeat'(first|refine Qa ?_|(refine Ba ?_ ?_<;>try exact Za)|intro hc)
 ·exact E1 (kt hc)
 ·exact E1 (kf hc)
theorem tm {l:List bZ}{s:List Nat}{K:PV->Prop}(k:K (.int .i64 (cK (fun x:bZ=>x.name=s) l))):PF Tryz.prog X0 Mx 210 [pL 4 cb l,.fn 291 [.fp [.str s] 0]] K:=by
 refine Pf kU fun hnt=>?_
 repeat'(first|refine Qa ?_|(refine Ba ?_ ?_<;>try exact Za)|intro hc)
 refine aD (fun j:Nat=>[(0,pL 4 cb l),(1,.fn 291 [.fp [.str s] 0]),(7,.int .i64 (l.length:Nat)),(8,.int .i64 j)]) (fun _=>[]) (fun j=>j<=l.length/\ ∀i,i<j-> ¬(el l i).name=s) (fun j=>l.length-j) 0 ⟨Nat.zero_le _,gY⟩ .su (.nil) ?_
 rintro j ⟨hj,hb⟩
 repeat'(first|refine Qa ?_|(refine Ba ?_ ?_<;>try exact Za)|(refine ae (aa (pD (fun hc=>?_) fun hc=>?_)))|intro hc)
 ·rw[gg (p:=fun x:bZ=>x.name=s) (j:=j) (by omega) hc hb]at k
  exact E1 k
 ·refine⟨j+1,by dsimp only;omega,⟨om,fun i hi=>?_⟩,.su,(.nil)⟩
  by_cases q:i=j
  ·subst q;assumption
  ·exact hb i om
 ·rw[gh (p:=fun x:bZ=>x.name=s) fun i hi=>hb i (by omega)]at k
  exact E1 k
theorem eO {c:aN}{s:List Nat}{K:PV->Prop}(k:K (.int .i64 (cK (fun x:bZ=>x.name=s) c.methods))):PF Tryz.prog X0 Mx 261 [.agg (gS c),.str s] K:=by
 refine Pf tl fun hnt=>?_
 repeat'(first|refine Qa ?_|(refine dJ (tm ⟨rfl,?_⟩) rfl rfl rfl (.cons _ _ _ _ (.refl _) (.cons _ _ _ _ (.fn _ _ _ (.cons _ _ _ _ (.ptr _ _ _ _ _ rfl (.refl _)) .nil)) .nil)))|intro hc)
 exact E1 k
theorem VB {b:Bool}(h:b=false): ¬b=true:=by rw[h];decide
theorem mm {α:Type} [Inhabited α] {p:α->Prop}{l:List α}{k:Nat}(hk:k<l.length)(hp:p (el l k)):cK p l<(k:Int)↔ ∃i,i<k/\p (el l i):=by
 have hm: ∃i,i<l.length/\p (el l i):=⟨k,hk,hp⟩
 rcases dx (l.map fun x=>if p x then[1]else[]) [1]with⟨_,h2⟩|⟨j,h1,h2,h3,h4⟩
 ·exact absurd (by rw[cW hk,if_pos hp]) (h2 k (by simpa using hk))
 ·have hjl:j<l.length:=by simpa using h2
  rw[cW hjl]at h3
  have hpj:p (el l j):=by
   by_cases q:p (el l j)
   ·exact q
   ·rw[if_neg q]at h3;cases h3
  have e:cK p l=(j:Int):=h1
  rw[e]
  constructor
  ·exact fun q=>⟨j,om,hpj⟩
  ·rintro⟨i,hi,hpi⟩
   by_cases q:j<k
   ·omega
   ·exact absurd (by rw[cW (by omega),if_pos hpi]) (h4 i om)
theorem x6 {α:Type} [Inhabited α] {p:α->Prop}{l:List α}:0<=cK p l↔ ∃x∈l,p x:=by
 unfold cK
 rw[aS,List.mem_map]
 constructor
 ·rintro⟨x,hx,e⟩
  refine⟨x,hx,?_⟩
  by_cases q:p x
  ·exact q
  ·rw[if_neg q]at e;cases e
 ·rintro⟨x,hx,q⟩
  exact⟨x,hx,if_pos q⟩
theorem cP {cl:List aN}{s:List Nat}{K:PV->Prop}(kt:uR cl s->K (.bool true))(kf: ¬uR cl s->K (.bool false)):PF Tryz.prog X0 Mx 259 [.agg (jf cl),.str s] K:=by
 refine Pf nh fun hnt=>?_
 repeat'(first|refine Qa ?_|(refine Ba ?_ ?_<;>try exact Za)|refine ae (aa (dp ?_))|intro hc)
 ·exact E1 (kt (Or.inl hc))
 ·exact E1 (kt (Or.inr (aS.1 hc)))
 ·exact E1 (kf fun q=>q.elim am fun q=>hc (aS.2 q))
theorem fZ {l m:List (List Nat)}{K:PV->Prop}(kt:l=m->K (.bool true))(kf: ¬l=m->K (.bool false)):PF Tryz.prog X0 Mx 52 [pL 1 pS l,pL 1 pS m] K:=by
 refine Pf k9 fun hnt=>?_
 repeat'(first|refine Qa ?_|(refine Ba ?_ ?_<;>try exact Za)|intro hc)
 ·refine aD (fun j:Nat=>[(0,pL 1 pS l),(1,pL 1 pS m),(12,.int .i64 (l.length:Nat)),(13,.int .i64 j)]) (fun _=>[]) (fun j=>j<=l.length/\ ∀i,i<j->el l i=el m i) (fun j=>l.length-j) 0 ⟨Nat.zero_le _,gY⟩ .su (.nil) ?_
  rintro j ⟨hj,hb⟩
  repeat'(first|refine Qa ?_|(refine Ba ?_ ?_<;>try exact Za)|intro hc)
  ·refine⟨j+1,by dsimp only;omega,⟨om,fun i hi=>?_⟩,.su,(.nil)⟩
   by_cases q:i=j
   ·subst q;assumption
   ·exact hb i om
  ·exact E1 (kf fun q=>(by assumption: ¬el l j=el m j) (by rw[q]))
  ·exact E1 (kt (J4 om fun i hi=>hb i om))
 ·exact E1 (kf fun q=>by rw[q]at hc;exact hc rfl)
theorem rn {x y:bZ}{K:PV->Prop}(kt: ¬(y.static=true\/x.static=true\/ ¬kS y x)->K (.bool true))(kf:(y.static=true\/x.static=true\/ ¬kS y x)->K (.bool false)):PF Tryz.prog X0 Mx 262 [.agg (cb x),.agg (cb y)] K:=by
 refine Pf rj fun hnt=>?_
 repeat'(first|refine Qc ?_|(refine Ba ?_ ?_<;>try exact Za)|refine ad ?_|refine ai ?_|(refine ae (aa (fZ (fun hc=>?_) fun hc=>?_)))|intro hc)
 all_goals first
  |exact E1 (kf (by first|exact Or.inl am|exact Or.inr (Or.inl am)|exact Or.inr (Or.inr fun q=>by first|exact absurd q.1.symm am|exact absurd q.2.symm am)))
  |exact E1 (kt (fun q=>q.elim (VB am) fun q=>q.elim (VB am) fun q=>q ⟨Eq.symm am,Eq.symm am⟩))
theorem sw {cl:List aN}{a:List Nat}: ∀(n:Nat) (out:List (List Nat)) (s:List Nat) (l:List (List Nat)),bX cl n (a::out) s=(l,false)-> ∃l',l=a::l'/\bX cl n out s=(l',false)
 |0,out,s,l,h=>by
  simp only[bX]at h⊢
  cases h;exact⟨out,rfl,rfl⟩
 |n+1,out,s,l,h=>by
  simp only[bX]at h⊢
  by_cases h1:aO (bH cl) s<0
  ·rw[if_pos h1]at h⊢;cases h;exact⟨out,rfl,rfl⟩
  rw[if_neg h1]at h⊢
  by_cases h2:s∈a::out
  ·rw[if_pos h2]at h;cases h
  rw[if_neg h2]at h
  rw[if_neg fun q=>h2 (List.mem_cons_of_mem a q)]
  by_cases h3:gr cl s=[]
  ·rw[if_pos h3]at h⊢;cases h;exact⟨_,rfl,rfl⟩
  ·rw[if_neg h3]at h⊢;exact sw n (out++[s]) (gr cl s) l h
theorem sx {cl:List aN}: ∀(n:Nat) (out:List (List Nat)) (s:List Nat),lH (bH cl) out<n->bX cl n out s=bX cl (n+1) out s
 |0,out,s,h=>absurd h om
 |n+1,out,s,h=>by
  rw[bX,bX]
  by_cases h1:aO (bH cl) s<0
  ·rw[if_pos h1,if_pos h1]
  rw[if_neg h1,if_neg h1]
  by_cases h2:s∈out
  ·rw[if_pos h2,if_pos h2]
  rw[if_neg h2,if_neg h2]
  by_cases h3:gr cl s=[]
  ·rw[if_pos h3,if_pos h3]
  ·rw[if_neg h3,if_neg h3]
   have:=o6 (aS.1 (show 0<=aO (bH cl) s by omega)) h2
   exact sx n _ _ om
theorem EA {cl:List aN}{c:List Nat}(hc:c∈bH cl)(hy:(cw cl c).2=false):aB cl c=c::(if gr cl c=[]then[]else aB cl (gr cl c)):=by
 have h0:=aS.2 hc
 have e:cw cl c=if gr cl c=[]then([c],false)else bX cl cl.length [c] (gr cl c):=by
  unfold cw
  rw[bX,if_neg (by omega),if_neg (by simp)];rfl
 by_cases q:gr cl c=[]
 ·rw[if_pos q]at e
  unfold aB;rw[e,if_pos q]
 ·rw[if_neg q]at e
  rw[if_neg q]
  have h1:=o6 (out:=[]) hc (by simp)
  have h2:=tK (ns:=bH cl) (out:=[])
  rw[cn]at h2
  rw[sx _ _ _ (by simpa using Nat.lt_of_lt_of_le h1 h2)]at e
  have e2:bX cl (cl.length+1) (c::[]) (gr cl c)=((cw cl c).1,false):=by rw[<-hy,e]
  obtain⟨l',e3,e4⟩:=sw _ _ _ _ e2
  unfold aB
  rw[e3]
  unfold cw
  rw[e4]
theorem FT {α β:Type}{g:α->Option β}{l:List α}:(∃y,l.findSome? g=some y)↔ ∃x∈l,∃y,g x=some y:=by
 constructor
 ·rintro⟨y,h⟩
  obtain⟨x,hx,e⟩:=List.exists_of_findSome?_eq_some h
  exact⟨x,hx,y,e⟩
 ·rintro⟨x,hx,y,e⟩
  cases h:l.findSome? g with
  |some z=>exact⟨z,rfl⟩
  |none=>rw[List.findSome?_eq_none_iff.1 h x hx]at e;cases e
theorem vh {x:aN}{nm:List Nat}:(∃y,sm x nm=some y)↔ ∃f∈x.fields,f.name=nm:=by
 unfold sm
 rw[FT]
 constructor
 ·rintro⟨f,hf,y,e⟩
  by_cases q:f.name=nm
  ·exact⟨f,hf,q⟩
  ·rw[if_neg q]at e;cases e
 ·rintro⟨f,hf,q⟩
  exact⟨f,hf,f,if_pos q⟩
theorem Ch {cl:List aN}{s nm:List Nat}:(∃r,fF cl s nm=some r)↔ ∃d∈aB cl s,∃f∈(bt cl d).fields,f.name=nm:=by
 unfold fF
 rw[FT]
 constructor
 ·rintro⟨d,hd,y,e⟩
  refine⟨d,hd,vh.1 ?_⟩
  cases h:sm (bt cl d) nm with
  |some z=>exact⟨z,rfl⟩
  |none=>rw[h]at e;cases e
 ·rintro⟨d,hd,h⟩
  obtain⟨z,e⟩:=vh.2 h
  exact⟨d,hd,(d,z),by rw[e];rfl⟩
def uppers (cl:List aN)(i:Nat):List (List Nat):=if(el cl i).dy=[]then[]else aB cl (el cl i).dy
theorem jW {cl:List aN}{i:Nat}(hi:i<cl.length)(hf:aO (bH cl) (el cl i).name=i)(hy:(cw cl (el cl i).name).2=false):aB cl (el cl i).name=(el cl i).name::uppers cl i:=by
 have hm:(el cl i).name∈bH cl:=aS.1 om
 have e:gr cl (el cl i).name=(el cl i).dy:=by unfold gr;rw[hf];rfl
 rw[EA hm hy,e];rfl
theorem vi {cl:List aN}{i:Nat}(hi:i<cl.length)(hf:aO (bH cl) (el cl i).name=i)(hy:(cw cl (el cl i).name).2=false): ∃L:List Int,(aB cl (el cl i).name).map (idx cl)=L/\L.length=(uppers cl i).length+1/\el L 0=i/\ ∀k,k<(uppers cl i).length->el L (1+k)=idx cl (el (uppers cl i) k)/\0<=idx cl (el (uppers cl i) k)/\idx cl (el (uppers cl i) k)<cl.length:=by
 refine⟨_,rfl,by rw[jW hi hf hy];simp,?_,fun k hk=>⟨?_,?_⟩⟩
 ·rw[jW hi hf hy];exact hf
 ·rw[jW hi hf hy,List.map_cons,show 1+k=k+1 by omega]
  have: ∀(a:Int) (l:List Int),el (a::l) (k+1)=el l k:=fun a l=>rfl
  rw[this,cW hk]
 ·have hm:el (uppers cl i) k∈aB cl (el cl i).name:=by rw[jW hi hf hy];exact List.mem_cons_of_mem _ (ba hk)
  have h1:=aS.2 (dZ hm)
  have h2:=(dC (l:=bH cl) (s:=el (uppers cl i) k)).1
  rw[cn]at h2
  exact⟨h1,h2⟩
theorem pE {cl:List aN}{i:Nat}{nm:List Nat}:(∃d∈uppers cl i,∃f∈(bt cl d).fields,f.name=nm)↔(∃r,fF cl (el cl i).dy nm=some r)/\(el cl i).dy≠[]:=by
 unfold uppers
 by_cases q:(el cl i).dy=[]
 ·rw[if_pos q]
  exact⟨fun⟨d,hd,_⟩=>(by cases hd),fun h=>absurd q h.2⟩
 ·rw[if_neg q,Ch]
  exact⟨fun h=>⟨h,q⟩,fun h=>h.1⟩
theorem oc {cl:List aN}{i j:Nat}{K:PV->Prop}(cg:cl.length<=64)(hi:i<cl.length)(hf:aO (bH cl) (el cl i).name=i)(hy:(cw cl (el cl i).name).2=false)(hj:j<(el cl i).fields.length)(hj2:(j:Int)<=9223372036854775807)(k:K (.int .i64 (iI cl i j))):PF Tryz.prog X0 Mx 203 [.agg (jf cl),pL 1 pI ((aB cl (el cl i).name).map (idx cl)),.int .i64 (j:Nat)] K:=by
 refine Pf n3 fun hnt=>?_
 obtain⟨L,eL,hLl,hL0,hLk⟩:=vi hi hf hy
 rw[eL]
 have hL3:el L (Int.toNat 0)=i:=hL0
 have hL1:0<=el L (Int.toNat 0)/\el L (Int.toNat 0)<cl.length:=by omega
 have hLi:el cl (el L (Int.toNat 0)).toNat=el cl i:=by rw[hL3];rfl
 repeat'(first|refine Qb ?_|(refine ak ?_;intro hl)|(refine ai ?_;intro b)|(refine Ba ?_ ?_<;>intro hc<;>try exact Zb)|refine aX ?_|refine pd ?_|(refine ae (aa (dG (fun hc=>?_) fun hc=>?_)))|(refine ae (aa (cP (fun hc=>?_) fun hc=>?_)))|refine ae (aa (ed ?_))|refine AL ?_|refine pb ?_)
 simp only[hLi]
 repeat'(first|refine Qb ?_|(refine ak ?_;intro hl)|(refine ai ?_;intro b)|(refine Ba ?_ ?_<;>intro hc<;>try exact Zb)|refine aX ?_|refine pd ?_|(refine ae (aa (dG (fun hc=>?_) fun hc=>?_)))|(refine ae (aa (cP (fun hc=>?_) fun hc=>?_)))|refine ae (aa (ed ?_))|(refine jM ?_ rfl rfl rfl om om om)|refine AL ?_|refine pb ?_)
 case refine_2=>unfold iI at k;replace k:=Ik k;exact E1 k
 case refine_1.refine_2=>unfold iI at k;replace k:=Ik k;exact E1 k
 case refine_1.refine_1.refine_1=>
  have h7:=(mm (p:=fun x:lF=>x.name=(el (el cl i).fields j).name) hj rfl).1 am
  unfold iI at k;replace k:=Ik k;exact E1 k
 have h7: ¬ ∃a,a<j/\(el (el cl i).fields a).name=(el (el cl i).fields j).name:=fun q=>(by assumption: ¬cK _ _<_) ((mm (p:=fun x:lF=>x.name=(el (el cl i).fields j).name) hj rfl).2 q)
 have eu:((L.length:Int)-1).toNat=(uppers cl i).length:=by omega
 rw[eu]at*
 refine aD (fun m:Nat=>[(3,.ptr 3 _ 0),(8,.ptr 8 _ 0),(39,.tr 1 (uppers cl i).length (fun a=>pI (el L (a+Int.toNat 1)))),(40,.int .i64 ((uppers cl i).length:Nat)),(41,.int .i64 m)]) (fun _=>[(3,some _,.cells (jf cl)),(8,some _,.cells (s8 (el (el cl i).fields j)))]) (fun m=>m<=(uppers cl i).length/\ ∀a,a<m-> ¬ ∃f∈(bt cl (el (uppers cl i) a)).fields,f.name=(el (el cl i).fields j).name) (fun m=>(uppers cl i).length-m) 0 ⟨Nat.zero_le _,gY⟩ .su .su ?_
 rintro m ⟨hm,hb⟩
 have hmk:m<(uppers cl i).length->el L (m+Int.toNat 1)=idx cl (el (uppers cl i) m)/\0<=el L (m+Int.toNat 1)/\el L (m+Int.toNat 1)<cl.length:=fun q=>by
  have e1:m+Int.toNat 1=1+m:=by show m+1=1+m;omega
  have:=hLk m q
  rw[e1];exact⟨this.1,om,om⟩
 repeat'(first|refine Qb ?_|(refine ak ?_;intro hl)|(refine ai ?_;intro b)|(refine Ba ?_ ?_<;>intro hc<;>try exact Zb)|refine aX ?_|refine pd ?_|refine ix (aR (ed ?_))|refine AL ?_|refine pb ?_)
 ·have hc':=x6.1 (by assumption:0<=cK (fun x:lF=>x.name=(el (el cl i).fields j).name) (el cl (el L (m+Int.toNat 1)).toNat).fields)
  rw[(hmk (by omega)).1]at hc'
  have h4:=pE.1 ⟨_,ba (by omega:m<(uppers cl i).length),hc'⟩
  unfold iI at k;replace k:=Ik k;exact E1 k
 ·have hc': ¬0<=cK (fun x:lF=>x.name=(el (el cl i).fields j).name) (el cl (el L (m+Int.toNat 1)).toNat).fields:=by assumption
  rw[x6,(hmk (by omega)).1]at hc'
  refine⟨m+1,by dsimp only;omega,⟨om,fun a ha=>?_⟩,.su,.su⟩
  by_cases q:a=m
  ·subst q;exact hc'
  ·exact hb a om
 ·have h4: ¬((∃r,fF cl (el cl i).dy (el (el cl i).fields j).name=some r)/\(el cl i).dy≠[]):=fun q=>by
    obtain⟨d,hd,f⟩:=pE.2 q
    obtain⟨a,ha,e⟩:=cm hd
    subst e
    exact hb a om f
  unfold iI at k;replace k:=Ik k;exact E1 k
theorem Qd {cl:List aN}{i:Nat}{s:bZ}(hi:i<cl.length)(hf:aO (bH cl) (el cl i).name=i)(hy:(cw cl (el cl i).name).2=false):Eh cl (el cl i).name s↔ ∃d∈uppers cl i,∃m∈(bt cl d).methods,m.name=s.name/\(m.static=true\/s.static=true\/ ¬kS m s):=by
 unfold Eh;rw[jW hi hf hy];rfl
theorem ni {cl:List aN}{i j:Nat}{K:PV->Prop}(cg:cl.length<=64)(hi:i<cl.length)(hf:aO (bH cl) (el cl i).name=i)(hy:(cw cl (el cl i).name).2=false)(hj:j<(el cl i).methods.length)(hj2:(j:Int)<=9223372036854775807)(k:K (.int .i64 (fV cl i j))):PF Tryz.prog X0 Mx 204 [.agg (jf cl),pL 1 pI ((aB cl (el cl i).name).map (idx cl)),.int .i64 (j:Nat)] K:=by
 refine Pf mZ fun hnt=>?_
 have hov:=Qd (s:=(el (el cl i).methods j)) hi hf hy
 obtain⟨L,eL,hLl,hL0,hLk⟩:=vi hi hf hy
 rw[eL]
 have hL3:el L (Int.toNat 0)=i:=hL0
 have hL1:0<=el L (Int.toNat 0)/\el L (Int.toNat 0)<cl.length:=by omega
 have hLi:el cl (el L (Int.toNat 0)).toNat=el cl i:=by rw[hL3];rfl
 repeat'(first|refine Qa ?_|(refine Ba ?_ ?_<;>try exact Za)|(refine ae (aa (dG (fun hc=>?_) fun hc=>?_)))|(refine ae (aa (cP (fun hc=>?_) fun hc=>?_)))|refine ae (aa (eO ?_))|intro hc)
 simp only[hLi]
 repeat'(first|refine Qa ?_|(refine Ba ?_ ?_<;>try exact Za)|(refine ae (aa (dG (fun hc=>?_) fun hc=>?_)))|(refine ae (aa (cP (fun hc=>?_) fun hc=>?_)))|refine ae (aa (eO ?_))|intro hc)
 case refine_2=>unfold fV at k;replace k:=Ik k;exact E1 k
 case refine_1.refine_1=>
  have h7:=(mm (p:=fun x:bZ=>x.name=(el (el cl i).methods j).name) hj rfl).1 am
  unfold fV at k;replace k:=Ik k;exact E1 k
 all_goals have h7: ¬ ∃a,a<j/\(el (el cl i).methods a).name=(el (el cl i).methods j).name:=fun q=>(by assumption: ¬cK (fun x:bZ=>x.name=(el (el cl i).methods j).name) (el cl i).methods<_) ((mm (p:=fun x:bZ=>x.name=(el (el cl i).methods j).name) hj rfl).2 q)
 case refine_1.refine_2.refine_1=>unfold fV at k;replace k:=Ik k;exact E1 k
 refine aD (fun m:Nat=>[(1,pL 1 pI L),(3,.ptr 3 _ 0),(8,.ptr 8 _ 0),(42,pL 1 pS (el (el cl i).methods j).params),(43,.int .i64 ((el (el cl i).methods j).params.length:Nat)),(44,.int .i64 m)]) (fun _=>[(3,some _,.cells (jf cl)),(8,some _,.cells (cb (el (el cl i).methods j)))]) (fun m=>m<=(el (el cl i).methods j).params.length/\ ∀a,a<m->uR cl (el (el (el cl i).methods j).params a)) (fun m=>(el (el cl i).methods j).params.length-m) 0 ⟨Nat.zero_le _,gY⟩ .su .su ?_
 rintro m ⟨hm,hb⟩
 repeat'(first|refine Qa ?_|(refine Ba ?_ ?_<;>try exact Za)|(refine ae (aa (cP (fun hc=>?_) fun hc=>?_)))|(refine jM ?_ rfl rfl rfl om om om)|intro hc)
 ·refine⟨m+1,by dsimp only;omega,⟨om,fun a ha=>?_⟩,.su,.su⟩
  by_cases q:a=m
  ·subst q;assumption
  ·exact hb a om
 ·have htE:nV cl (el (el cl i).methods j)=8:=if_neg fun q=>(by assumption: ¬uR cl (el (el (el cl i).methods j).params m)) (q.1 _ (ba om))
  have h5: ¬nV cl (el (el cl i).methods j)=0:=by rw[htE];decide
  unfold fV at k;replace k:=Ik k;rw[htE]at k;exact E1 k
 rotate_right
 ·have htE:nV cl (el (el cl i).methods j)=8:=if_neg fun q=>q.2.elim am am
  have h5: ¬nV cl (el (el cl i).methods j)=0:=by rw[htE];decide
  unfold fV at k;replace k:=Ik k;rw[htE]at k;exact E1 k
 all_goals
  have hp: ∀p∈(el (el cl i).methods j).params,uR cl p:=fun p hp=>by obtain⟨a,ha,e⟩:=cm hp;rw[<-e];exact hb a om
  have htE:nV cl (el (el cl i).methods j)=0:=if_pos ⟨hp,by first|exact Or.inl am|exact Or.inr am⟩
  have eu:((L.length:Int)-1).toNat=(uppers cl i).length:=by omega
  rw[eu]at*
  clear hb hm
  refine aD (fun m:Nat=>[(3,.ptr 3 _ 0),(8,.ptr 8 _ 0),(64,.tr 1 (uppers cl i).length (fun a=>pI (el L (a+Int.toNat 1)))),(65,.int .i64 ((uppers cl i).length:Nat)),(66,.int .i64 m)]) (fun _=>[(3,some _,.cells (jf cl)),(8,some _,.cells (cb (el (el cl i).methods j)))]) (fun m=>m<=(uppers cl i).length/\ ∀a,a<m-> ¬ ∃x∈(bt cl (el (uppers cl i) a)).methods,(x.name=(el (el cl i).methods j).name/\(x.static=true\/(el (el cl i).methods j).static=true\/ ¬kS x (el (el cl i).methods j)))) (fun m=>(uppers cl i).length-m) 0 ⟨Nat.zero_le _,gY⟩ .su .su ?_
  rintro m ⟨hm,hb⟩
  have hmk:m<(uppers cl i).length->el L (m+Int.toNat 1)=idx cl (el (uppers cl i) m)/\0<=el L (m+Int.toNat 1)/\el L (m+Int.toNat 1)<cl.length:=fun q=>by
   have e1:m+Int.toNat 1=1+m:=by show m+1=1+m;omega
   have:=hLk m q
   rw[e1];exact⟨this.1,om,om⟩
  have hcl:m<(uppers cl i).length->(el cl (el L (m+Int.toNat 1)).toNat)=bt cl (el (uppers cl i) m):=fun q=>by rw[(hmk q).1];rfl
  repeat'(first|refine Qa ?_|(refine Ba ?_ ?_<;>try exact Za)|intro hc)
  ·refine aD (fun p:Nat=>[(3,.ptr 3 _ 0),(8,.ptr 8 _ 0),(64,.tr 1 (uppers cl i).length (fun a=>pI (el L (a+Int.toNat 1)))),(65,.int .i64 ((uppers cl i).length:Nat)),(66,.int .i64 m),(75,pL 4 cb (el cl (el L (m+Int.toNat 1)).toNat).methods),(76,.int .i64 ((el cl (el L (m+Int.toNat 1)).toNat).methods.length:Nat)),(77,.int .i64 p)]) (fun _=>[(3,some _,.cells (jf cl)),(8,some _,.cells (cb (el (el cl i).methods j)))]) (fun p=>p<=(el cl (el L (m+Int.toNat 1)).toNat).methods.length/\ ∀a,a<p-> ¬((el (el cl (el L (m+Int.toNat 1)).toNat).methods a).name=(el (el cl i).methods j).name/\((el (el cl (el L (m+Int.toNat 1)).toNat).methods a).static=true\/(el (el cl i).methods j).static=true\/ ¬kS (el (el cl (el L (m+Int.toNat 1)).toNat).methods a) (el (el cl i).methods j)))) (fun p=>(el cl (el L (m+Int.toNat 1)).toNat).methods.length-p) 0 ⟨Nat.zero_le _,gY⟩ .su .su ?_
   rintro p ⟨hp',hb2⟩
   repeat'(first|refine Qa ?_|(refine Ba ?_ ?_<;>try exact Za)|(refine ae (aa (rn (fun hc=>?_) fun hc=>?_)))|intro hc)
   ·refine⟨p+1,by dsimp only;omega,⟨om,fun a ha=>?_⟩,.su,.su⟩
    by_cases q:a=p
    ·subst q;exact fun w=>hc w.2
    ·exact hb2 a om
   ·have ho:=hov.2 ⟨_,ba (by omega:m<(uppers cl i).length),_,by rw[<-hcl (by omega)];exact ba (by omega:p<_),am,hc⟩
    have h5: ¬ ¬nV cl (el (el cl i).methods j)=0:=not_not.2 htE
    unfold fV at k;replace k:=Ik k;exact E1 k
   ·refine⟨p+1,by dsimp only;omega,⟨om,fun a ha=>?_⟩,.su,.su⟩
    by_cases q:a=p
    ·subst q;exact fun w=>hc w.1
    ·exact hb2 a om
   ·refine⟨m+1,by dsimp only;omega,⟨om,fun a ha=>?_⟩,.su,.su⟩
    by_cases q:a=m
    ·subst q
     rintro⟨x,hx,w⟩
     rw[<-hcl (by omega)]at hx
     obtain⟨y,hy',e⟩:=cm hx
     subst e
     exact hb2 y om w
    ·exact hb a om
  ·have ho: ¬Eh cl (el cl i).name (el (el cl i).methods j):=fun q=>by
     obtain⟨d,hd,x,hx,w⟩:=hov.1 q
     obtain⟨a,ha,e⟩:=cm hd
     subst e
     exact hb a om ⟨x,hx,w⟩
   have h5: ¬ ¬nV cl (el (el cl i).methods j)=0:=not_not.2 htE
   unfold fV at k;replace k:=Ik k;exact E1 k
theorem iN {cl:List aN}{s:List Nat}{i:Int}{K:PV->Prop}(cg:cl.length<=64)(hs:idx cl s=i)(k:K (.bn [pL 1 pI ((cw cl s).1.map (idx cl)),.bool (cw cl s).2])):PF Tryz.prog X0 Mx 178 [.agg (jf cl),.int .i64 i] K:=by
 subst hs;exact iL cg k
theorem oe {cl:List aN}{i:Nat}{K:PV->Prop}(cg:cl.length<=64)(hi:i<cl.length)(k:K (.int .i64 (lJ cl i))):PF Tryz.prog X0 Mx 130 [.agg (jf cl),.int .i64 (i:Nat)] K:=by
 refine Pf nX fun hnt=>?_
 repeat'(first|refine Qa ?_|(refine Ba ?_ ?_<;>try exact Za)|(refine ae (aa (dG (fun hc=>?_) fun hc=>?_)))|refine ae (aa (dp ?_))|intro hc)
 case refine_1.refine_2=>unfold lJ at k;replace k:=Ik k;exact E1 k
 case refine_2=>unfold lJ at k;replace k:=Ik k;exact E1 k
 case refine_1.refine_1.refine_2.refine_1=>
  have hns:(el cl i).dy≠[]/\ ¬(el cl i).dy∈bH cl:=⟨am,fun q=>by have:=aS.2 q;omega⟩
  unfold lJ at k;replace k:=Ik k;exact E1 k
 all_goals have hns: ¬((el cl i).dy≠[]/\ ¬(el cl i).dy∈bH cl):=by first|exact fun q=>q.1 am|exact fun q=>q.2 (aS.1 om)
 all_goals
  have hf:aO (bH cl) (el cl i).name=i:=by assumption
  have hid:=(by assumption:du (el cl i).name)
  have e:lJ cl i=if(cw cl (el cl i).name).2=true then 10 else if 16<(el cl i).fields.length\/16<(el cl i).methods.length then 3 else if bO (iI cl i) (el cl i).fields.length≠0 then bO (iI cl i) (el cl i).fields.length else bO (fV cl i) (el cl i).methods.length:=by unfold lJ;rw[if_neg (not_not.2 hid),if_neg (not_not.2 hf),if_neg hns]
  rw[e]at k
  clear e hns
  refine ae (aa (iN cg hf ?_))
  cases hcy:(cw cl (el cl i).name).2
  all_goals rw[hcy]at k
  all_goals repeat'(first|refine Qa ?_|(refine Ba ?_ ?_<;>try exact Za)|intro hc)
  all_goals try(replace k:=Ik k;exact E1 k)
  refine aD (fun j:Nat=>[(2,.ptr 2 _ 0),(5,.ptr 5 _ 0),(6,pL 1 pI ((aB cl (el cl i).name).map (idx cl))),(56,.int .i64 ((el cl i).fields.length:Nat)),(57,.int .i64 j)]) (fun _=>[(2,some _,.cells (jf cl)),(5,some _,.cells (gS (el cl i)))]) (fun j=>j<=(el cl i).fields.length/\ ∀a,a<j->iI cl i a=0) (fun j=>(el cl i).fields.length-j) 0 ⟨Nat.zero_le _,gY⟩ .su .su ?_
  rintro j ⟨hj,hb⟩
  repeat'(first|refine Qa ?_|(refine Ba ?_ ?_<;>try exact Za)|(refine ae (aa (oc (i:=i) (j:=j) cg hi hf hcy ?_ ?_ ?_)))|omega|intro hc)
  ·refine⟨j+1,by dsimp only;omega,⟨om,fun a ha=>?_⟩,.su,.su⟩
   by_cases q:a=j
   ·subst q;assumption
   ·exact hb a om
  ·have e:=aW (n:=(el cl i).fields.length) om hb rfl am
   replace k:=Ik k;rw[e]at k;replace k:=Ik k;exact E1 k
  have e:=bL fun x (hx:x<(el cl i).fields.length)=>hb x om
  rw[if_neg Bool.false_ne_true,if_neg (by omega),if_neg (not_not.2 e)]at k
  clear hb hj e
  refine aD (fun j:Nat=>[(2,.ptr 2 _ 0),(5,.ptr 5 _ 0),(6,pL 1 pI ((aB cl (el cl i).name).map (idx cl))),(70,.int .i64 ((el cl i).methods.length:Nat)),(71,.int .i64 j)]) (fun _=>[(2,some _,.cells (jf cl)),(5,some _,.cells (gS (el cl i)))]) (fun j=>j<=(el cl i).methods.length/\ ∀a,a<j->fV cl i a=0) (fun j=>(el cl i).methods.length-j) 0 ⟨Nat.zero_le _,gY⟩ .su .su ?_
  rintro j ⟨hj,hb⟩
  repeat'(first|refine Qa ?_|(refine Ba ?_ ?_<;>try exact Za)|(refine ae (aa (ni (i:=i) (j:=j) cg hi hf hcy ?_ ?_ ?_)))|omega|intro hc)
  ·refine⟨j+1,by dsimp only;omega,⟨om,fun a ha=>?_⟩,.su,.su⟩
   by_cases q:a=j
   ·subst q;assumption
   ·exact hb a om
  ·have e:=aW (n:=(el cl i).methods.length) om hb rfl am
   rw[e]at k;exact E1 k
  ·rw[bL fun x (hx:x<(el cl i).methods.length)=>hb x (by omega)]at k
   exact E1 k
end Go.Proofs.YtemehfgkfidgjaaGreatDoor.Ev
