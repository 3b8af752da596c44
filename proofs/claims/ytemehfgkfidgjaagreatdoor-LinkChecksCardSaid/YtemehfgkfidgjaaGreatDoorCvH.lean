/- CoverStates, part 21 -/
import Derived.Test.YtemehfgkfidgjaaGreatDoorCvA
set_option linter.all false
set_option maxHeartbeats 4000000
namespace Go.Proofs.YtemehfgkfidgjaaGreatDoor.Ev
open Go
open Classical
theorem Ia {c:Prop}(h:c:=by first|assumption|omega|exact rfl):c:=h
theorem Ib {c:Prop}(h: ¬c:=by first|assumption|exact not_not.2 (by assumption)|omega|exact Bool.false_ne_true): ¬c:=h
theorem Ik {p q:Prop}(k:p)(h:p->Wq q:=by intro k;(repeat(first|rw[if_pos (by exact Ia)]at k|rw[if_neg (by exact Ib)]at k));exact⟨k⟩):q:=(h k).u
def bO (f:Nat->Int):Nat->Int
 |0=>0
 |n+1=>if bO f n=0 then f n else bO f n
theorem bL {f:Nat->Int}: ∀{n:Nat},(∀i,i<n->f i=0)->bO f n=0
 |0,_=>rfl
 |n+1,h=>by rw[bO,if_pos (bL fun i hi=>h i (by omega))];exact h n om
theorem aW {f:Nat->Int}{e:Int}: ∀{n j:Nat},j<n->(∀i,i<j->f i=0)->f j=e->e≠0->bO f n=e
 |0,j,h,_,_,_=>absurd h om
 |n+1,j,h,h0,h1,h2=>by
  by_cases q:j=n
  ·subst q;rw[bO,if_pos (bL h0)];exact h1
  ·have:=aW (n:=n) om h0 h1 h2
   rw[bO,if_neg (by rw[this];exact h2)];exact this
theorem gk {f:Nat->Int}: ∀{n:Nat},bO f n=0-> ∀i,i<n->f i=0
 |0,_,i,hi=>absurd hi om
 |n+1,h,i,hi=>by
  rw[bO]at h
  by_cases q:bO f n=0
  ·rw[if_pos q]at h
   by_cases qi:i=n
   ·subst qi;exact h
   ·exact gk q i om
  ·rw[if_neg q]at h;exact absurd h q
def kS (a b:bZ):Prop:=a.params=b.params/\a.result=b.result
def uR (cl:List aN)(t:List Nat):Prop:=t=iq\/t∈bH cl
def UA (cl:List aN)(s:bZ):Prop:=(∀p∈s.params,uR cl p)/\(s.result=[]\/uR cl s.result)
noncomputable def nV (cl:List aN)(s:bZ):Int:=if UA cl s then 0 else 8
def Eh (cl:List aN)(c:List Nat)(s:bZ):Prop:= ∃d∈(aB cl c).drop 1,∃m∈(bt cl d).methods,m.name=s.name/\(m.static=true\/s.static=true\/ ¬kS m s)
theorem J4 {α:Type} [Inhabited α] {l m:List α}(hl:l.length=m.length)(h: ∀i,i<l.length->el l i=el m i):l=m:=by
 apply List.ext_getElem hl
 intro i h1 h2
 have:=h i h1
 simpa[el,h1,h2]using this
theorem nG {x y:bZ}{K:PV->Prop}(kt:kS x y->K (.bool true))(kf: ¬kS x y->K (.bool false)):PF Tryz.prog X0 Mx 59 [.agg (cb x),.agg (cb y)] K:=by
 refine Pf xi fun hnt=>?_
 repeat'(first|refine Qa ?_|(refine Ba ?_ ?_<;>try exact Za)|intro hc)
 ·refine aD (fun j:Nat=>[(2,.ptr 2 _ 0),(3,.ptr 3 _ 0),(5,.int .i64 j)]) (fun _=>[(2,some _,.cells (cb x)),(3,some _,.cells (cb y))]) (fun j=>j<=x.params.length/\ ∀i,i<j->el x.params i=el y.params i) (fun j=>x.params.length-j) 0 ⟨Nat.zero_le _,gY⟩ .su .su ?_
  rintro j ⟨hj,hb⟩
  repeat'(first|refine Qa ?_|(refine Ba ?_ ?_<;>try exact Za)|intro hc)
  ·refine⟨j+1,by dsimp only;omega,⟨om,fun i hi=>?_⟩,.su,.su⟩
   by_cases q:i=j
   ·subst q;exact hc
   ·exact hb i om
  ·exact E1 (kf fun q=>hc (by rw[q.1]))
  ·exact E1 (kt ⟨J4 om fun i hi=>hb i om,am⟩)
 ·exact E1 (kf fun q=>hc q.2)
 ·exact E1 (kf fun q=>hc (by rw[q.1]))
theorem sr {cl:List aN}{s:bZ}{K:PV->Prop}(k:K (.int .i64 (nV cl s))):PF Tryz.prog X0 Mx 296 [.agg (aY cl),.agg (cb s)] K:=by
 refine Pf BX fun hnt=>?_
 repeat'(first|refine Qa ?_|(refine Ba ?_ ?_<;>try exact Za)|intro hc)
 refine aD (fun j:Nat=>[(2,.ptr 2 _ 0),(3,.ptr 3 _ 0),(5,.int .i64 j)]) (fun _=>[(2,some _,.cells (aY cl)),(3,some _,.cells (cb s))]) (fun j=>j<=s.params.length/\ ∀i,i<j->uR cl (el s.params i)) (fun j=>s.params.length-j) 0 ⟨Nat.zero_le _,gY⟩ .su .su ?_
 rintro j ⟨hj,hb⟩
 repeat'(first|refine Qa ?_|(refine Ba ?_ ?_<;>try exact Za)|(refine ix (aR (iH (fun hc=>?_) fun hc=>?_)))|(refine ae (aa (iH (fun hc=>?_) fun hc=>?_)))|intro hc)
 ·refine⟨j+1,by dsimp only;omega,⟨om,fun i hi=>?_⟩,.su,.su⟩
  by_cases q:i=j
  ·subst q;exact hc
  ·exact hb i om
 ·rw[nV,if_neg fun q=>hc (q.1 _ (ba (by omega)))]at k
  exact E1 k
 all_goals have hp: ∀p∈s.params,uR cl p:=fun p hp=>by obtain⟨i,hi,e⟩:=cm hp;rw[<-e];exact hb i om
 ·rw[nV,if_pos ⟨hp,Or.inl hc⟩]at k
  exact E1 k
 ·rw[nV,if_pos ⟨hp,Or.inr hc⟩]at k
  exact E1 k
 ·rw[nV,if_neg fun q=>q.2.elim (by assumption) hc]at k
  exact E1 k
theorem kT {cl:List aN}{c:List Nat}{s:bZ}{K:PV->Prop}(cg:cl.length<=64)(kt:Eh cl c s->K (.bool true))(kf: ¬Eh cl c s->K (.bool false)):PF Tryz.prog X0 Mx 297 [.agg (aY cl),.str c,.agg (cb s)] K:=by
 refine Pf ta fun hnt=>?_
 repeat'(first|refine Qc ?_|(refine Ba ?_ ?_<;>try exact Za)|refine ad ?_|refine ah ?_|refine ak ?_|refine ai ?_|refine au ?_|refine ay ?_|refine ae (aa (JW cg ?_))|refine pb ?_|intro hc)
 refine aD (fun j:Nat=>[(3,.ptr 3 _ 0),(5,.ptr 5 _ 0),(7,pL 1 pS ((aB cl c).drop 1)),(8,.int .i64 j)]) (fun _=>[(3,some _,.cells (aY cl)),(5,some _,.cells (cb s))]) (fun j=>j<=((aB cl c).drop 1).length/\ ∀i,i<j-> ¬ ∃m∈(bt cl (el ((aB cl c).drop 1) i)).methods,m.name=s.name/\(m.static=true\/s.static=true\/ ¬kS m s)) (fun j=>((aB cl c).drop 1).length-j) 0 ⟨Nat.zero_le _,gY⟩ .su .su ?_
 rintro j ⟨hj,hb⟩
 by_cases hlt:j<((aB cl c).drop 1).length
 ·have hm:=aS.2 (dZ (List.mem_of_mem_drop (ba hlt)))
  have hl2:=dC (l:=bH cl) (s:=el ((aB cl c).drop 1) j)
  rw[cn]at hl2
  repeat'(first|refine Qc ?_|(refine Ba ?_ ?_<;>try exact Za)|refine ad ?_|refine ah ?_|refine ak ?_|refine ai ?_|refine au ?_|refine ay ?_|refine aX ?_|refine pd ?_|refine aI ?_|(refine ix (aR (dY ?_)))|refine AL ?_|refine pb ?_|intro hc)
  refine aD (fun i:Nat=>[(3,.ptr 3 _ 0),(5,.ptr 5 _ 0),(7,pL 1 pS ((aB cl c).drop 1)),(8,.int .i64 j),(9,.ptr 9 _ 0),(10,.int .i64 i)]) (fun _=>[(3,some _,.cells (aY cl)),(5,some _,.cells (cb s)),(9,some _,.cells (gS (bt cl (el ((aB cl c).drop 1) j))))]) (fun i=>i<=(bt cl (el ((aB cl c).drop 1) j)).methods.length/\ ∀i',i'<i-> ¬((el (bt cl (el ((aB cl c).drop 1) j)).methods i').name=s.name/\((el (bt cl (el ((aB cl c).drop 1) j)).methods i').static=true\/s.static=true\/ ¬kS (el (bt cl (el ((aB cl c).drop 1) j)).methods i') s))) (fun i=>(bt cl (el ((aB cl c).drop 1) j)).methods.length-i) 0 ⟨Nat.zero_le _,gY⟩ .su .su ?_
  rintro i ⟨hi,hb2⟩
  have fin:i<(bt cl (el ((aB cl c).drop 1) j)).methods.length->(el (bt cl (el ((aB cl c).drop 1) j)).methods i).name=s.name/\((el (bt cl (el ((aB cl c).drop 1) j)).methods i).static=true\/s.static=true\/ ¬kS (el (bt cl (el ((aB cl c).drop 1) j)).methods i) s)->Eh cl c s:=fun q1 q2=>⟨_,ba hlt,_,ba q1,q2⟩
  repeat'(first|refine Qc ?_|(refine Ba ?_ ?_<;>try exact Za)|refine ad ?_|refine ah ?_|refine ak ?_|refine ai ?_|refine au ?_|refine ay ?_|refine aX ?_|refine pd ?_|refine aI ?_|(refine ix (aR (nG (fun hc=>?_) fun hc=>?_)))|refine AL ?_|refine pb ?_|intro hc)
  ·exact E1 (kt (fin om ⟨am,Or.inl hc⟩))
  ·exact E1 (kt (fin om ⟨am,Or.inr (Or.inl hc)⟩))
  ·refine⟨i+1,by dsimp only;omega,⟨om,fun i' hi'=>?_⟩,.su,.su⟩
   by_cases q:i'=i
   ·subst q;exact fun q=>by rcases q.2 with q|q|q;exact absurd (q.symm.trans (by assumption:_=false)) dc;exact absurd (q.symm.trans (by assumption:_=false)) dc;exact q hc
   ·exact hb2 i' om
  ·exact E1 (kt (fin om ⟨am,Or.inr (Or.inr hc)⟩))
  ·refine⟨i+1,by dsimp only;omega,⟨om,fun i' hi'=>?_⟩,.su,.su⟩
   by_cases q:i'=i
   ·subst q;exact fun q=>hc q.1
   ·exact hb2 i' om
  ·refine⟨j+1,by dsimp only;omega,⟨om,fun i' hi'=>?_⟩,.su,.su⟩
   by_cases q:i'=j
   ·subst q
    rintro⟨m,hm,q⟩
    obtain⟨x,hx,e⟩:=cm hm
    subst e
    exact hb2 x om q
   ·exact hb i' om
 ·repeat'(first|refine Qc ?_|(refine Ba ?_ ?_<;>try exact Za)|refine ad ?_|refine ah ?_|refine ak ?_|refine ai ?_|refine au ?_|refine ay ?_|refine aX ?_|refine pd ?_|refine aI ?_|refine AL ?_|refine pb ?_|intro hc)
  exact E1 (kf (by rintro⟨d,hd,q⟩;obtain⟨i,hi,e⟩:=cm hd;subst e;exact hb i om q))
noncomputable def iI (cl:List aN)(i j:Nat):Int:=
 if ¬du (el (el cl i).fields j).name then 5 else if ¬uR cl (el (el cl i).fields j).wZ then 8 else if ∃k,k<j/\(el (el cl i).fields k).name=(el (el cl i).fields j).name then 7 else if(∃r,fF cl (el cl i).dy (el (el cl i).fields j).name=some r)/\(el cl i).dy≠[]then 7 else 0
noncomputable def fV (cl:List aN)(i j:Nat):Int:=
 if ¬du (el (el cl i).methods j).name then 5 else if ∃k,k<j/\(el (el cl i).methods k).name=(el (el cl i).methods j).name then 7 else if 6<(el (el cl i).methods j).params.length then 3 else if ¬nV cl (el (el cl i).methods j)=0 then nV cl (el (el cl i).methods j)else if Eh cl (el cl i).name (el (el cl i).methods j)then 11 else 0
noncomputable def lJ (cl:List aN)(i:Nat):Int:=
 if ¬du (el cl i).name then 5 else if aO (bH cl) (el cl i).name≠i then 7 else if(el cl i).dy≠[]/\ ¬(el cl i).dy∈bH cl then 6 else if(cw cl (el cl i).name).2=true then 10 else if 16<(el cl i).fields.length\/16<(el cl i).methods.length then 3 else if bO (iI cl i) (el cl i).fields.length≠0 then bO (iI cl i) (el cl i).fields.length else bO (fV cl i) (el cl i).methods.length
noncomputable def gb (cl:List aN):Int:=if 64<cl.length then 3 else bO (lJ cl) cl.length
theorem pe {cl:List aN}{i:Nat}{K:PV->Prop}(cg:cl.length<=64)(hi:i<cl.length)(k:K (.int .i64 (bO (iI cl i) (el cl i).fields.length))):PF Tryz.prog X0 Mx 271 [.agg (aY cl),.int .i64 (i:Nat)] K:=by
 refine Pf zy fun hnt=>?_
 repeat'(first|refine Qb ?_|(refine ak ?_;intro hl)|(refine ai ?_;intro b)|(refine Ba ?_ ?_<;>intro hc<;>try exact Zb)|refine pb ?_)
 refine aD (fun j:Nat=>[(1,.int .i64 (i:Nat)),(2,.ptr 2 _ 0),(5,pL 2 s8 (el cl i).fields),(6,.int .i64 j)]) (fun _=>[(2,some _,.cells (aY cl))]) (fun j=>j<=(el cl i).fields.length/\ ∀x,x<j->iI cl i x=0) (fun j=>(el cl i).fields.length-j) 0 ⟨Nat.zero_le _,gY⟩ .su .su ?_
 rintro j ⟨hj,hb⟩
 repeat'(first|refine Qb ?_|(refine ak ?_;intro hl)|(refine ai ?_;intro b)|(refine Ba ?_ ?_<;>intro hc<;>try exact Zb)|refine aX ?_|refine pd ?_|(refine ae (aa (fb (fun hc=>?_) fun hc=>?_)))|(refine ix (aR (iH (fun hc=>?_) fun hc=>?_)))|refine pb ?_)
 ·refine aD (fun m:Nat=>[(1,.int .i64 (i:Nat)),(2,.ptr 2 _ 0),(5,pL 2 s8 (el cl i).fields),(6,.int .i64 j),(7,.int .i64 m)]) (fun _=>[(2,some _,.cells (aY cl))]) (fun m=>m<=j/\ ∀x,x<m->(el (el cl i).fields x).name≠(el (el cl i).fields j).name) (fun m=>j-m) 0 ⟨Nat.zero_le _,gY⟩ .su .su ?_
  rintro m ⟨hm,hb2⟩
  repeat'(first|refine Qb ?_|(refine ak ?_;intro hl)|(refine ai ?_;intro b)|(refine Ba ?_ ?_<;>intro hc<;>try exact Zb)|refine aX ?_|refine pd ?_|(refine ix (aR (iH (fun hc=>?_) fun hc=>?_)))|(refine ix (aR (sq cg (fun c f hF=>?_) fun hF=>?_)))|refine pb ?_)
  ·have e:iI cl i j=7:=by unfold iI;rw[if_neg (not_not.2 (by assumption)),if_neg (not_not.2 (by assumption)),if_pos ⟨m,by omega,hc⟩]
   rw[aW (by omega) hb e (by decide)]at k
   exact E1 k
  ·refine⟨m+1,by dsimp only;omega,⟨om,fun x hx=>?_⟩,.su,.su⟩
   by_cases q:x=m
   ·subst q;exact hc
   ·exact hb2 x om
  all_goals have hne: ¬ ∃k,k<j/\(el (el cl i).fields k).name=(el (el cl i).fields j).name:=fun⟨y,hy,q⟩=>hb2 y om q
  ·refine⟨j+1,by dsimp only;omega,⟨om,fun i hi=>?_⟩,.su,.su⟩
   by_cases q:i=j
   ·subst q;unfold iI;rw[if_neg (not_not.2 (by assumption)),if_neg (not_not.2 (by assumption)),if_neg hne,if_neg fun q=>q.2 (by assumption)]
   ·exact hb i om
  ·have e:iI cl i j=7:=by unfold iI;rw[if_neg (not_not.2 (by assumption)),if_neg (not_not.2 (by assumption)),if_neg hne,if_pos ⟨⟨_,hF⟩,hc⟩]
   rw[aW (by omega) hb e (by decide)]at k
   exact E1 k
  ·refine⟨j+1,by dsimp only;omega,⟨om,fun i hi=>?_⟩,.su,.su⟩
   by_cases q:i=j
   ·subst q;unfold iI;rw[if_neg (not_not.2 (by assumption)),if_neg (not_not.2 (by assumption)),if_neg hne,if_neg fun q=>by rw[hF]at q;exact absurd q.1 (by simp)]
   ·exact hb i om
 ·have e:iI cl i j=8:=by unfold iI;rw[if_neg (not_not.2 (by assumption)),if_pos (by assumption)]
  rw[aW (by omega) hb e (by decide)]at k
  exact E1 k
 ·have e:iI cl i j=5:=by unfold iI;rw[if_pos (by assumption)]
  rw[aW (by omega) hb e (by decide)]at k
  exact E1 k
 ·rw[bL fun x hx=>hb x (by omega)]at k
  exact E1 k
theorem nJ {cl:List aN}{i:Nat}{K:PV->Prop}(cg:cl.length<=64)(hi:i<cl.length)(k:K (.int .i64 (bO (fV cl i) (el cl i).methods.length))):PF Tryz.prog X0 Mx 272 [.agg (aY cl),.int .i64 (i:Nat)] K:=by
 refine Pf xj fun hnt=>?_
 repeat'(first|refine Qb ?_|(refine ak ?_;intro hl)|(refine ai ?_;intro b)|(refine Ba ?_ ?_<;>intro hc<;>try exact Zb)|refine pb ?_)
 refine aD (fun j:Nat=>[(1,.int .i64 (i:Nat)),(2,.ptr 2 _ 0),(5,pL 4 cb (el cl i).methods),(6,.int .i64 j)]) (fun _=>[(2,some _,.cells (aY cl))]) (fun j=>j<=(el cl i).methods.length/\ ∀x,x<j->fV cl i x=0) (fun j=>(el cl i).methods.length-j) 0 ⟨Nat.zero_le _,gY⟩ .su .su ?_
 rintro j ⟨hj,hb⟩
 repeat'(first|refine Qb ?_|(refine ak ?_;intro hl)|(refine ai ?_;intro b)|(refine Ba ?_ ?_<;>intro hc<;>try exact Zb)|refine aX ?_|refine pd ?_|(refine ae (aa (fb (fun hc=>?_) fun hc=>?_)))|refine ix (aR (sr ?_))|(refine ix (aR (kT cg (fun hc=>?_) fun hc=>?_)))|refine pb ?_)
 ·refine aD (fun m:Nat=>[(1,.int .i64 (i:Nat)),(2,.ptr 2 _ 0),(5,pL 4 cb (el cl i).methods),(6,.int .i64 j),(7,.int .i64 m)]) (fun _=>[(2,some _,.cells (aY cl))]) (fun m=>m<=j/\ ∀x,x<m->(el (el cl i).methods x).name≠(el (el cl i).methods j).name) (fun m=>j-m) 0 ⟨Nat.zero_le _,gY⟩ .su .su ?_
  rintro m ⟨hm,hb2⟩
  repeat'(first|refine Qb ?_|(refine ak ?_;intro hl)|(refine ai ?_;intro b)|(refine Ba ?_ ?_<;>intro hc<;>try exact Zb)|refine aX ?_|refine pd ?_|refine ix (aR (sr ?_))|(refine ix (aR (kT cg (fun hc=>?_) fun hc=>?_)))|refine pb ?_)
  ·have e:fV cl i j=7:=by unfold fV;rw[if_neg (not_not.2 (by assumption)),if_pos ⟨m,by omega,hc⟩]
   rw[aW (by omega) hb e (by decide)]at k
   exact E1 k
  ·refine⟨m+1,by dsimp only;omega,⟨om,fun x hx=>?_⟩,.su,.su⟩
   by_cases q:x=m
   ·subst q;exact hc
   ·exact hb2 x om
  all_goals have hne: ¬ ∃k,k<j/\(el (el cl i).methods k).name=(el (el cl i).methods j).name:=fun⟨y,hy,q⟩=>hb2 y om q
  ·have e:fV cl i j=3:=by unfold fV;(repeat(first|rw[if_pos (by exact Ia)]|rw[if_neg (by exact Ib)]))
   rw[aW (by omega) hb e (by decide)]at k
   exact E1 k
  ·have e:fV cl i j=11:=by unfold fV;(repeat(first|rw[if_pos (by exact Ia)]|rw[if_neg (by exact Ib)]))
   rw[aW (by omega) hb e (by decide)]at k
   exact E1 k
  ·refine⟨j+1,by dsimp only;omega,⟨om,fun i hi=>?_⟩,.su,.su⟩
   by_cases q:i=j
   ·subst q;unfold fV;(repeat(first|rw[if_pos (by exact Ia)]|rw[if_neg (by exact Ib)]))
   ·exact hb i om
  ·have e:fV cl i j=nV cl (el (el cl i).methods j):=by unfold fV;(repeat(first|rw[if_pos (by exact Ia)]|rw[if_neg (by exact Ib)]))
   rw[aW (by omega) hb e (by assumption)]at k
   exact E1 k
 ·have e:fV cl i j=5:=by unfold fV;rw[if_pos (by assumption)]
  rw[aW (by omega) hb e (by decide)]at k
  exact E1 k
 ·rw[bL fun x hx=>hb x (by omega)]at k
  exact E1 k
theorem BY {cl:List aN}{i:Nat}{K:PV->Prop}(cg:cl.length<=64)(hi:i<cl.length)(k:K (.int .i64 (lJ cl i))):PF Tryz.prog X0 Mx 234 [.agg (aY cl),.int .i64 (i:Nat)] K:=by
 refine Pf BZ fun hnt=>?_
 repeat'(first|refine Qa ?_|(refine Ba ?_ ?_<;>try exact Za)|(refine ae (aa (fb (fun hc=>?_) fun hc=>?_)))|refine ae (aa (dY ?_))|refine ae (aa (sk cg ?_))|refine ae (aa (pe cg hi ?_))|refine ae (aa (nJ cg hi ?_))|intro hc)
 case refine_1.refine_2=>unfold lJ at k;replace k:=Ik k;exact E1 k
 case refine_2=>unfold lJ at k;replace k:=Ik k;exact E1 k
 case refine_1.refine_1.refine_2.refine_1=>
  have hns:(el cl i).dy≠[]/\ ¬(el cl i).dy∈bH cl:=⟨am,fun q=>by have:=aS.2 q;omega⟩
  unfold lJ at k;replace k:=Ik k;exact E1 k
 all_goals have hns: ¬((el cl i).dy≠[]/\ ¬(el cl i).dy∈bH cl):=by first|exact fun q=>q.1 am|exact fun q=>q.2 (aS.1 om)
 all_goals
  cases hcy:(cw cl (el cl i).name).2
  repeat'(first|refine Qa ?_|(refine Ba ?_ ?_<;>try exact Za)|refine ae (aa (pe cg hi ?_))|refine ae (aa (nJ cg hi ?_))|intro hc)
 all_goals have hq:((cw cl (el cl i).name).2=true)=False\/(cw cl (el cl i).name).2=true:=by rw[hcy];simp
 all_goals(unfold lJ at k;rw[hcy]at k;replace k:=Ik k;exact E1 k)
theorem B0 {cl:List aN}{K:PV->Prop}(k: ∀i,K (.bn [.int .i64 i,.int .i64 (gb cl)])):PF Tryz.prog X0 Mx 165 [.agg (aY cl)] K:=by
 refine Pf B1 fun hnt=>?_
 repeat'(first|refine Qa ?_|(refine Ba ?_ ?_<;>try exact Za)|intro hc)
 ·specialize k (-1);unfold gb at k;replace k:=Ik k;exact E1 k
 refine aD (fun j:Nat=>[(1,.ptr 1 _ 0),(4,.int .i64 j)]) (fun _=>[(1,some _,.cells (aY cl))]) (fun j=>j<=cl.length/\ ∀i,i<j->lJ cl i=0) (fun j=>cl.length-j) 0 ⟨Nat.zero_le _,gY⟩ .su .su ?_
 rintro j ⟨hj,hb⟩
 repeat'(first|refine Qa ?_|(refine Ba ?_ ?_<;>try exact Za)|refine ae (aa (BY ?_ ?_ ?_))|omega|intro hc)
 ·refine⟨j+1,by dsimp only;omega,⟨om,fun i hi=>?_⟩,.su,.su⟩
  by_cases q:i=j
  ·subst q;assumption
  ·exact hb i om
 ·have e:=aW (n:=cl.length) om hb rfl am
  specialize k (j:Nat);unfold gb at k;rw[if_neg (by omega),e]at k;exact E1 k
 ·specialize k 0;unfold gb at k;rw[if_neg (by omega),bL fun x hx=>hb x (by omega)]at k;exact E1 k
structure wF where
 sW:Int
 out:Int
 deriving Inhabited,DecidableEq
structure cU where
 cls:List Nat
 gP:List Nat
 sig:bZ
 closed:Bool
 c8:List wF
 deriving Inhabited
structure ll where
 Vx:Int
 bf:List cU
def qw (x:wF):List PV:=[.int .i64 x.sW,.int .i64 x.out]
def gG (x:cU):List PV:=[.str x.cls,.str x.gP,.str x.sig.name,.bool x.sig.static,pL 1 pS x.sig.params,.str x.sig.result,.bool x.closed,pL 2 qw x.c8]
def jv (l:ll):List PV:=[.int .i64 l.Vx,pL 8 gG l.bf]
/-! the order of texts -/
theorem oI: ∀{a b:List Nat},gR a b=0↔a=b
 |[],[]=>by simp[gR]
 |[],_::_=>by simp[gR]
 |_::_,[]=>by simp[gR]
 |x::a,y::b=>by
  unfold gR
  cases h:Nat.beq x y with
  |true=>rw[cond_true,oI,Nat.eq_of_beq_eq_true h];simp
  |false=>
   have hne:x≠y:=fun q=>by subst q;simp at h
   rw[cond_false]
   cases Nat.blt x y<;>simp[hne]
theorem yR: ∀{a b:List Nat},gR a b<0↔SS.lss.den a b=true
 |[],[]=>by simp[gR,SS.den,AR,Ji]
 |[],_::_=>by simp[gR,SS.den,AR,Ji]
 |_::_,[]=>by simp[gR,SS.den,AR,Ji]
 |x::a,y::b=>by
  have ih:=yR (a:=a) (b:=b)
  simp only[SS.den,AR]at ih⊢
  unfold gR Ji
  cases h:Nat.beq x y with
  |true=>
   have:=Nat.eq_of_beq_eq_true h
   subst this
   rw[cond_true,ih]
   have:Nat.blt x x=false:=by cases q:Nat.blt x x with|false=>rfl|true=>simp[Nat.blt_eq]at q
   rw[this];simp
  |false=>
   rw[cond_false]
   cases Nat.blt x y<;>simp
noncomputable def kj (a1 a2 b1 b2:List Nat):Int:=if gR a1 b1=0 then gR a2 b2 else gR a1 b1
def oJ (a1 a2 b1 b2:List Nat):Prop:=if a1=b1 then SS.lss.den a2 b2=true else SS.lss.den a1 b1=true
theorem qB {a1 a2 b1 b2:List Nat}:kj a1 a2 b1 b2<0↔oJ a1 a2 b1 b2:=by
 unfold kj oJ
 by_cases h:a1=b1
 ·rw[if_pos (oI.2 h),if_pos h,yR]
 ·rw[if_neg (fun q=>h (oI.1 q)),if_neg h,yR]
def GV (a b:Int):Int:=if a<b then -1 else if b<a then 1 else 0
def yS (a b:wF):Prop:=a.sW<b.sW\/(a.sW=b.sW/\a.out<b.out)
def ua (a b:wF):Int:=if GV a.sW b.sW=0 then GV a.out b.out else GV a.sW b.sW
theorem ub {a b:wF}:ua a b<0↔yS a b:=by
 unfold ua yS GV
 split<;>(repeat' split)<;>constructor<;>intro h<;>omega
/-! the errors -/
def Sj:List Nat:=[105,110,116]
def Dl (s:List Nat):Prop:=s=Sj\/du s
def sa (s:bZ):Int:=if s.static=true then(s.params.length:Int)else s.params.length+1
def fx (x:cU)(p:wF):Prop:=p.sW< -2\/sa x.sig<=p.sW\/(p.out≠ -1/\p.out≠ -2)\/(0<=p.sW/\p.out= -1/\x.sig.result=[])
noncomputable def nB (x:cU)(i:Nat):Int:=if fx x (el x.c8 i)then 4 else if 0<i/\ ¬yS (el x.c8 (i-1)) (el x.c8 i)then 13 else 0
noncomputable def ib (s:bZ):Int:=if 6<s.params.length then 3 else if ¬ ∀i,i<s.params.length->Dl (el s.params i)then 8 else if s.result≠[]/\ ¬Dl s.result then 8 else 0
noncomputable def uc (x:cU):Int:=if x.sig.name≠x.gP then 20 else if ib x.sig≠0 then ib x.sig else if x.closed=false/\0<x.c8.length then 1 else bO (nB x) x.c8.length
noncomputable def wG (l:List cU)(i:Nat):Int:=if ¬du (el l i).cls\/ ¬du (el l i).gP then 5 else if 0<i/\ ¬oJ (el l (i-1)).cls (el l (i-1)).gP (el l i).cls (el l i).gP then 13 else uc (el l i)
noncomputable def AS (l:ll):Int:=if l.Vx≠1 then 19 else if 256<l.bf.length then 3 else bO (wG l.bf) l.bf.length
section
variable [Gb]
theorem mP {a b:List Nat}{K:PV->Prop}(k:K (.int .i64 (gR a b))):PF Tryz.prog X0 Mx 202 [.str a,.str b] K:=Jj Uq (bg _) (fun h F av r=>by
 cases r with
 |cons _ _ _ _ r1 r=>cases r1;cases r with|cons _ _ _ _ r2 r=>cases r2;cases r;exact⟨_,rfl,.int _ _⟩) k
theorem jy {a b:List Nat}{K:PV->Prop}(k:K (.int .i64 (gR a b))):PF Tryz.prog X0 Mx 129 [.str a,.str b] K:=by
 have hnt:(8:Nat)<=1000000:=by decide
 refine bD jz (bg _) (by simp) hnt ?_
 repeat'(first|refine pg ?_|refine af ?_|refine ae (aa (mP ?_))|refine pc ?_|refine pt ?_)
 exact⟨Or.inr rfl,⟨trivial,trivial⟩,_,_,rfl,.refl _,k⟩
theorem oK {a b:List Nat}{K:PV->Prop}(k:K (.int .i64 (gR a b))):PF Tryz.prog X0 Mx 86 [.str a,.str b] K:=by
 have hnt:(8:Nat)<=1000000:=by decide
 refine bD oM (bg _) (by simp) hnt ?_
 repeat'(first|refine pg ?_|refine af ?_|refine ae (aa (jy ?_))|refine pc ?_|refine pt ?_)
 exact⟨Or.inr rfl,⟨trivial,trivial⟩,_,_,rfl,.refl _,k⟩
theorem jh {a1 a2 b1 b2:List Nat}{K:PV->Prop}(k:K (.int .i64 (kj a1 a2 b1 b2))):PF Tryz.prog X0 Mx 34 [.agg [.str a1,.str a2],.agg [.str b1,.str b2]] K:=by
 have hnt:(19:Nat)<=1000000:=by decide
 refine bD ji (bg _) (by simp) hnt ?_
 unfold kj at k
 repeat'(first|refine pg ?_|refine af ?_|refine ad ?_|(refine ai ?_;intro b)|(refine aw ?_ ?_<;>intro hc<;>try first|contradiction|omega)|refine ae (aa (oK ?_))|refine pc ?_|refine pt ?_)
 all_goals(repeat(first|rw[if_pos (by exact Ia)]at k|rw[if_neg (by exact Ib)]at k))
 all_goals exact⟨Or.inr rfl,⟨trivial,trivial⟩,_,_,rfl,.refl _,k⟩
theorem sX {a:Int}{K:PV->Prop}(k:K (.bool false)):PF Tryz.prog X0 Mx 123 [.int .i64 a] K:=by
 have hnt:(6:Nat)<=1000000:=by decide
 refine bD sY (bg _) (by simp) hnt ?_
 repeat'(first|refine pg ?_|refine af ?_|(refine aw ?_ ?_<;>intro hc<;>try first|contradiction|omega)|refine pc ?_|refine pt ?_)
 exact⟨Or.inr rfl,⟨trivial,trivial⟩,_,_,rfl,.refl _,k⟩
theorem oN {a b:Int}{K:PV->Prop}(k:K (.int .i64 (GV a b))):PF Tryz.prog X0 Mx 76 [.int .i64 a,.int .i64 b] K:=by
 have hnt:(20:Nat)<=1000000:=by decide
 refine bD oO (bg _) (by simp) hnt ?_
 unfold GV at k
 repeat'(first|refine pg ?_|refine af ?_|(refine aw ?_ ?_<;>intro hc<;>try first|contradiction|omega)|refine ae (aa (sX ?_))|refine pc ?_|refine pt ?_)
 all_goals(repeat(first|rw[if_pos (by exact Ia)]at k|rw[if_neg (by exact Ib)]at k))
 all_goals exact⟨Or.inr rfl,⟨trivial,trivial⟩,_,_,rfl,.refl _,k⟩
theorem iD {a b:wF}{K:PV->Prop}(k:K (.int .i64 (ua a b))):PF Tryz.prog X0 Mx 88 [.agg (qw a),.agg (qw b)] K:=by
 have hnt:(19:Nat)<=1000000:=by decide
 refine bD iE (bg _) (by simp) hnt ?_
 unfold ua at k
 repeat'(first|refine pg ?_|refine af ?_|refine ad ?_|(refine ai ?_;intro b)|(refine aw ?_ ?_<;>intro hc<;>try first|contradiction|omega)|refine ae (aa (oN ?_))|refine pc ?_|refine pt ?_)
 all_goals(repeat(first|rw[if_pos (by exact Ia)]at k|rw[if_neg (by exact Ib)]at k))
 all_goals exact⟨Or.inr rfl,⟨trivial,trivial⟩,_,_,rfl,.refl _,k⟩
end
theorem oP {s:List Nat}{K:PV->Prop}(kt:Dl s->K (.bool true))(kf: ¬Dl s->K (.bool false)):PF Tryz.prog X0 Mx 87 [.str s] K:=by
 have hnt:(9:Nat)<=1000000:=by decide
 refine bD yT (bg _) (by simp) hnt ?_
 repeat'(first|refine pg ?_|refine af ?_|(refine aw ?_ ?_<;>intro hc<;>try first|contradiction|omega)|(refine ae (aa (dG (fun hc=>?_) fun hc=>?_)))|refine pc ?_|refine pt ?_)
 all_goals first
  |exact⟨Or.inr rfl,⟨trivial,trivial⟩,_,_,rfl,.refl _,kt (by first|exact Or.inl (by assumption)|exact Or.inr (by assumption))⟩
  |exact⟨Or.inr rfl,⟨trivial,trivial⟩,_,_,rfl,.refl _,kf (fun q=>q.elim (by assumption) (by assumption))⟩
theorem GW {s:List Nat}{K:PV->Prop}(kt:Dl s->K (.bool true))(kf: ¬Dl s->K (.bool false)):PF Tryz.prog X0 Mx 164 [.str s] K:=by
 have hnt:(9:Nat)<=1000000:=by decide
 refine bD GX (bg _) (by simp) hnt ?_
 repeat'(first|refine pg ?_|refine af ?_|(refine aw ?_ ?_<;>intro hc<;>try first|contradiction|omega)|(refine ae (aa (fb (fun hc=>?_) fun hc=>?_)))|refine pc ?_|refine pt ?_)
 all_goals first
  |exact⟨Or.inr rfl,⟨trivial,trivial⟩,_,_,rfl,.refl _,kt (by first|exact Or.inl (by assumption)|exact Or.inr (by assumption))⟩
  |exact⟨Or.inr rfl,⟨trivial,trivial⟩,_,_,rfl,.refl _,kf (fun q=>q.elim (by assumption) (by assumption))⟩
theorem Sm {b:Bool}(h:b=false): ¬b=true:=by rw[h];decide
theorem Ft {s:bZ}(h6: ¬6<s.params.length)(h: ¬ ∀i,i<s.params.length->Dl (el s.params i)):ib s=8:=by unfold ib;rw[if_neg h6,if_pos h]
theorem AU {s:bZ}(h6: ¬6<s.params.length)(h: ∀i,i<s.params.length->Dl (el s.params i))(hr:s.result≠[]/\ ¬Dl s.result):ib s=8:=by unfold ib;rw[if_neg h6,if_neg (not_not.2 h),if_pos hr]
theorem Fu {s:bZ}(h6: ¬6<s.params.length)(h: ∀i,i<s.params.length->Dl (el s.params i))(hr: ¬(s.result≠[]/\ ¬Dl s.result)):ib s=0:=by unfold ib;rw[if_neg h6,if_neg (not_not.2 h),if_neg hr]
theorem ud {s:bZ}(h6:6<s.params.length):ib s=3:=by unfold ib;rw[if_pos h6]
theorem Jk {x:cU}(h: ¬x.sig.name=x.gP):uc x=20:=by unfold uc;rw[if_pos h]
theorem tE {x:cU}{e:Int}(h:x.sig.name=x.gP)(hs:ib x.sig=e)(he:e≠0):uc x=e:=by unfold uc;rw[if_neg (not_not.2 h),hs,if_pos he]
theorem AW {x:cU}(h:x.sig.name=x.gP)(hs:ib x.sig=0)(hc:x.closed=false/\0<x.c8.length):uc x=1:=by unfold uc;rw[if_neg (not_not.2 h),hs,if_neg (not_not.2 rfl),if_pos hc]
theorem AX {x:cU}(h:x.sig.name=x.gP)(hs:ib x.sig=0)(hc: ¬(x.closed=false/\0<x.c8.length)):uc x=bO (nB x) x.c8.length:=by unfold uc;rw[if_neg (not_not.2 h),hs,if_neg (not_not.2 rfl),if_neg hc]
theorem PJ {s:bZ}(h:ib s=0):s.params.length<=6:=by
 refine Classical.byContradiction fun q=>?_
 rw[ud (by omega)]at h;cases h
theorem Jl {l:List cU}{i:Nat}(h: ¬du (el l i).cls\/ ¬du (el l i).gP):wG l i=5:=by unfold wG;rw[if_pos h]
theorem Fw {l:List cU}{i:Nat}(h1:du (el l i).cls)(h2:du (el l i).gP)(h:0<i/\ ¬oJ (el l (i-1)).cls (el l (i-1)).gP (el l i).cls (el l i).gP):wG l i=13:=by unfold wG;rw[if_neg (fun q=>q.elim (fun q=>q h1) fun q=>q h2),if_pos h]
theorem mb {l:List cU}{i:Nat}(h1:du (el l i).cls)(h2:du (el l i).gP)(h: ¬(0<i/\ ¬oJ (el l (i-1)).cls (el l (i-1)).gP (el l i).cls (el l i).gP)):wG l i=uc (el l i):=by unfold wG;rw[if_neg (fun q=>q.elim (fun q=>q h1) fun q=>q h2),if_neg h]
theorem AY {x:cU}{j:Nat}(h:fx x (el x.c8 j)):nB x j=4:=by unfold nB;rw[if_pos h]
theorem AZ {x:cU}{j:Nat}(h: ¬fx x (el x.c8 j))(ho:0<j/\ ¬yS (el x.c8 (j-1)) (el x.c8 j)):nB x j=13:=by unfold nB;rw[if_neg h,if_pos ho]
theorem Fx {x:cU}{j:Nat}(h: ¬fx x (el x.c8 j))(ho: ¬(0<j/\ ¬yS (el x.c8 (j-1)) (el x.c8 j))):nB x j=0:=by unfold nB;rw[if_neg h,if_neg ho]
theorem GY {s:bZ}{K:PV->Prop}(k:K (.int .i64 (ib s))):PF Tryz.prog X0 Mx 104 [.agg (cb s)] K:=by
 have hnt:(31:Nat)<=1000000:=by decide
 refine bD GZ (bg _) (by simp) hnt ?_
 repeat'(first|refine pg ?_|refine af ?_|refine ad ?_|refine ah ?_|(refine ak ?_;intro hl)|(refine ai ?_;intro b)|(refine aw ?_ ?_<;>intro hc<;>try first|contradiction|omega)|refine aj ?_|refine aA ?_|refine pc ?_|refine pt ?_|refine pb ?_)
 ·rw[ud (by omega)]at k
  exact⟨Or.inr rfl,⟨trivial,trivial⟩,_,_,rfl,.refl _,k⟩
 have h6: ¬6<s.params.length:=by omega
 refine aD (fun j:Nat=>[(1,.ptr 1 _ 0),(3,.int .i64 j)]) (fun _=>[(1,some _,.cells (cb s))]) (fun j=>j<=s.params.length/\ ∀i,i<j->Dl (el s.params i)) (fun j=>s.params.length-j) 0 ⟨Nat.zero_le _,fun i hi=>absurd hi (by omega)⟩ (.cons rfl (.refl _) (.cons rfl (.refl _) (.nil))) (.cons rfl (.refl _) (.nil)) ?_
 rintro j ⟨hj,hb⟩
 repeat'(first|refine pg ?_|refine af ?_|refine ad ?_|refine ah ?_|(refine ak ?_;intro hl)|(refine ai ?_;intro b)|(refine aw ?_ ?_<;>intro hc<;>try first|contradiction|omega)|refine aj ?_|refine aA ?_|(refine ae (aa (GW (fun hc=>?_) fun hc=>?_)))|refine pc ?_|refine pt ?_|refine pb ?_)
 ·refine⟨j+1,by dsimp only;omega,⟨by omega,fun i hi=>?_⟩,(.cons rfl (.refl _) (.cons rfl (.refl _) (.nil))),(.cons rfl (.refl _) (.nil))⟩
  by_cases q:i=j
  ·subst q;exact hc
  ·exact hb i (by omega)
 ·rw[Ft h6 fun q=>hc (q j (by omega))]at k
  exact⟨Or.inr rfl,⟨trivial,trivial⟩,_,_,rfl,.refl _,k⟩
 all_goals have hp: ∀i,i<s.params.length->Dl (el s.params i):=fun i hi=>hb i (by omega)
 all_goals first
  |(rw[AU h6 hp ⟨by assumption,by assumption⟩]at k;exact⟨Or.inr rfl,⟨trivial,trivial⟩,_,_,rfl,.refl _,k⟩)
  |(rw[Fu h6 hp (fun q=>by first|exact q.1 (by assumption)|exact q.2 (by assumption))]at k;exact⟨Or.inr rfl,⟨trivial,trivial⟩,_,_,rfl,.refl _,k⟩)
theorem wH {a1 a2 b1 b2:List Nat}{K:PV->Prop}(kt:oJ a1 a2 b1 b2->K (.bool true))(kf: ¬oJ a1 a2 b1 b2->K (.bool false)):PF Tryz.prog X0 Mx 67 [.agg [.str a1,.str a2],.agg [.str b1,.str b2]] K:=by
 have hnt:(20:Nat)<=1000000:=by decide
 refine bD wI (bg _) (by simp) hnt ?_
 repeat'(first|refine pg ?_|refine af ?_|refine ad ?_|(refine ai ?_;intro b)|(refine aw ?_ ?_<;>intro hc<;>try first|contradiction|omega)|refine pc ?_|refine pt ?_)
 all_goals first
  |exact⟨Or.inr rfl,⟨trivial,trivial⟩,_,_,rfl,.refl _,kt (by unfold oJ;first|(rw[if_neg (by assumption)];assumption)|(rw[if_pos (by assumption)];assumption))⟩
  |exact⟨Or.inr rfl,⟨trivial,trivial⟩,_,_,rfl,.refl _,kf (by unfold oJ;first|(rw[if_neg (by assumption)];assumption)|(rw[if_pos (by assumption)];assumption))⟩
theorem Du {x:cU}{p:wF}{K:PV->Prop}(h6:x.sig.params.length<=6)(kt:fx x p->K (.int .i64 4))(kf: ¬fx x p->K (.int .i64 0)):PF Tryz.prog X0 Mx 105 [.agg (gG x),.agg (qw p)] K:=by
 have hnt:(51:Nat)<=1000000:=by decide
 refine bD Dv (bg _) (by simp) hnt ?_
 repeat'(first|refine pg ?_|refine af ?_|(refine aG ?_ ?_<;>intro hc<;>try contradiction)|refine ad ?_|(refine ak ?_;intro hl)|(refine ai ?_;intro b)|(refine aw ?_ ?_<;>intro hc<;>try first|contradiction|omega)|refine aA ?_|refine pc ?_|refine pt ?_)
 all_goals first
  |exact⟨Or.inr rfl,⟨trivial,trivial⟩,_,_,rfl,.refl _,kt (by(unfold fx sa;(first|rw[if_pos (by assumption)]|rw[if_neg (Sm (by assumption))]);(first|exact Or.inl (by omega)|exact Or.inr (Or.inl (by omega))|exact Or.inr (Or.inr (Or.inl ⟨by omega,by omega⟩))|exact Or.inr (Or.inr (Or.inr ⟨by omega,by omega,by assumption⟩)))))⟩
  |exact⟨Or.inr rfl,⟨trivial,trivial⟩,_,_,rfl,.refl _,kf (by(unfold fx sa;(first|rw[if_pos (by assumption)]|rw[if_neg (Sm (by assumption))]);rintro(q|q|q|q)<;>first|omega|exact absurd q.2.2 (by assumption)))⟩
theorem A0 {l:List cU}{i:Nat}{K:PV->Prop}(hln:l.length<=9223372036854775807)(hi:i<l.length)(k:K (.int .i64 (wG l i))):PF Tryz.prog X0 Mx 53 [pL 8 gG l,.int .i64 (i:Nat)] K:=by
 have hnt:(127:Nat)<=1000000:=by decide
 refine bD A1 (bg _) (by simp) hnt ?_
 repeat'(first|refine aj ?_|(refine mc (i-1) ?_)|refine pg ?_|refine af ?_|(refine aG ?_ ?_<;>intro hc<;>try contradiction)|refine ad ?_|refine ah ?_|(refine ak ?_;intro hl)|(refine ai ?_;intro b)|(refine aw ?_ ?_<;>intro hc<;>try first|contradiction|omega)|refine aA ?_|refine au ?_|refine ay ?_|refine aX ?_|refine pd ?_|refine fy.mk rfl ?_|refine aI ?_|(refine ae (aa (fb (fun hc=>?_) fun hc=>?_)))|(refine ix (aR (wH (fun hc=>?_) fun hc=>?_)))|(refine lq ?_)|(refine bz (us:=[.str (el l i).cls,.str (el l i).gP]) (hu:=⟨show 0+0+2<=8 by decide,rfl⟩) ?_)|(refine iF (us:=[.str (el l _).cls,.str (el l _).gP]) (hu:=⟨show 0+0+2<=8 by decide,rfl⟩) ?_)|(refine bz (us:=cb (el l i).sig) (hu:=⟨show 0+2+4<=8 by decide,rfl⟩) ?_)|refine ae (aa (GY ?_))|refine pc ?_|refine pt ?_|refine pb ?_)
 all_goals try(first
  |(rw[Jl (by first|exact Or.inl (by assumption)|exact Or.inr (by assumption))]at k;exact⟨Or.inr rfl,⟨trivial,trivial⟩,_,_,rfl,.refl _,k⟩)
  |(rw[Fw (by assumption) (by assumption) ⟨by omega,by assumption⟩]at k;exact⟨Or.inr rfl,⟨trivial,trivial⟩,_,_,rfl,.refl _,k⟩)
  |(rw[mb (by assumption) (by assumption) (fun q=>by first|exact q.2 (by assumption)|(have:=q.1;omega)),Jk (by assumption)]at k;exact⟨Or.inr rfl,⟨trivial,trivial⟩,_,_,rfl,.refl _,k⟩)
  |(rw[mb (by assumption) (by assumption) (fun q=>by first|exact q.2 (by assumption)|(have:=q.1;omega)),tE (by assumption) rfl (by assumption)]at k;exact⟨Or.inr rfl,⟨trivial,trivial⟩,_,_,rfl,.refl _,k⟩)
  |(rw[mb (by assumption) (by assumption) (fun q=>by first|exact q.2 (by assumption)|(have:=q.1;omega)),AW (by assumption) (by assumption) ⟨by assumption,by omega⟩]at k;exact⟨Or.inr rfl,⟨trivial,trivial⟩,_,_,rfl,.refl _,k⟩))
 all_goals(rw[mb (by assumption) (by assumption) (fun q=>by first|exact q.2 (by assumption)|(have:=q.1;omega)),AX (by assumption) (by assumption) (fun q=>by first|(have:=q.2;omega)|exact absurd q.1 (by simp[*]))]at k)
 all_goals have h6:(el l i).sig.params.length<=6:=PJ (by assumption)
 all_goals generalize el l i=x at*
 all_goals refine aD (fun j:Nat=>[(5,.ptr 5 _ 0),(7,.int .i64 j)]) (fun _=>[(5,some _,.cells (gG x))]) (fun j=>j<=x.c8.length/\ ∀i,i<j->nB x i=0) (fun j=>x.c8.length-j) 0 ⟨Nat.zero_le _,fun i hi=>absurd hi (by omega)⟩ (.cons rfl (.refl _) (.cons rfl (.refl _) (.nil))) (.cons rfl (.refl _) (.nil)) ?_
 all_goals rintro j ⟨hj,hb⟩
 all_goals repeat'(first|refine aj ?_|(refine mc (j-1) ?_)|refine pg ?_|refine af ?_|(refine aG ?_ ?_<;>intro hc<;>try contradiction)|refine ad ?_|refine ah ?_|(refine ak ?_;intro hl)|(refine ai ?_;intro b)|(refine aw ?_ ?_<;>intro hc<;>try first|contradiction|omega)|refine aA ?_|refine au ?_|refine ay ?_|refine aX ?_|refine pd ?_|refine fy.mk rfl ?_|refine aI ?_|(refine ix (aR (Du h6 (fun hc=>?_) fun hc=>?_)))|(refine lq ?_)|refine pc ?_|refine pt ?_|refine pb ?_)
 all_goals try(first
  |(rw[aW (by omega) hb (AY (by assumption)) (by decide)]at k;exact⟨Or.inr rfl,⟨trivial,trivial⟩,_,_,rfl,.refl _,k⟩)
  |(rw[aW (by omega) hb (AZ (by assumption) ⟨by omega,fun q=>by unfold yS at q;omega⟩) (by decide)]at k;exact⟨Or.inr rfl,⟨trivial,trivial⟩,_,_,rfl,.refl _,k⟩)
  |(rw[bL fun i hi=>hb i (by omega)]at k;exact⟨Or.inr rfl,⟨trivial,trivial⟩,_,_,rfl,.refl _,k⟩))
 all_goals try(refine⟨j+1,by dsimp only;omega,⟨by omega,fun i hi=>?_⟩,(.cons rfl (.refl _) (.cons rfl (.refl _) (.nil))),(.cons rfl (.refl _) (.nil))⟩;by_cases q:i=j;(subst q;exact Fx (by assumption) (fun q=>by first|exact q.2 (by unfold yS;omega)|(have:=q.1;omega)));(exact hb i (by omega)))
theorem A2 {l:ll}{K:PV->Prop}(k:K (.int .i64 (AS l))):PF Tryz.prog X0 Mx 19 [.agg (jv l)] K:=by
 have hnt:(26:Nat)<=1000000:=by decide
 refine bD A3 (bg _) (by simp) hnt ?_
 unfold AS at k
 repeat'(first|refine pg ?_|refine af ?_|refine ad ?_|(refine ak ?_;intro hl)|(refine ai ?_;intro b)|(refine aw ?_ ?_<;>intro hc<;>try first|contradiction|omega)|refine aA ?_|refine pc ?_|refine pt ?_|refine pb ?_)
 ·(repeat(first|rw[if_pos (by exact Ia)]at k|rw[if_neg (by exact Ib)]at k))
  exact⟨Or.inr rfl,⟨trivial,trivial⟩,_,_,rfl,.refl _,k⟩
 rotate_left
 ·(repeat(first|rw[if_pos (by exact Ia)]at k|rw[if_neg (by exact Ib)]at k))
  exact⟨Or.inr rfl,⟨trivial,trivial⟩,_,_,rfl,.refl _,k⟩
 (repeat(first|rw[if_pos (by exact Ia)]at k|rw[if_neg (by exact Ib)]at k))
 refine aD (fun j:Nat=>[(1,.ptr 1 _ 0),(3,.int .i64 j)]) (fun _=>[(1,some _,.cells (jv l))]) (fun j=>j<=l.bf.length/\ ∀i,i<j->wG l.bf i=0) (fun j=>l.bf.length-j) 0 ⟨Nat.zero_le _,fun i hi=>absurd hi (by omega)⟩ (.cons rfl (.refl _) (.cons rfl (.refl _) (.nil))) (.cons rfl (.refl _) (.nil)) ?_
 rintro j ⟨hj,hb⟩
 repeat'(first|refine pg ?_|refine af ?_|refine ad ?_|(refine ak ?_;intro hl)|(refine ai ?_;intro b)|(refine aw ?_ ?_<;>intro hc<;>try first|contradiction|omega)|refine aA ?_|(refine ae (aa (A0 ?_ ?_ ?_)))|omega|refine pc ?_|refine pt ?_|refine pb ?_)
 ·refine⟨j+1,by dsimp only;omega,⟨by omega,fun i hi=>?_⟩,(.cons rfl (.refl _) (.cons rfl (.refl _) (.nil))),(.cons rfl (.refl _) (.nil))⟩
  by_cases q:i=j
  ·subst q;assumption
  ·exact hb i (by omega)
 ·rw[aW (by omega) hb rfl (by assumption)]at k
  exact⟨Or.inr rfl,⟨trivial,trivial⟩,_,_,rfl,.refl _,k⟩
 ·rw[bL fun i hi=>hb i (by omega)]at k
  exact⟨Or.inr rfl,⟨trivial,trivial⟩,_,_,rfl,.refl _,k⟩
theorem qC {x:cU}{K:PV->Prop}(k:K (.int .i64 (uc x))):PF Tryz.prog X0 Mx 35 [.agg (gG x)] K:=by
 have hnt:(117:Nat)<=1000000:=by decide
 refine bD qD (bg _) (by simp) hnt ?_
 repeat'(first|refine pg ?_|refine af ?_|(refine aG ?_ ?_<;>intro hc<;>try contradiction)|refine ad ?_|refine ah ?_|(refine ak ?_;intro hl)|(refine ai ?_;intro b)|(refine aw ?_ ?_<;>intro hc<;>try first|contradiction|omega)|refine aj ?_|refine aA ?_|refine au ?_|refine ay ?_|refine pc ?_|refine pt ?_|refine pb ?_)
 ·rw[tE (by assumption) (ud (by omega)) (by decide)]at k
  exact⟨Or.inr rfl,⟨trivial,trivial⟩,_,_,rfl,.refl _,k⟩
 rotate_left
 ·rw[Jk (by assumption)]at k
  exact⟨Or.inr rfl,⟨trivial,trivial⟩,_,_,rfl,.refl _,k⟩
 have h6: ¬6<x.sig.params.length:=by omega
 have hnm:x.sig.name=x.gP:=by assumption
 refine aD (fun j:Nat=>[(1,.ptr 1 _ 0),(22,pL 1 pS x.sig.params),(23,.int .i64 (x.sig.params.length:Nat)),(24,.int .i64 j)]) (fun _=>[(1,some _,.cells (gG x))]) (fun j=>j<=x.sig.params.length/\ ∀i,i<j->Dl (el x.sig.params i)) (fun j=>x.sig.params.length-j) 0 ⟨Nat.zero_le _,fun i hi=>absurd hi (by omega)⟩ (.cons rfl (.refl _) (.cons rfl (.refl _) (.cons rfl (.refl _) (.cons rfl (.refl _) (.nil))))) (.cons rfl (.refl _) (.nil)) ?_
 rintro j ⟨hj,hb⟩
 repeat'(first|refine pg ?_|refine af ?_|(refine aG ?_ ?_<;>intro hc<;>try contradiction)|refine ad ?_|refine ah ?_|(refine ak ?_;intro hl)|(refine ai ?_;intro b)|refine aj ?_|refine aA ?_|refine au ?_|refine ay ?_|refine pc ?_|refine pt ?_|refine pb ?_)
 refine aw ?_ ?_<;>intro hlt
 ·repeat'(first|refine pg ?_|refine af ?_|(refine aG ?_ ?_<;>intro hc<;>try contradiction)|refine ad ?_|refine ah ?_|(refine ak ?_;intro hl)|(refine ai ?_;intro b)|(refine aw ?_ ?_<;>intro hc<;>try first|contradiction|omega)|refine aj ?_|refine aA ?_|refine au ?_|refine ay ?_|(refine ae (aa (oP (fun hc=>?_) fun hc=>?_)))|refine pc ?_|refine pt ?_|refine pb ?_)
  ·refine⟨j+1,by dsimp only;omega,⟨by omega,fun i hi=>?_⟩,(.cons rfl (.refl _) (.cons rfl (.refl _) (.cons rfl (.refl _) (.cons rfl (.refl _) (.nil))))),(.cons rfl (.refl _) (.nil))⟩
   by_cases q:i=j
   ·subst q;exact hc
   ·exact hb i (by omega)
  ·rw[tE hnm (Ft h6 fun q=>hc (q j (by omega))) (by decide)]at k
   exact⟨Or.inr rfl,⟨trivial,trivial⟩,_,_,rfl,.refl _,k⟩
 have hp: ∀i,i<x.sig.params.length->Dl (el x.sig.params i):=fun i hi=>hb i (by omega)
 repeat'(first|refine pg ?_|refine af ?_|(refine aG ?_ ?_<;>intro hc<;>try contradiction)|refine ad ?_|refine ah ?_|(refine ak ?_;intro hl)|(refine ai ?_;intro b)|refine aj ?_|refine aA ?_|refine au ?_|refine ay ?_|refine pc ?_|refine pt ?_|refine pb ?_)
 refine tF 7 42 (x.sig.result≠[]/\ ¬Dl x.sig.result) (fun b hrs=>?_) (fun J=>?_)
 rotate_left
 ·repeat'(first|(refine J _ _ .su rfl ?_)|refine pg ?_|refine af ?_|(refine aG ?_ ?_<;>intro hc<;>try contradiction)|refine ad ?_|refine ah ?_|(refine ak ?_;intro hl)|(refine ai ?_;intro b)|(refine aw ?_ ?_<;>intro hc<;>try first|contradiction|omega)|refine aj ?_|refine aA ?_|refine au ?_|refine ay ?_|(refine ae (aa (oP (fun hc=>?_) fun hc=>?_)))|refine pc ?_|refine pt ?_|refine pb ?_)
  all_goals(simp;first|assumption|(intro q;contradiction)|exact⟨by assumption,by assumption⟩|(intro _;assumption)|skip)
 cases b
 rotate_left
 ·repeat'(first|refine pg ?_|refine af ?_|(refine aG ?_ ?_<;>intro hc<;>try contradiction)|refine ad ?_|refine ah ?_|(refine ak ?_;intro hl)|(refine ai ?_;intro b)|(refine aw ?_ ?_<;>intro hc<;>try first|contradiction|omega)|refine aj ?_|refine aA ?_|refine au ?_|refine ay ?_|refine pc ?_|refine pt ?_|refine pb ?_)
  rw[tE hnm (AU h6 hp (hrs.1 rfl)) (by decide)]at k
  exact⟨Or.inr rfl,⟨trivial,trivial⟩,_,_,rfl,.refl _,k⟩
 have hs0:ib x.sig=0:=Fu h6 hp fun q=>by cases hrs.2 q
 repeat'(first|refine pg ?_|refine af ?_|(refine aG ?_ ?_<;>intro hc<;>try contradiction)|refine ad ?_|refine ah ?_|(refine ak ?_;intro hl)|(refine ai ?_;intro b)|(refine aw ?_ ?_<;>intro hc<;>try first|contradiction|omega)|refine aj ?_|refine aA ?_|refine au ?_|refine ay ?_|refine pc ?_|refine pt ?_|refine pb ?_)
 all_goals try(rw[AW hnm hs0 ⟨by assumption,by omega⟩]at k;exact⟨Or.inr rfl,⟨trivial,trivial⟩,_,_,rfl,.refl _,k⟩)
 all_goals rw[AX hnm hs0 (fun q=>by first|(have:=q.2;omega)|exact absurd q.1 (by simp[*]))]at k
 all_goals refine aD (fun j:Nat=>[(1,.ptr 1 _ 0),(5,.int .i64 _),(63,pL 2 qw x.c8),(64,.int .i64 (x.c8.length:Nat)),(65,.int .i64 j)]) (fun _=>[(1,some _,.cells (gG x))]) (fun j=>j<=x.c8.length/\ ∀i,i<j->nB x i=0) (fun j=>x.c8.length-j) 0 ⟨Nat.zero_le _,fun i hi=>absurd hi (by omega)⟩ (.cons rfl (.refl _) (.cons rfl (.refl _) (.cons rfl (.refl _) (.cons rfl (.refl _) (.cons rfl (.refl _) (.nil)))))) (.cons rfl (.refl _) (.nil)) ?_
 all_goals rintro j ⟨hj,hb⟩
 all_goals repeat'(first|refine aj ?_|(refine mc (j-1) ?_)|refine pg ?_|refine af ?_|(refine aG ?_ ?_<;>intro hc<;>try contradiction)|refine ad ?_|refine ah ?_|(refine ak ?_;intro hl)|(refine ai ?_;intro b)|(refine aw ?_ ?_<;>intro hc<;>try first|contradiction|omega)|refine aA ?_|refine au ?_|refine ay ?_|refine aX ?_|refine pd ?_|refine fy.mk rfl ?_|refine aI ?_|refine ix (aR (iD ?_))|(refine lq ?_)|refine pc ?_|refine pt ?_|refine pb ?_)
 all_goals try(first
  |(rw[aW (by omega) hb (AY (by(unfold fx sa;(first|rw[if_pos (by assumption)]|rw[if_neg (Sm (by assumption))]);(first|exact Or.inl (by omega)|exact Or.inr (Or.inl (by omega))|exact Or.inr (Or.inr (Or.inl ⟨by omega,by omega⟩))|exact Or.inr (Or.inr (Or.inr ⟨by omega,by omega,by assumption⟩)))))) (by decide)]at k;exact⟨Or.inr rfl,⟨trivial,trivial⟩,_,_,rfl,.refl _,k⟩)
  |(rw[aW (by omega) hb (AZ (by(unfold fx sa;(first|rw[if_pos (by assumption)]|rw[if_neg (Sm (by assumption))]);rintro(q|q|q|q)<;>first|omega|exact absurd q.2.2 (by assumption))) ⟨by omega,fun q=>by have:=ub.2 q;omega⟩) (by decide)]at k;exact⟨Or.inr rfl,⟨trivial,trivial⟩,_,_,rfl,.refl _,k⟩)
  |(rw[bL fun i hi=>hb i (by omega)]at k;exact⟨Or.inr rfl,⟨trivial,trivial⟩,_,_,rfl,.refl _,k⟩))
 all_goals try(refine⟨j+1,by dsimp only;omega,⟨by omega,fun i hi=>?_⟩,(.cons rfl (.refl _) (.cons rfl (.refl _) (.cons rfl (.refl _) (.cons rfl (.refl _) (.cons rfl (.refl _) (.nil)))))),(.cons rfl (.refl _) (.nil))⟩;by_cases q:i=j;(subst q;exact Fx (by(unfold fx sa;(first|rw[if_pos (by assumption)]|rw[if_neg (Sm (by assumption))]);rintro(q|q|q|q)<;>first|omega|exact absurd q.2.2 (by assumption))) (fun q=>by first|exact q.2 (ub.1 (by omega))|(have:=q.1;omega)));(exact hb i (by omega)))
theorem A4 {l:ll}{K:PV->Prop}(k:K (.int .i64 (AS l))):PF Tryz.prog X0 Mx 11 [.agg (jv l)] K:=by
 have hnt:(54:Nat)<=1000000:=by decide
 refine bD A5 (bg _) (by simp) hnt ?_
 unfold AS at k
 repeat'(first|refine pg ?_|refine af ?_|refine ad ?_|(refine ak ?_;intro hl)|(refine ai ?_;intro b)|(refine aw ?_ ?_<;>intro hc<;>try first|contradiction|omega)|refine aj ?_|refine aA ?_|refine au ?_|refine ay ?_|refine pc ?_|refine pt ?_|refine pb ?_)
 ·(repeat(first|rw[if_pos (by exact Ia)]at k|rw[if_neg (by exact Ib)]at k))
  exact⟨Or.inr rfl,⟨trivial,trivial⟩,_,_,rfl,.refl _,k⟩
 rotate_left
 ·(repeat(first|rw[if_pos (by exact Ia)]at k|rw[if_neg (by exact Ib)]at k))
  exact⟨Or.inr rfl,⟨trivial,trivial⟩,_,_,rfl,.refl _,k⟩
 (repeat(first|rw[if_pos (by exact Ia)]at k|rw[if_neg (by exact Ib)]at k))
 refine aD (fun j:Nat=>[(1,.ptr 1 _ 0),(14,pL 8 gG l.bf),(15,.int .i64 (l.bf.length:Nat)),(16,.int .i64 j)]) (fun _=>[(1,some _,.cells (jv l))]) (fun j=>j<=l.bf.length/\ ∀i,i<j->wG l.bf i=0) (fun j=>l.bf.length-j) 0 ⟨Nat.zero_le _,fun i hi=>absurd hi (by omega)⟩ (.cons rfl (.refl _) (.cons rfl (.refl _) (.cons rfl (.refl _) (.cons rfl (.refl _) (.nil))))) (.cons rfl (.refl _) (.nil)) ?_
 rintro j ⟨hj,hb⟩
 repeat'(first|refine aj ?_|(refine mc (j-1) ?_)|refine pg ?_|refine af ?_|refine ad ?_|(refine ak ?_;intro hl)|(refine ai ?_;intro b)|(refine aw ?_ ?_<;>intro hc<;>try first|contradiction|omega)|refine aA ?_|refine au ?_|refine ay ?_|refine aX ?_|refine pd ?_|refine fy.mk rfl ?_|refine aI ?_|(refine ae (aa (dG (fun hc=>?_) fun hc=>?_)))|refine ix (aR (jh ?_))|refine ae (aa (qC ?_))|(refine lq ?_)|(refine bz (us:=[.str (el l.bf j).cls,.str (el l.bf j).gP]) (hu:=⟨show 0+0+2<=8 by decide,rfl⟩) ?_)|(refine iF (us:=[.str (el l.bf _).cls,.str (el l.bf _).gP]) (hu:=⟨show 0+0+2<=8 by decide,rfl⟩) ?_)|refine pc ?_|refine pt ?_|refine pb ?_)
 all_goals try(first
  |(rw[aW (by omega) hb (Jl (by first|exact Or.inl (by assumption)|exact Or.inr (by assumption))) (by decide)]at k;exact⟨Or.inr rfl,⟨trivial,trivial⟩,_,_,rfl,.refl _,k⟩)
  |(rw[aW (by omega) hb (Fw (by assumption) (by assumption) ⟨by omega,fun q=>by have:=qB.2 q;omega⟩) (by decide)]at k;exact⟨Or.inr rfl,⟨trivial,trivial⟩,_,_,rfl,.refl _,k⟩)
  |(rw[aW (by omega) hb (mb (by assumption) (by assumption) (fun q=>by first|exact q.2 (qB.1 (by omega))|(have:=q.1;omega))) (by assumption)]at k;exact⟨Or.inr rfl,⟨trivial,trivial⟩,_,_,rfl,.refl _,k⟩)
  |(rw[bL fun i hi=>hb i (by omega)]at k;exact⟨Or.inr rfl,⟨trivial,trivial⟩,_,_,rfl,.refl _,k⟩))
 all_goals try(refine⟨j+1,by dsimp only;omega,⟨by omega,fun i hi=>?_⟩,(.cons rfl (.refl _) (.cons rfl (.refl _) (.cons rfl (.refl _) (.cons rfl (.refl _) (.nil))))),(.cons rfl (.refl _) (.nil))⟩;by_cases q:i=j;(subst q;(rw[mb (by assumption) (by assumption) (fun q=>by first|exact q.2 (qB.1 (by omega))|(have:=q.1;omega))];assumption));(exact hb i (by omega)))
end Go.Proofs.YtemehfgkfidgjaaGreatDoor.Ev
