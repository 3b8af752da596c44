/- CoverStates, part 26 -/
import Derived.Test.YtemehfgkfidgjaaGreatDoorCwJ
set_option linter.all false
set_option maxHeartbeats 4000000
namespace Go.Proofs.YtemehfgkfidgjaaGreatDoor.Ev
open Go
open Classical
noncomputable def jC (u:aF)(f:bU)(x:bF):Nat->List Int
 |0=>[]
 |k+1=>jC u f x k++if mQ (el f.code k)=x.a/\(el f.code k).op=6 then[qE u (el f.code k).cls x.name]else[]
noncomputable def A8 (u:aF)(f:bU)(x:bF):List Int:=if x.op=10 then[dR u.fns x.cls x.name]else if x.op=9 then jC u f x f.code.length else[]
noncomputable def ui (u:aF)(f:bU)(x:bF):List Int:=Lib.compact (fW (A8 u f x))
theorem A9 {u:aF}{f:bU}{x:bF}: ∀{k:Nat},(jC u f x k).length<=k
 |0=>Nat.le_refl _
 |k+1=>by
  unfold jC
  have:=A9 (u:=u) (f:=f) (x:=x) (k:=k)
  split<;>simp<;>omega
theorem dd (l:List Int):(fW l).length=l.length:=by unfold fW;exact List.length_mergeSort l
theorem yU {l:List Int}(h:l=[]):Lib.compact (fW l)=[]:=by
 subst h
 have:=uj (fW [])
 rw[dd]at this
 exact List.eq_nil_of_length_eq_zero (by simpa using this)
theorem yV: ∀(av:List AV) (c:C) (h:H),Mx 71 av c h=gT 71 71 av c h:=fun av c h=>by
 unfold Mx
 cases e:gT 71 71 av c h with
 |some r=>exact Jp e
 |none=>rw[xJ e];exact xK (by rfl) av c h
theorem qI: ∀(av:List AV) (c:C) (h:H),Mx 72 av c h=gU 72 72 av c h:=fun av c h=>xJ (xL (by rfl) av c h)
theorem G8 {P:Program}{X:cj}{M:Mf}{S:aJ}{sf:Nat}{K:PV->aJ->Prop}(hM: ∀av c h,M sf av c h=gT sf sf av c h)(k:K (.bn []) S):sc P X M sf [.aE] S K:=fun c h F av st r=>by
 cases r with
 |cons _ _ _ _ r1 r=>
 cases r;cases r1
 have b1:Nat.beq sf sf=true:=by simp
 exact jD (by rw[hM];unfold gT;rw[b1];rfl) ⟨_,S,F,Ext.refl _ _ _,st,.bn _ _ .nil,k⟩
theorem G9 {P:Program}{X:cj}{M:Mf}{S:aJ}{sf:Nat}{K:PV->aJ->Prop}(hM: ∀av c h,M sf av c h=gU sf sf av c h)(k:K .aE S):sc P X M sf [.aE] S K:=fun c h F av st r=>by
 cases r with
 |cons _ _ _ _ r1 r=>
 cases r;cases r1
 have b1:Nat.beq sf sf=true:=by simp
 exact jD (by rw[hM];unfold gU;rw[b1];rfl) ⟨_,S,F,Ext.refl _ _ _,st,.aE,k⟩
theorem nE {u:aF}{w1 w2 w3:PV}{f:bU}{x:bF}{K:PV->Prop}(cg:u.cl.length<=64)(AK: ∀c m d t,bE u.cl c m=some (d,t)->t.params.length*16<=140737488355328)(hcl:f.code.length<=1000000)(k:K (pL 1 pI (ui u f x))):PF Tryz.prog X0 Mx 147 [.fp (Dw u w1 w2 w3) 0,.agg (eN f),.agg (dh x)] K:=by
 have hnt:(59:Nat)<=1000000:=by decide
 refine bD wJ (bg _) (by simp) hnt ?_
 unfold ui A8 at k
 repeat'(first|refine pg ?_|refine af ?_|refine ad ?_|(refine ak ?_;intro hl)|(refine ai ?_;intro b)|(refine aw ?_ ?_<;>intro hc<;>try first|contradiction|omega)|refine aj ?_|refine aA ?_|refine au ?_|refine ay ?_|refine pc ?_|refine pt ?_|refine pb ?_)
 ·rw[if_pos (by assumption)]at k
  refine DA (G':=[(0,.fp (Dw u w1 w2 w3) 0),(4,.ptr 4 _ 0),(5,.ptr 5 _ 0),(7,oL 53 none 1 ([]:List Int))]) (S':=[(4,some _,.cells (eN f)),(5,some _,.cells (dh x)),(53,none,aL 1 pI ([]:List Int))]) (.cons rfl (.refl _) (.cons rfl (.refl _) (.cons rfl (.refl _) (.cons rfl (.kR 53 1) .nil)))) (.cons rfl (.refl _) (.cons rfl (.refl _) (.kR .nil))) ?_
  have hl0:([]:List Int).length=0:=rfl
  repeat'(first|refine pg ?_|refine af ?_|refine ad ?_|(refine ak ?_;intro hl)|(refine ai ?_;intro b)|(refine aw ?_ ?_<;>intro hc<;>try first|contradiction|omega)|refine aj ?_|refine aA ?_|refine au ?_|refine ay ?_|refine aX ?_|refine pd ?_|refine fy.mk rfl ?_|refine aI ?_|refine iF (us:=bK u) ?_ rfl ⟨by show 0+3<=6;decide,rfl⟩|refine ix (aR (me ?_))|(refine bb ?_;intro b2)|(refine bV (f:=pI) _ ?_;intro oid2)|refine AL ?_|refine pc ?_|refine pt ?_|refine pb ?_)
  have hn:([dR u.fns x.cls x.name]:List Int).length<4611686018427387904:=by simp
  repeat'(first|refine pg ?_|refine af ?_|refine ad ?_|(refine ak ?_;intro hl)|(refine ai ?_;intro b)|(refine aw ?_ ?_<;>intro hc<;>try first|contradiction|omega)|refine aj ?_|refine aA ?_|refine au ?_|refine ay ?_|(refine ae (qJ (p:=53) (aT:=oid2) (l:=[dR u.fns x.cls x.name]) yV hn (fun q=>by cases q) (fun hn0=>?_) (fun hn1=>?_)))|(refine ae (jE (p:=53) (aT:=oid2) (l:=[dR u.fns x.cls x.name]) qI hn (fun q=>by cases q) (fun hn2=>?_) (fun hn2=>absurd hn0 hn2)))|(refine ae (vs:=[oL 53 oid2 1 (fW [dR u.fns x.cls x.name])]) (jE (p:=53) (aT:=oid2) (l:=fW [dR u.fns x.cls x.name]) qI (by rw[dd];exact hn) (fun q=>absurd (List.eq_nil_of_length_eq_zero (by rw[<-dd,q];rfl)) hn1) (fun q=>absurd (List.eq_nil_of_length_eq_zero (by rw[<-dd,q];rfl)) hn1) (fun _=>?_)) rfl (show some [PV.own 53 oid2 ([dR u.fns x.cls x.name]).length 1]=some [PV.own 53 oid2 (fW [dR u.fns x.cls x.name]).length 1]by rw[dd]))|refine pc ?_|refine pt ?_|refine pb ?_)
  all_goals first
   |(rw[yU hn0]at k;exact⟨Or.inr rfl,⟨trivial,trivial⟩,_,_,rfl,(.aE _ _),k⟩)
   |exact⟨Or.inr rfl,⟨trivial,trivial⟩,_,_,rfl,cE,k⟩
 ·rw[if_neg (by assumption),if_pos (by assumption)]at k
  repeat'(first|refine pg ?_|refine af ?_|refine ad ?_|(refine ak ?_;intro hl)|(refine ai ?_;intro b)|(refine aw ?_ ?_<;>intro hc<;>try first|contradiction|omega)|refine aj ?_|refine aA ?_|refine au ?_|refine ay ?_|refine pc ?_|refine pt ?_|refine pb ?_)
  refine aD (ι:=Nat×Option Nat) (fun q=>[(0,.fp (Dw u w1 w2 w3) 0),(4,.ptr 4 _ 0),(5,.ptr 5 _ 0),(7,oL 53 q.2 1 (jC u f x q.1)),(29,pL 10 dh f.code),(30,.int .i64 (f.code.length:Nat)),(31,.int .i64 q.1)]) (fun q=>[(4,some _,.cells (eN f)),(5,some _,.cells (dh x)),(53,q.2,aL 1 pI (jC u f x q.1))]) (fun q=>q.1<=f.code.length/\(jC u f x q.1=[]->q.2=none)) (fun q=>f.code.length-q.1) (0,none) ⟨Nat.zero_le _,fun _=>rfl⟩ (.cons rfl (.refl _) (.cons rfl (.refl _) (.cons rfl (.refl _) (.cons rfl (.kR 53 1) (.cons rfl (.refl _) (.cons rfl (.refl _) (.cons rfl (.refl _) .nil))))))) (.cons rfl (.refl _) (.cons rfl (.refl _) (.kR .nil))) ?_
  rintro⟨j,aT⟩ ⟨hj,hz⟩
  dsimp only at hj hz⊢
  have hlj:=A9 (u:=u) (f:=f) (x:=x) (k:=j)
  have hsu:jC u f x (j+1)=jC u f x j++if mQ (el f.code j)=x.a/\(el f.code j).op=6 then[qE u (el f.code j).cls x.name]else[]:=rfl
  have hn:(jC u f x j).length<4611686018427387904:=by omega
  repeat'(first|refine pg ?_|refine af ?_|refine ad ?_|(refine ak ?_;intro hl)|(refine ai ?_;intro b)|(refine aw ?_ ?_<;>intro hc<;>try first|contradiction|omega)|refine aj ?_|refine aA ?_|refine au ?_|refine ay ?_|refine aX ?_|refine pd ?_|refine fy.mk rfl ?_|refine aI ?_|refine ix (aR (uh ?_))|refine ae (aa (lr cg (AK _ _) ?_))|(refine bb ?_;intro b2)|(refine bV (f:=pI) _ ?_;intro oid2)|refine AL ?_|refine pc ?_|refine pt ?_|refine pb ?_)
  all_goals first
   |(rw[if_pos ⟨by assumption,by assumption⟩]at hsu;rw[<-hsu];exact⟨(j+1,oid2),by dsimp only;omega,⟨by dsimp only;omega,fun q=>by dsimp only at q;rw[hsu]at q;simp at q⟩,(.cons rfl (.refl _) (.cons rfl (.refl _) (.cons rfl (.refl _) (.cons rfl (.refl _) (.cons rfl (.refl _) (.cons rfl (.refl _) (.cons rfl (.refl _) .nil))))))),(.cons rfl (.refl _) (.cons rfl (.refl _) (.cons rfl (.refl _) (.nil))))⟩)
   |(rw[if_neg (fun q=>by first|exact absurd q.1 (by assumption)|exact absurd q.2 (by assumption)),List.append_nil]at hsu;rw[<-hsu]at hz;rw[<-hsu];exact⟨(j+1,aT),by dsimp only;omega,⟨by dsimp only;omega,hz⟩,(.cons rfl (.refl _) (.cons rfl (.refl _) (.cons rfl (.refl _) (.cons rfl (.refl _) (.cons rfl (.refl _) (.cons rfl (.refl _) (.cons rfl (.refl _) .nil))))))),(.cons rfl (.refl _) (.cons rfl (.refl _) (.cons rfl (.refl _) (.nil))))⟩)
   |skip
  all_goals rw[<-show j=f.code.length by omega]at k
  repeat'(first|refine pg ?_|refine af ?_|refine ad ?_|(refine ak ?_;intro hl)|(refine ai ?_;intro b)|(refine aw ?_ ?_<;>intro hc<;>try first|contradiction|omega)|refine aj ?_|refine aA ?_|refine au ?_|refine ay ?_|(refine ae (qJ (p:=53) (aT:=aT) (l:=(jC u f x j)) yV hn hz (fun hn0=>?_) (fun hn1=>?_)))|(refine ae (jE (p:=53) (aT:=aT) (l:=(jC u f x j)) qI hn hz (fun hn2=>?_) (fun hn2=>absurd hn0 hn2)))|(refine ae (vs:=[oL 53 aT 1 (fW (jC u f x j))]) (jE (p:=53) (aT:=aT) (l:=fW (jC u f x j)) qI (by rw[dd];exact hn) (fun q=>absurd (List.eq_nil_of_length_eq_zero (by rw[<-dd,q];rfl)) hn1) (fun q=>absurd (List.eq_nil_of_length_eq_zero (by rw[<-dd,q];rfl)) hn1) (fun _=>?_)) rfl (show some [PV.own 53 aT ((jC u f x j)).length 1]=some [PV.own 53 aT (fW (jC u f x j)).length 1]by rw[dd]))|refine pc ?_|refine pt ?_|refine pb ?_)
  all_goals first
   |(rw[yU hn0]at k;exact⟨Or.inr rfl,⟨trivial,trivial⟩,_,_,rfl,(.aE _ _),k⟩)
   |exact⟨Or.inr rfl,⟨trivial,trivial⟩,_,_,rfl,cE,k⟩
 ·rw[if_neg (by assumption),if_neg (by assumption)]at k
  rw[yU rfl]at k
  repeat'(first|refine pg ?_|refine af ?_|refine ad ?_|(refine ak ?_;intro hl)|(refine ai ?_;intro b)|(refine aw ?_ ?_<;>intro hc<;>try first|contradiction|omega)|refine aj ?_|refine aA ?_|refine au ?_|refine ay ?_|refine ae (G8 yV ?_)|refine ae (G9 qI ?_)|refine pc ?_|refine pt ?_|refine pb ?_)
  all_goals exact⟨Or.inr rfl,⟨trivial,trivial⟩,_,_,rfl,(.aE _ _),k⟩
def Ur (lf:List Nat->Option PV)(cf:Int->Option PV)(u:aF)(f:bU)(x:bF):Prop:=x.op=7\/x.op=8\/(x.op=9/\(x.a<f.params\/ ¬Jn lf u f x))\/ ∃j,j<(ui u f x).length/\ ¬cf (el (ui u f x) j)=some (.bool true)
def Ha (lf:List Nat->Option PV)(cf:Int->Option PV)(u:aF)(i:Nat):Prop:= ∃m,m<(el u.fns i).code.length/\Ur lf cf u (el u.fns i) (el (el u.fns i).code m)
theorem yW {u:aF}{lf:List Nat->Option PV}{cf ff:Int->Option PV}{K:PV->Prop}{g:Int}(hcf: ∀g v,cf g=some v-> ∃b,v= .bool b)(kt: ¬cf g=some (.bool true)->K (.bool true))(kf:cf g=some (.bool true)->K (.bool false)):PF Tryz.prog X0 Mx 148 [.int .i64 g,.fp [.fp (eU u lf cf ff) 0] 0] K:=by
 have hnt:(11:Nat)<=1000000:=by decide
 refine bD yX (bg _) (by simp) hnt ?_
 repeat'(first|refine pg ?_|refine af ?_|refine ah ?_|(refine mf (fun v hv=>?_) (fun hv=>?_);(obtain⟨b,rfl⟩:=hcf _ _ hv;rcases b with _|_))|refine pc ?_|refine pt ?_)
 all_goals first
  |exact⟨Or.inr rfl,⟨trivial,trivial⟩,_,_,rfl,.refl _,kf hv⟩
  |exact⟨Or.inr rfl,⟨trivial,trivial⟩,_,_,rfl,.refl _,kt (fun q=>by rw[hv]at q;cases q)⟩
theorem kl {sf:Nat}{caps:List PV}{p:Int->Prop}{K:PV->Prop}{l:List Int}(hp: ∀g,g∈l-> ∀K:PV->Prop,(p g->K (.bool true))->(¬p g->K (.bool false))->PF Tryz.prog X0 Mx sf (.int .i64 g::caps) K)(kt: ∀j:Nat,j<l.length->p (el l j)->K (.int .i64 j))(kf:(∀j,j<l.length-> ¬p (el l j))->K (.int .i64 (-1))):PF Tryz.prog X0 Mx 214 [pL 1 pI l,.fn sf caps] K:=by
 have hnt:(19:Nat)<=1000000:=by decide
 refine bD km (bg _) (by simp) hnt ?_
 repeat'(first|refine pg ?_|refine af ?_|refine ah ?_|(refine ak ?_;intro hl)|(refine aw ?_ ?_<;>intro hc<;>try first|contradiction|omega)|refine aj ?_|refine aA ?_|refine pc ?_|refine pt ?_|refine pb ?_)
 refine aD (fun j:Nat=>[(0,pL 1 pI l),(1,.fn sf caps),(7,.int .i64 (l.length:Nat)),(8,.int .i64 j)]) (fun _=>[]) (fun j=>j<=l.length/\ ∀i,i<j-> ¬p (el l i)) (fun j=>l.length-j) 0 ⟨Nat.zero_le _,fun i hi=>absurd hi (by omega)⟩ (.cons rfl (.refl _) (.cons rfl (.refl _) (.cons rfl (.refl _) (.cons rfl (.refl _) (.nil))))) (.nil) ?_
 rintro j ⟨hj,hb⟩
 repeat'(first|refine pg ?_|refine af ?_|refine ah ?_|(refine ak ?_;intro hl)|(refine aw ?_ ?_<;>intro hc<;>try first|contradiction|omega)|refine aj ?_|refine aA ?_|(refine ae (aa (hp (el l j) (ba (show j<l.length by omega)) _ (fun hc=>?_) fun hc=>?_)))|refine pc ?_|refine pt ?_|refine pb ?_)
 ·exact⟨Or.inr rfl,⟨trivial,trivial⟩,_,_,rfl,.refl _,kt j (by omega) hc⟩
 ·refine⟨j+1,by dsimp only;omega,⟨by omega,fun i hi=>?_⟩,(.cons rfl (.refl _) (.cons rfl (.refl _) (.cons rfl (.refl _) (.cons rfl (.refl _) (.nil))))),(.nil)⟩
  by_cases q:i=j
  ·subst q;exact hc
  ·exact hb i (by omega)
 ·exact⟨Or.inr rfl,⟨trivial,trivial⟩,_,_,rfl,.refl _,kf (fun i hi=>hb i (by omega))⟩
theorem eA {sf:Nat}{caps:List PV}{p:Int->Prop}{K:PV->Prop}{l:List Int}(hp: ∀g,g∈l-> ∀K:PV->Prop,(p g->K (.bool true))->(¬p g->K (.bool false))->PF Tryz.prog X0 Mx sf (.int .i64 g::caps) K)(kt: ∀j:Nat,j<l.length->p (el l j)->K (.bool true))(kf:(∀j,j<l.length-> ¬p (el l j))->K (.bool false)):PF Tryz.prog X0 Mx 146 [pL 1 pI l,.fn sf caps] K:=by
 have hnt:(9:Nat)<=1000000:=by decide
 refine bD jc (bg _) (by simp) hnt ?_
 repeat'(first|refine pg ?_|refine af ?_|(refine aw ?_ ?_<;>intro hc<;>try first|contradiction|omega)|(refine ae (aa (kl hp (fun j h1 h2=>?_) fun hn=>?_)))|refine pc ?_|refine pt ?_)
 all_goals first
  |exact⟨Or.inr rfl,⟨trivial,trivial⟩,_,_,rfl,.refl _,kt j h1 h2⟩
  |exact⟨Or.inr rfl,⟨trivial,trivial⟩,_,_,rfl,.refl _,kf hn⟩
theorem DB {u:aF}{lf:List Nat->Option PV}{cf ff:Int->Option PV}{K:PV->Prop}{n:Nat}(hi:n<u.fns.length)(cg:u.cl.length<=64)(AK: ∀c m d t,bE u.cl c m=some (d,t)->t.params.length*16<=140737488355328)(hlf: ∀c v,lf c=some v-> ∃b,v= .bool b)(hcf: ∀g v,cf g=some v-> ∃b,v= .bool b)(hcl: ∀i,i<u.fns.length->(el u.fns i).code.length<=1000000)(kt:Ha lf cf u n->K (.bool true))(kf: ¬Ha lf cf u n->K (.bool false)):PF Tryz.prog X0 Mx 97 [.fp (eU u lf cf ff) 0,.int .i64 (n:Nat)] K:=by
 have hnt:(49:Nat)<=1000000:=by decide
 refine bD DC (bg _) (by simp) hnt ?_
 repeat'(first|refine pg ?_|refine af ?_|refine ad ?_|refine ah ?_|(refine ak ?_;intro hl)|(refine ai ?_;intro b)|(refine aw ?_ ?_<;>intro hc<;>try first|contradiction|omega)|refine aj ?_|refine aA ?_|refine au ?_|refine ay ?_|refine aI ?_|refine pc ?_|refine pt ?_|refine pb ?_)
 refine aD (fun j:Nat=>[(2,.ptr 2 _ 0),(5,.ptr 5 _ 0),(17,pL 10 dh (el u.fns n).code),(18,.int .i64 ((el u.fns n).code.length:Nat)),(19,.int .i64 j)]) (fun _=>[(2,some _,.cells [.fp (eU u lf cf ff) 0]),(5,some _,.cells (eN (el u.fns n)))]) (fun j=>j<=(el u.fns n).code.length/\ ∀i,i<j-> ¬Ur lf cf u (el u.fns n) (el (el u.fns n).code i)) (fun j=>(el u.fns n).code.length-j) 0 ⟨Nat.zero_le _,fun i hi=>absurd hi (by omega)⟩ (.cons rfl (.refl _) (.cons rfl (.refl _) (.cons rfl (.refl _) (.cons rfl (.refl _) (.cons rfl (.refl _) (.nil)))))) (.cons rfl (.refl _) (.cons rfl (.refl _) (.nil))) ?_
 rintro j ⟨hj,hb⟩
 repeat'(first|refine pg ?_|refine af ?_|refine ad ?_|refine ah ?_|(refine ak ?_;intro hl)|(refine ai ?_;intro b)|(refine aw ?_ ?_<;>intro hc<;>try first|contradiction|omega)|refine aj ?_|refine aA ?_|refine au ?_|refine ay ?_|refine aI ?_|(refine ae (aa (qF cg AK hlf (fun hc=>?_) fun hc=>?_)))|refine ae (aa (nE cg AK (hcl n hi) ?_))|(refine dJ (eA (sf:= 148) (caps:=[.fp [.fp (eU u lf cf ff) 0] 0]) (p:=fun g=> ¬cf g=some (.bool true)) (fun g _ K a b=>yW hcf a (fun h=>b (fun q=>q h))) (fun j2 h1 h2=>⟨rfl,?_⟩) fun hn=>⟨rfl,?_⟩) rfl rfl rfl (.cons _ _ _ _ (.refl _) (.cons _ _ _ _ (.fn _ _ _ (.cons _ _ _ _ (.ptr _ _ _ _ _ rfl (.refl _)) .nil)) .nil)))|refine pc ?_|refine pt ?_|refine pb ?_)
 all_goals first
  |exact⟨Or.inr rfl,⟨trivial,trivial⟩,_,_,rfl,.refl _,kt ⟨j,by omega,Or.inl (by assumption)⟩⟩
  |exact⟨Or.inr rfl,⟨trivial,trivial⟩,_,_,rfl,.refl _,kt ⟨j,by omega,Or.inr (Or.inl (by assumption))⟩⟩
  |exact⟨Or.inr rfl,⟨trivial,trivial⟩,_,_,rfl,.refl _,kt ⟨j,by omega,Or.inr (Or.inr (Or.inl ⟨by assumption,Or.inl (by assumption)⟩))⟩⟩
  |exact⟨Or.inr rfl,⟨trivial,trivial⟩,_,_,rfl,.refl _,kt ⟨j,by omega,Or.inr (Or.inr (Or.inl ⟨by assumption,Or.inr (by assumption)⟩))⟩⟩
  |exact⟨Or.inr rfl,⟨trivial,trivial⟩,_,_,rfl,.refl _,kt ⟨j,by omega,Or.inr (Or.inr (Or.inr ⟨j2,h1,h2⟩))⟩⟩
  |(refine⟨j+1,by dsimp only;omega,⟨by omega,fun i hi=>?_⟩,(.cons rfl (.refl _) (.cons rfl (.refl _) (.cons rfl (.refl _) (.cons rfl (.refl _) (.cons rfl (.refl _) (.nil)))))),(.cons rfl (.refl _) (.cons rfl (.refl _) (.nil)))⟩;by_cases q:i=j;(subst q;exact fun q=>by rcases q with q|q|⟨q1,q2|q2⟩|⟨j2,q1,q2⟩<;>first|contradiction|omega|exact hn j2 q1 q2);(exact hb i (by omega)))
  |exact⟨Or.inr rfl,⟨trivial,trivial⟩,_,_,rfl,.refl _,kf (fun⟨m,h1,h2⟩=>absurd h2 (hb m (by omega)))⟩
noncomputable def dU (f:bU)(v:Int):Nat->List (List Nat)
 |0=>[]
 |k+1=>dU f v k++if mQ (el f.code k)=v then[(el f.code k).cls]else[]
def xM (f:bU)(v:Int):Prop:= ∀i,i<f.code.length->mQ (el f.code i)=v->(el f.code i).op=6
theorem qK {f:bU}{v:Int}: ∀{k:Nat},(dU f v k).length<=k
 |0=>Nat.le_refl _
 |k+1=>by
  unfold dU
  have:=qK (f:=f) (v:=v) (k:=k)
  split<;>simp<;>omega
theorem xN {l:List (List Nat)}{s:List Nat}{K:PV->Prop}(kt:(∃i,i<l.length/\el l i=s)->K (.bool true))(kf:(∀i,i<l.length-> ¬el l i=s)->K (.bool false)):PF Tryz.prog X0 Mx 55 [pL 1 pS l,.str s] K:=by
 have hnt:(18:Nat)<=1000000:=by decide
 refine bD Hb (bg _) (by simp) hnt ?_
 repeat'(first|refine pg ?_|refine af ?_|refine ah ?_|(refine ak ?_;intro hl)|(refine aw ?_ ?_<;>intro hc<;>try first|contradiction|omega)|refine aj ?_|refine aA ?_|refine pc ?_|refine pt ?_|refine pb ?_)
 refine aD (fun j:Nat=>[(0,pL 1 pS l),(1,.str s),(5,.int .i64 j)]) (fun _=>[]) (fun j=>j<=l.length/\ ∀i,i<j-> ¬el l i=s) (fun j=>l.length-j) 0 ⟨Nat.zero_le _,fun i hi=>absurd hi (by omega)⟩ (.cons rfl (.refl _) (.cons rfl (.refl _) (.cons rfl (.refl _) (.nil)))) (.nil) ?_
 rintro j ⟨hj,hb⟩
 repeat'(first|refine pg ?_|refine af ?_|refine ah ?_|(refine ak ?_;intro hl)|(refine aw ?_ ?_<;>intro hc<;>try first|contradiction|omega)|refine aj ?_|refine aA ?_|refine pc ?_|refine pt ?_|refine pb ?_)
 all_goals first
  |exact⟨Or.inr rfl,⟨trivial,trivial⟩,_,_,rfl,.refl _,kt ⟨j,by omega,by assumption⟩⟩
  |(refine⟨j+1,by dsimp only;omega,⟨by omega,fun i hi=>?_⟩,(.cons rfl (.refl _) (.cons rfl (.refl _) (.cons rfl (.refl _) (.nil)))),(.nil)⟩;by_cases q:i=j;(subst q;assumption);(exact hb i (by omega)))
  |exact⟨Or.inr rfl,⟨trivial,trivial⟩,_,_,rfl,.refl _,kf (fun i hi=>hb i (by omega))⟩
theorem uk {f:bU}{v:Int}{K:PV->Prop}(hcl:f.code.length<=1000000)(kt:xM f v->K (.bn [pL 1 pS (dU f v f.code.length),.bool true]))(kf: ¬xM f v->K (.bn [pL 1 pS [],.bool false])):PF Tryz.prog X0 Mx 169 [.agg (eN f),.int .i64 v] K:=by
 have hnt:(40:Nat)<=1000000:=by decide
 refine bD DE (bg _) (by simp) hnt ?_
 repeat'(first|refine pg ?_|refine af ?_|refine ad ?_|refine ah ?_|(refine ak ?_;intro hl)|(refine ai ?_;intro b)|(refine aw ?_ ?_<;>intro hc<;>try first|contradiction|omega)|refine aj ?_|refine aA ?_|refine ay ?_|refine pc ?_|refine pt ?_|refine pb ?_)
 refine aD (ι:=Nat×Option Nat) (fun q=>[(1,.int .i64 v),(2,.ptr 2 _ 0),(6,oL 38 q.2 1 (dU f v q.1)),(7,.int .i64 q.1)]) (fun q=>[(2,some _,.cells (eN f)),(38,q.2,aL 1 pS (dU f v q.1))]) (fun q=>q.1<=f.code.length/\ ∀i,i<q.1->mQ (el f.code i)=v->(el f.code i).op=6) (fun q=>f.code.length-q.1) (0,none) ⟨Nat.zero_le _,fun i hi=>absurd hi (by dsimp only;omega)⟩ (.cons rfl (.refl _) (.cons rfl (.refl _) (.cons rfl (.kR 38 1) (.cons rfl (.refl _) .nil)))) (.cons rfl (.refl _) (.kR .nil)) ?_
 rintro⟨j,aT⟩ ⟨hj,hb⟩
 dsimp only at hj hb⊢
 have hlj:=qK (f:=f) (v:=v) (k:=j)
 have hsu:dU f v (j+1)=dU f v j++if mQ (el f.code j)=v then[(el f.code j).cls]else[]:=rfl
 repeat'(first|refine pg ?_|refine af ?_|refine ad ?_|refine ah ?_|(refine ak ?_;intro hl)|(refine ai ?_;intro b)|(refine aw ?_ ?_<;>intro hc<;>try first|contradiction|omega)|refine aj ?_|refine aA ?_|refine ay ?_|refine ae (aa (G6 ?_))|(refine bb ?_;intro b2)|(refine bV (f:=pS) _ ?_;intro oid2)|refine pc ?_|refine pt ?_|refine pb ?_)
 all_goals first
  |(rw[if_pos (by assumption)]at hsu;rw[<-hsu];exact⟨(j+1,oid2),by dsimp only;omega,⟨by dsimp only;omega,fun i hi q=>by by_cases e:i=j;(subst e;assumption);(exact hb i (by dsimp only at hi;omega) q)⟩,(.cons rfl (.refl _) (.cons rfl (.refl _) (.cons rfl (.refl _) (.cons rfl (.refl _) .nil)))),(.cons rfl (.refl _) (.cons rfl (.refl _) (.nil)))⟩)
  |(rw[if_neg (by assumption),List.append_nil]at hsu;rw[<-hsu];exact⟨(j+1,aT),by dsimp only;omega,⟨by dsimp only;omega,fun i hi q=>by by_cases e:i=j;(subst e;contradiction);(exact hb i (by dsimp only at hi;omega) q)⟩,(.cons rfl (.refl _) (.cons rfl (.refl _) (.cons rfl (.refl _) (.cons rfl (.refl _) .nil)))),(.cons rfl (.refl _) (.cons rfl (.refl _) (.nil)))⟩)
  |exact⟨Or.inr rfl,⟨trivial,⟨trivial,trivial⟩⟩,_,_,rfl,.bn _ _ (.cons _ _ _ _ (.aE _ _) (.cons _ _ _ _ (.refl _) .nil)),(kf (fun q=>absurd (q j (by omega) (by assumption)) (by assumption)))⟩
  |(rw[<-show j=f.code.length by omega]at kt;exact⟨Or.inr rfl,⟨trivial,⟨trivial,trivial⟩⟩,_,_,rfl,.bn _ _ (.cons _ _ _ _ cE (.cons _ _ _ _ (.refl _) .nil)),(kt (fun i hi=>hb i (by omega)))⟩)
def mR:List Int->Int->List Int
 |[],a=>[a]
 |x::l,a=>if x<a then x::mR l a else if x=a then x::l else a::x::l
theorem xO {a:Int}: ∀{l:List Int} {k:Nat},k<l.length->(∀i,i<k->el l i<a)->el l k=a->mR l a=l
 |[],k,h,_,_=>absurd h (Nat.not_lt_zero _)
 |x::l,0,_,_,h2=>by
  have e:x=a:=h2
  rw[mR,if_neg (by omega),if_pos e]
 |x::l,k+1,h,h0,h2=>by
  rw[mR,if_pos (show x<a from h0 0 (by omega)),xO (k:=k) (by simp at h;omega) (fun i hi=>h0 (i+1) (by omega)) h2]
theorem um {a:Int}: ∀{l:List Int} {k:Nat},k<=l.length->(∀i,i<k->el l i<a)->(k<l.length-> ¬el l k<a/\ ¬el l k=a)->mR l a=l.take k++[a]++l.drop k
 |[],k,h,_,_=>by
  have:k=0:=by simpa using h
  subst this;rfl
 |x::l,0,_,_,h1=>by
  obtain⟨q1,q2⟩:=h1 (by simp)
  rw[mR,if_neg (show ¬x<a from q1),if_neg (show ¬x=a from q2)];rfl
 |x::l,k+1,h,h0,h1=>by
  rw[mR,if_pos (show x<a from h0 0 (by omega)),um (k:=k) (by simp at h;omega) (fun i hi=>h0 (i+1) (by omega)) fun q=>h1 (by simp;omega)]
  rfl
def pN:List Int->PV
 |[]=> .aE
 |x::l=>pL 1 pI (x::l)
theorem O3 {l:List Int}(h:0<l.length):pN l=pL 1 pI l:=by
 cases l with
 |nil=>exact absurd h (Nat.lt_irrefl _)
 |cons x l=>rfl
theorem Hc {l:List Int}{a:Int}{K:PV->Prop}(hl0:l.length<=1000000)(k:K (pL 1 pI (mR l a))):PF Tryz.prog X0 Mx 243 [pN l,.int .i64 a] K:=by
 have hnt:(45:Nat)<=1000000:=by decide
 refine bD Hd (bg _) (by simp) hnt ?_
 rcases Nat.eq_zero_or_pos l.length with hz|hz
 ·obtain rfl:l=[]:=List.eq_nil_of_length_eq_zero hz
  rw[show pN []= .aE from rfl]
  repeat'(first|refine pg ?_|refine af ?_|refine ah ?_|(refine ak ?_;intro hl)|(refine aw ?_ ?_<;>intro hc<;>try first|contradiction|omega)|refine aj ?_|refine aA ?_|refine pc ?_|refine pt ?_|refine pb ?_)
  refine aD (fun j:Nat=>[(0,.aE),(1,.int .i64 a),(5,.int .i64 j)]) (fun _=>[]) (fun j=>j=0) (fun j=>0) 0 rfl (.cons rfl (.refl _) (.cons rfl (.refl _) (.cons rfl (.refl _) (.nil)))) (.nil) ?_
  rintro j rfl
  repeat'(first|refine pg ?_|(refine Fy ?_;intro b33)|refine af ?_|refine ah ?_|(refine ak ?_;intro hl)|(refine aw ?_ ?_<;>intro hc<;>try first|contradiction|omega)|refine aj ?_|refine aA ?_|refine aX ?_|refine pd ?_|refine fy.mk rfl ?_|(refine He ?_)|(refine jF (r2:=fun _=>[]) (k:=0+1) (m:=0) (p:=33) ?_ rfl rfl (.own _ _ _ _ _ rfl (Nat.le_refl _)) (.aE _) (fun i hi=>rfl) (by decide) (by decide);intro o3 ho3)|(refine jF (k:=0) (m:=1) (p:=33) ?_ rfl rfl (.own _ _ _ _ _ rfl (Nat.le_refl _)) (.own _ _ _ _ _ rfl (Nat.le_refl _)) (fun i hi=>by obtain rfl:i=0:=(by omega);rfl) (by decide) (by decide);intro o2 ho2)|(refine Vy (n:=0) (r2:=fun _=>[]) (m:=0) (fun o1 ho1=>?_) rfl rfl rfl (.aE _) (fun i hi=>rfl) (by decide) (by decide))|(refine bb ?_;intro bs)|refine AL ?_|refine pc ?_|refine pt ?_|refine pb ?_)
  exact⟨Or.inr rfl,⟨trivial,trivial⟩,_,_,rfl,.own _ _ _ _ _ _ _ rfl (Nat.le_refl _) (fun i hi=>dH.of_eq (by obtain rfl:i=0:=(by omega);rfl)),k⟩
 rw[O3 hz]
 repeat'(first|refine pg ?_|refine af ?_|refine ah ?_|(refine ak ?_;intro hl)|(refine aw ?_ ?_<;>intro hc<;>try first|contradiction|omega)|refine aj ?_|refine aA ?_|refine pc ?_|refine pt ?_|refine pb ?_)
 refine aD (fun j:Nat=>[(0,pL 1 pI l),(1,.int .i64 a),(5,.int .i64 j)]) (fun _=>[]) (fun j=>j<=l.length/\ ∀i,i<j->el l i<a) (fun j=>l.length-j) 0 ⟨Nat.zero_le _,fun i hi=>absurd hi (by omega)⟩ (.cons rfl (.refl _) (.cons rfl (.refl _) (.cons rfl (.refl _) (.nil)))) (.nil) ?_
 rintro j ⟨hj,hb⟩
 have ht1:(l.take j).length<=l.length:=by rw[List.length_take];omega
 have ht2:(l.take j++[a]).length<=l.length+1:=by rw[List.length_append,List.length_take,List.length_singleton];omega
 have ht3:(l.drop j).length<=l.length:=by rw[List.length_drop];omega
 repeat'(first|refine pg ?_|(refine Fy ?_;intro b33)|refine af ?_|refine ah ?_|(refine ak ?_;intro hl)|(refine aw ?_ ?_<;>intro hc<;>try first|contradiction|omega)|refine aj ?_|refine aA ?_|refine aX ?_|refine pd ?_|refine fy.mk rfl ?_|(refine uo j ?_)|(refine DF j ?_)|(refine Vy (n:=0) (r2:=fun i=>pI (el (l.take j) i)) (m:=(l.take j).length) (fun o1 ho1=>?_) rfl rfl rfl (.tr _ _) (fun i hi=>rfl) (by omega) (by decide))|(refine bV (f:=pI) a ?_;intro o2)|(refine yY (f:=pI) (m:=l.drop j) ?_;intro o3)|(refine bb ?_;intro bs)|refine AL ?_|refine pc ?_|refine pt ?_|refine pb ?_)
 all_goals first
  |(rw[xO (k:=j) (by omega) hb (by assumption)]at k;exact⟨Or.inr rfl,⟨trivial,trivial⟩,_,_,rfl,.refl _,k⟩)
  |(refine⟨j+1,by dsimp only;omega,⟨by omega,fun i hi=>?_⟩,(.cons rfl (.refl _) (.cons rfl (.refl _) (.cons rfl (.refl _) (.nil)))),(.nil)⟩;by_cases q:i=j;(subst q;assumption);(exact hb i (by omega)))
  |(rw[um (k:=j) (by omega) hb (fun q=>⟨by omega,by assumption⟩)]at k;exact⟨Or.inr rfl,⟨trivial,trivial⟩,_,_,rfl,cE,k⟩)
  |(rw[um (k:=j) (by omega) hb (fun q=>by omega)]at k;exact⟨Or.inr rfl,⟨trivial,trivial⟩,_,_,rfl,cE,k⟩)
def lu (d:Nat->Int):Nat->List Int
 |0=>[]
 |k+1=>mR (lu d k) (d k)
theorem Bb {a:Int}: ∀{l:List Int},(mR l a).length<=l.length+1
 |[]=>Nat.le_refl _
 |x::l=>by
  unfold mR
  have:=Bb (a:=a) (l:=l)
  split
  ·simp;omega
  ·split<;>simp
theorem Jq {a:Int}: ∀{l:List Int},0<(mR l a).length
 |[]=>by show 0<1;decide
 |x::l=>by
  unfold mR
  split
  ·simp
  ·split<;>simp
theorem xP {d:Nat->Int}: ∀{k:Nat},(lu d k).length<=k
 |0=>Nat.le_refl _
 |k+1=>by
  unfold lu
  have h1:=xP (d:=d) (k:=k)
  have h2:=Bb (a:=d k) (l:=lu d k)
  omega
theorem Sn {S:aJ}{l:List Int}:Zf S (pN l) (pL 1 pI l):=by
 cases l with
 |nil=>exact .aE _ _
 |cons x l=>exact .refl _
noncomputable def Hf (u:aF)(f:bU)(x:bF)(i:Nat):Int:=qE u (el (dU f x.a f.code.length) i) x.name
noncomputable def gV (u:aF)(f:bU)(x:bF):List Int:=if x.op=10 then[dR u.fns x.cls x.name]else if xM f x.a then lu (Hf u f x) (dU f x.a f.code.length).length else[]
theorem nF {u:aF}{f:bU}{x:bF}{K:PV->Prop}(cg:u.cl.length<=64)(hcl:f.code.length<=1000000)(k:K (pL 1 pI (gV u f x))):PF Tryz.prog X0 Mx 170 [.agg (bK u),.agg (eN f),.agg (dh x)] K:=by
 have hnt:(45:Nat)<=1000000:=by decide
 refine bD wK (bg _) (by simp) hnt ?_
 unfold gV at k
 repeat'(first|refine pg ?_|refine af ?_|refine ad ?_|refine ah ?_|(refine ak ?_;intro hl)|(refine ai ?_;intro b)|(refine aw ?_ ?_<;>intro hc<;>try first|contradiction|omega)|refine aj ?_|refine aA ?_|refine au ?_|(refine ae (aa (uk hcl (fun hm=>?_) fun hm=>?_)))|refine ae (aa (nQ ?_))|(refine bb ?_;intro b2)|refine pc ?_|refine pt ?_|refine pb ?_)
 ·rw[if_pos (by assumption)]at k
  exact⟨Or.inr rfl,⟨trivial,trivial⟩,_,_,rfl,.own _ _ _ _ _ _ _ rfl (Nat.le_refl _) (fun i hi=>dH.of_eq (by obtain rfl:i=0:=(by omega);rfl)),k⟩
 ·rw[if_neg (by assumption),if_pos (by assumption)]at k
  have hml:=qK (f:=f) (v:=x.a) (k:=f.code.length)
  refine aD (fun j:Nat=>[(3,.ptr 3 _ 0),(4,.ptr 4 _ 0),(5,.ptr 5 _ 0),(7,pN (lu (Hf u f x) j)),(8,pL 1 pS (dU f x.a f.code.length)),(10,.int .i64 j)]) (fun _=>[(3,some _,.cells (bK u)),(4,some _,.cells (eN f)),(5,some _,.cells (dh x))]) (fun j=>j<=(dU f x.a f.code.length).length) (fun j=>(dU f x.a f.code.length).length-j) 0 (Nat.zero_le _) (.cons rfl (.refl _) (.cons rfl (.refl _) (.cons rfl (.refl _) (.cons rfl (.refl _) (.cons rfl (.refl _) (.cons rfl (.refl _) (.nil))))))) (.cons rfl (.refl _) (.cons rfl (.refl _) (.cons rfl (.refl _) (.nil)))) ?_
  rintro j hj
  have hpl:=xP (d:=Hf u f x) (k:=j)
  repeat'(first|refine pg ?_|refine af ?_|refine ad ?_|refine ah ?_|(refine ak ?_;intro hl)|(refine ai ?_;intro b)|(refine aw ?_ ?_<;>intro hc<;>try first|contradiction|omega)|refine aj ?_|refine aA ?_|refine au ?_|refine aX ?_|refine pd ?_|refine fy.mk rfl ?_|refine ix (aR (ue cg ?_))|(refine ix (aR (Hc (l:=lu (Hf u f x) j) (by omega) ?_)))|refine pc ?_|refine pt ?_|refine pb ?_)
  ·exact⟨j+1,by dsimp only;omega,by dsimp only;omega,(.cons rfl (.refl _) (.cons rfl (.refl _) (.cons rfl (.refl _) (.cons rfl (Zf.eq (O3 (l:=lu (Hf u f x) (j+1)) Jq).symm) (.cons rfl (.refl _) (.cons rfl (.refl _) .nil)))))),(.cons rfl (.refl _) (.cons rfl (.refl _) (.cons rfl (.refl _) (.nil))))⟩
  ·rw[<-show j=(dU f x.a f.code.length).length by omega]at k
   exact⟨Or.inr rfl,⟨trivial,trivial⟩,_,_,rfl,Sn,k⟩
 ·rw[if_neg (by assumption),if_neg (by assumption)]at k
  refine aD (fun j:Nat=>[(7,.aE),(8,pL 1 pS []),(10,.int .i64 j)]) (fun _=>[]) (fun j=>j=0) (fun j=>0) 0 rfl (.cons rfl (.refl _) (.cons rfl (.refl _) (.cons rfl (.refl _) (.nil)))) .nil ?_
  rintro j rfl
  repeat'(first|refine pg ?_|refine af ?_|refine ad ?_|refine ah ?_|(refine ak ?_;intro hl)|(refine ai ?_;intro b)|(refine aw ?_ ?_<;>intro hc<;>try first|contradiction|omega)|refine aj ?_|refine aA ?_|refine au ?_|refine pc ?_|refine pt ?_|refine pb ?_)
  exact⟨Or.inr rfl,⟨trivial,trivial⟩,_,_,rfl,(.aE _ _),k⟩
end Go.Proofs.YtemehfgkfidgjaaGreatDoor.Ev
