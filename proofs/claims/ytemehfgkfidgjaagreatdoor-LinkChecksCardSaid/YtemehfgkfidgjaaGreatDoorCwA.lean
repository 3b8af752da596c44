/- CoverStates, part 24 -/
import Derived.Test.YtemehfgkfidgjaaGreatDoorCvQ
set_option linter.all false
set_option maxHeartbeats 4000000
namespace Go.Proofs.YtemehfgkfidgjaaGreatDoor.Ev
open Go
open Classical
theorem vj {cl:List aN}: ∀(n:Nat) (out:List (List Nat)) (s:List Nat),(bX cl n out s).1.length<=out.length+n
 |0,out,s=>Nat.le_refl _
 |n+1,out,s=>by
  rw[bX]
  by_cases h1:aO (bH cl) s<0
  ·rw[if_pos h1];show out.length<=_;omega
  rw[if_neg h1]
  by_cases h2:s∈out
  ·rw[if_pos h2];show out.length<=_;omega
  rw[if_neg h2]
  by_cases h3:gr cl s=[]
  ·rw[if_pos h3];show(out++[s]).length<=_;rw[List.length_append];show out.length+1<=_;omega
  ·rw[if_neg h3]
   have:=vj (cl:=cl) n (out++[s]) (gr cl s)
   rw[List.length_append]at this
   have e:[s].length=1:=rfl
   omega
theorem og {cl:List aN}{s:List Nat}(cg:cl.length<=64):(aB cl s).length<=65:=by
 have:=vj (cl:=cl) (cl.length+1) [] s
 have e:([]:List (List Nat)).length=0:=rfl
 unfold aB cw;omega
theorem vk {cl:List aN}{s:List Nat}(h:s∈bH cl):(el cl (idx cl s).toNat).name=s:=by
 have:=jI (aS.2 h)
 rw[<-n5 (by have:=this.1;rw[cn]at this;exact this)]
 exact this.2
theorem EB {cl:List aN}{s:List Nat}:cK (fun c:aN=>c.name=s) cl=aO (bH cl) s:=by
 rcases dx (bH cl) s with⟨h1,h2⟩|⟨j,h1,h2,h3,h4⟩
 ·rw[h1]
  exact gh fun i hi=>by rw[<-n5 hi];exact h2 i (by rw[cn];exact hi)
 ·rw[h1]
  rw[cn]at h2
  exact gg h2 (by rw[<-n5 h2];exact h3) fun i hi=>by rw[<-n5 (by omega)];exact h4 i hi
theorem zT {cl:List aN}{K:PV->Prop}(k: ∀i,K (.bn [.int .i64 i,.int .i64 (gb cl)])):PF Tryz.prog X0 Mx 89 [.agg (aY cl)] K:=by
 refine Pf zM fun hnt=>?_
 repeat'(first|refine Qa ?_|(refine Ba ?_ ?_<;>try exact Za)|intro hc)
 ·specialize k (-1);unfold gb at k;replace k:=Ik k;exact E1 k
 have cg:cl.length<=64:=by omega
 repeat'(first|refine Qa ?_|(refine Ba ?_ ?_<;>try exact Za)|refine ae (aa (fG ?_))|intro hc)
 refine aD (fun j:Nat=>[(4,.ptr 4 _ 0),(15,.int .i64 (cl.length:Nat)),(16,.int .i64 j)]) (fun _=>[(4,some _,.cells (jf cl))]) (fun j=>j<=cl.length/\ ∀a,a<j->lJ cl a=0) (fun j=>cl.length-j) 0 ⟨Nat.zero_le _,gY⟩ .su .su ?_
 rintro j ⟨hj,hb⟩
 repeat'(first|refine Qa ?_|(refine Ba ?_ ?_<;>try exact Za)|refine ae (aa (oe cg ?_ ?_))|omega|intro hc)
 ·refine⟨j+1,by dsimp only;omega,⟨om,fun a ha=>?_⟩,.su,.su⟩
  by_cases q:a=j
  ·subst q;assumption
  ·exact hb a om
 ·have e:=aW (n:=cl.length) om hb rfl am
  specialize k (j:Nat);unfold gb at k;rw[if_neg (by omega),e]at k;exact E1 k
 ·specialize k 0;unfold gb at k;rw[if_neg (by omega),bL fun x (hx:x<cl.length)=>hb x (by omega)]at k;exact E1 k
theorem xt {cl:List aN}{s:List Nat}{K:PV->Prop}(cg:cl.length<=64)(k:K (pL 1 pS (aB cl s))):PF Tryz.prog X0 Mx 69 [.agg (aY cl),.str s] K:=by
 refine Pf xm fun hnt=>?_
 repeat'(first|refine Qa ?_|(refine Ba ?_ ?_<;>try exact Za)|refine ae (aa (fG ?_))|refine ae (aa (iM cg ?_))|intro hc)
 have hsl:=og (s:=s) cg
 refine aD (ι:=Nat×Option Nat) (fun q=>[(5,.ptr 5 _ 0),(6,oL 27 q.2 1 ((aB cl s).take q.1)),(13,pL 1 pI ((aB cl s).map (idx cl))),(14,.int .i64 ((aB cl s).length:Nat)),(15,.int .i64 (q.1:Nat))]) (fun q=>[(5,some _,.cells (jf cl)),(27,q.2,aL 1 pS ((aB cl s).take q.1))]) (fun q=>q.1<=(aB cl s).length) (fun q=>(aB cl s).length-q.1) (0,none) (Nat.zero_le _) (.c (.cons rfl (.kR 27 1) (.c (.cons rfl (Zf.eq (by rw[List.length_map])) (.c .nil))))) (.c (.kR .nil)) ?_
 rintro⟨j,aT⟩ hj
 dsimp only at hj⊢
 by_cases hlt:j<(aB cl s).length
 ·have hm:=dZ (ba hlt)
  have h1:=aS.2 hm
  have h2:=(dC (l:=bH cl) (s:=el (aB cl s) j)).1
  rw[cn]at h2
  have hml:((aB cl s).map (idx cl)).length=(aB cl s).length:=List.length_map _
  have hme:el ((aB cl s).map (idx cl)) j=idx cl (el (aB cl s) j):=cW hlt
  have hbd:0<=el ((aB cl s).map (idx cl)) j/\el ((aB cl s).map (idx cl)) j<cl.length:=by rw[hme];exact⟨h1,h2⟩
  have hnm:(el cl (el ((aB cl s).map (idx cl)) j).toNat).name=el (aB cl s) j:=by rw[hme];exact vk hm
  repeat'(first|refine Qa ?_|(refine Ba ?_ ?_<;>try exact Za)|(refine bb ?_;intro b2)|(refine bV (el (aB cl s) j) ?_ rfl rfl rfl rfl (by show[PV.str _]=pS _;rw[hnm];rfl) (fun _=>rfl) (by rw[List.length_take];omega);intro od)|intro hc)
  have e:(aB cl s).take (j+1)=(aB cl s).take j++[el (aB cl s) j]:=by
   rw[List.take_succ_eq_append_getElem hlt]
   simp[el,hlt]
  exact⟨(j+1,od),by dsimp only;omega,by dsimp only;omega,(.c (.cons rfl (by show Cv _ (oL 27 od 1 ((aB cl s).take (j+1)));rw[e];exact .refl _) (.c (.c (.c .nil))))),(.c (.cons rfl (by show wB _ (aL 1 pS ((aB cl s).take (j+1)));rw[e];exact .refl _) .nil))⟩
 ·have e:(aB cl s).take j=aB cl s:=List.take_of_length_le om
  rw[e]
  repeat'(first|refine Qa ?_|(refine Ba ?_ ?_<;>try exact Za)|intro hc)
  exact⟨Or.inr rfl,⟨trivial,trivial⟩,_,_,rfl,cE,k⟩
theorem zU {cl:List aN}{s t:List Nat}{K:PV->Prop}(cg:cl.length<=64)(kt:t∈aB cl s->K (.bool true))(kf: ¬t∈aB cl s->K (.bool false)):PF Tryz.prog X0 Mx 207 [.agg (aY cl),.str s,.str t] K:=by
 refine Pf zL fun hnt=>?_
 repeat'(first|refine Qa ?_|refine ae (aa (xt cg ?_))|(refine ae (aa (dw (fun hin=>?_) fun hin=>?_)))|intro hc)
 ·exact E1 (kt hin)
 ·exact E1 (kf hin)
theorem xu {x:aN}{s:List Nat}{K:PV->Prop}(kt:x.name=s->K (.bool true))(kf: ¬x.name=s->K (.bool false)):PF Tryz.prog X0 Mx 40 [.agg (gS x),.fp [.str s] 0] K:=by
 refine Pf xn fun hnt=>?_
 repeat'(first|refine Qa ?_|(refine Ba ?_ ?_<;>try exact Za)|intro hc)
 ·exact E1 (kt hc)
 ·exact E1 (kf hc)
theorem lg {l:List aN}{s:List Nat}{K:PV->Prop}(k:K (.int .i64 (aO (bH l) s))):PF Tryz.prog X0 Mx 39 [pL 4 gS l,.fn 40 [.fp [.str s] 0]] K:=by
 refine Pf k8 fun hnt=>?_
 rw[<-EB]at k
 repeat'(first|refine Qa ?_|(refine Ba ?_ ?_<;>try exact Za)|intro hc)
 refine aD (fun j:Nat=>[(0,pL 4 gS l),(1,.fn 40 [.fp [.str s] 0]),(7,.int .i64 (l.length:Nat)),(8,.int .i64 j)]) (fun _=>[]) (fun j=>j<=l.length/\ ∀i,i<j-> ¬(el l i).name=s) (fun j=>l.length-j) 0 ⟨Nat.zero_le _,gY⟩ .su (.nil) ?_
 rintro j ⟨hj,hb⟩
 repeat'(first|refine Qa ?_|(refine Ba ?_ ?_<;>try exact Za)|(refine ae (aa (xu (fun hc=>?_) fun hc=>?_)))|intro hc)
 ·rw[gg (p:=fun x:aN=>x.name=s) (j:=j) (by omega) hc hb]at k
  exact E1 k
 ·refine⟨j+1,by dsimp only;omega,⟨om,fun i hi=>?_⟩,.su,(.nil)⟩
  by_cases q:i=j
  ·subst q;assumption
  ·exact hb i om
 ·rw[gh (p:=fun x:aN=>x.name=s) fun i hi=>hb i (by omega)]at k
  exact E1 k
theorem dm {cl:List aN}{s:List Nat}{K:PV->Prop}(k:K (.int .i64 (aO (bH cl) s))):PF Tryz.prog X0 Mx 13 [.agg (aY cl),.str s] K:=by
 refine Pf Cf fun hnt=>?_
 repeat'(first|refine Qa ?_|(refine dJ (lg ⟨rfl,?_⟩) rfl rfl rfl (.cons _ _ _ _ (.refl _) (.cons _ _ _ _ (.fn _ _ _ (.cons _ _ _ _ (.ptr _ _ _ _ _ rfl (.refl _)) .nil)) .nil)))|intro hc)
 exact E1 k
theorem lN {α:Type} [Inhabited α] (p:α->Prop)(l:List α):(cK p l= -1/\ ∀i,i<l.length-> ¬p (el l i))\/ ∃j:Nat,cK p l=(j:Int)/\j<l.length/\p (el l j)/\ ∀i,i<j-> ¬p (el l i):=by
 rcases dx (l.map fun x=>if p x then[1]else[]) [1]with⟨h1,h2⟩|⟨j,h1,h2,h3,h4⟩
 ·refine Or.inl ⟨h1,fun i hi q=>h2 i (by simpa using hi) ?_⟩
  rw[cW hi,if_pos q]
 ·have hj:j<l.length:=by simpa using h2
  refine Or.inr ⟨j,h1,hj,?_,fun i hi q=>h4 i hi ?_⟩
  ·rw[cW hj]at h3
   by_cases q:p (el l j)
   ·exact q
   ·rw[if_neg q]at h3;cases h3
  ·rw[cW (by omega),if_pos q]
theorem FU {cl:List aN}{l:List (List Nat)}:(l.map (idx cl)).length=l.length:=List.length_map _
theorem Kh {cl:List aN}{s:List Nat}{m:Nat}(hlt:m<(aB cl s).length):(0<=el ((aB cl s).map (idx cl)) m/\el ((aB cl s).map (idx cl)) m<cl.length)/\el cl (el ((aB cl s).map (idx cl)) m).toNat=bt cl (el (aB cl s) m)/\(bt cl (el (aB cl s) m)).name=el (aB cl s) m:=by
 have hm:=dZ (ba hlt)
 have h1:=aS.2 hm
 have h2:=(dC (l:=bH cl) (s:=el (aB cl s) m)).1
 rw[cn]at h2
 rw[cW hlt]
 exact⟨⟨h1,h2⟩,rfl,vk hm⟩
theorem zV {cl:List aN}{s nm:List Nat}{K:PV->Prop}(cg:cl.length<=64)(k1: ∀c f,fF cl s nm=some (c,f)->K (.bn [.str c,.str f.wZ,.bool true]))(k0:fF cl s nm=none->K (.bn [.str [],.str [],.bool false])):PF Tryz.prog X0 Mx 208 [.agg (aY cl),.str s,.str nm] K:=by
 refine Pf zR fun hnt=>?_
 repeat'(first|refine Qa ?_|(refine Ba ?_ ?_<;>try exact Za)|refine ae (aa (fG ?_))|refine ae (aa (iM cg ?_))|intro hc)
 refine aD (fun j:Nat=>[(9,.ptr 9 _ 0),(2,.str nm),(18,pL 1 pI ((aB cl s).map (idx cl))),(19,.int .i64 (((aB cl s).map (idx cl)).length:Nat)),(20,.int .i64 j)]) (fun _=>[(9,some _,.cells (jf cl))]) (fun j=>j<=(aB cl s).length/\ ∀a,a<j->sm (bt cl (el (aB cl s) a)) nm=none) (fun j=>(aB cl s).length-j) 0 ⟨Nat.zero_le _,gY⟩ .su .su ?_
 rintro j ⟨hj,hb⟩
 have hml:=FU (cl:=cl) (l:=aB cl s)
 have hsl:=og (s:=s) cg
 by_cases hlt:j<(aB cl s).length
 ·obtain⟨hbd,hcl,hnm⟩:=Kh (cl:=cl) hlt
  rcases lN (fun x:lF=>x.name=nm) (bt cl (el (aB cl s) j)).fields with⟨e1,q1⟩|⟨q,e1,q2,q3,q4⟩
  all_goals rw[<-hcl]at e1
  ·repeat'(first|refine Qa ?_|(refine Ba ?_ ?_<;>try exact Za)|refine ae (aa (ed ?_))|intro hc)
   refine⟨j+1,by dsimp only;omega,⟨om,fun a ha=>?_⟩,.su,.su⟩
   by_cases w:a=j
   ·subst w;exact lB fun i hi=>if_neg (q1 i hi)
   ·exact hb a om
  ·rw[<-hcl]at q2 q3 q4 hnm
   repeat'(first|refine Qa ?_|(refine Ba ?_ ?_<;>try exact Za)|refine ae (aa (ed ?_))|intro hc)
   have hF:fF cl s nm=some (el (aB cl s) j,el (bt cl (el (aB cl s) j)).fields q):=lA hlt (by rw[<-hcl];unfold sm;rw[lA q2 (if_pos q3) fun i hi=>if_neg (q4 i hi)];rfl) fun a ha=>by rw[hb a ha];rfl
   have k2:=k1 _ _ hF
   rw[<-hcl,<-hnm]at k2
   rw[e1]
   exact E1 k2
 ·repeat'(first|refine Qa ?_|(refine Ba ?_ ?_<;>try exact Za)|intro hc)
  have hF:fF cl s nm=none:=lB fun a ha=>by rw[hb a (by omega)];rfl
  have k2:=k0 hF
  exact E1 k2
def Sz (cl:List aN)(s nm:List Nat)(a b:Nat):Prop:=a<cl.length/\b<(el cl a).methods.length/\bE cl s nm=some ((el cl a).name,el (el cl a).methods b)
theorem nj {cl:List aN}{s nm:List Nat}{i:Int}{K:PV->Prop}(cg:cl.length<=64)(hi:idx cl s=i)(k1: ∀a b:Nat,Sz cl s nm a b->K (.bn [.int .i64 (a:Nat),.int .i64 (b:Nat)]))(k0:bE cl s nm=none->K (.bn [.int .i64 (-1),.int .i64 (-1)])):PF Tryz.prog X0 Mx 209 [.agg (jf cl),.int .i64 i,.str nm] K:=by
 refine Pf na fun hnt=>?_
 repeat'(first|refine Qa ?_|(refine Ba ?_ ?_<;>try exact Za)|refine ae (aa (iN cg hi ?_))|intro hc)
 refine aD (fun j:Nat=>[(3,.ptr 3 _ 0),(2,.str nm),(19,pL 1 pI ((aB cl s).map (idx cl))),(20,.int .i64 (((aB cl s).map (idx cl)).length:Nat)),(21,.int .i64 j)]) (fun _=>[(3,some _,.cells (jf cl))]) (fun j=>j<=(aB cl s).length/\ ∀a,a<j->fA (bt cl (el (aB cl s) a)) nm=none) (fun j=>(aB cl s).length-j) 0 ⟨Nat.zero_le _,gY⟩ .su .su ?_
 rintro j ⟨hj,hb⟩
 have hml:=FU (cl:=cl) (l:=aB cl s)
 have hsl:=og (s:=s) cg
 by_cases hlt:j<(aB cl s).length
 ·obtain⟨hbd,hcl,hnm⟩:=Kh (cl:=cl) hlt
  rcases lN (fun x:bZ=>x.name=nm) (bt cl (el (aB cl s) j)).methods with⟨e1,q1⟩|⟨q,e1,q2,q3,q4⟩
  all_goals rw[<-hcl]at e1
  ·repeat'(first|refine Qa ?_|(refine Ba ?_ ?_<;>try exact Za)|refine ae (aa (eO ?_))|intro hc)
   refine⟨j+1,by dsimp only;omega,⟨om,fun a ha=>?_⟩,.su,.su⟩
   by_cases w:a=j
   ·subst w;exact lB fun i hi=>if_neg (q1 i hi)
   ·exact hb a om
  ·rw[<-hcl]at q2 q3 q4 hnm
   repeat'(first|refine Qa ?_|(refine Ba ?_ ?_<;>try exact Za)|refine ae (aa (eO ?_))|intro hc)
   have hF:bE cl s nm=some (el (aB cl s) j,el (bt cl (el (aB cl s) j)).methods q):=lA hlt (by rw[<-hcl];unfold fA;rw[lA q2 (if_pos q3) fun i hi=>if_neg (q4 i hi)];rfl) fun a ha=>by rw[hb a ha];rfl
   rw[<-hcl,<-hnm]at hF
   have k2:=k1 (el ((aB cl s).map (idx cl)) j).toNat q ⟨om,q2,hF⟩
   rw[show(((el ((aB cl s).map (idx cl)) j).toNat:Nat):Int)=el ((aB cl s).map (idx cl)) j by omega]at k2
   rw[e1]
   exact E1 k2
 ·repeat'(first|refine Qa ?_|(refine Ba ?_ ?_<;>try exact Za)|intro hc)
  have hF:bE cl s nm=none:=lB fun a ha=>by rw[hb a (by omega)];rfl
  have k2:=k0 hF
  exact E1 k2
theorem tn {x:bF}{K:PV->Prop}(kt:DO x->K (.bool true))(kf: ¬DO x->K (.bool false)):PF Tryz.prog X0 Mx 93 [.agg (dh x)] K:=by
 refine Pf th fun hnt=>?_
 repeat'(first|refine pg ?_|refine af ?_|refine ad ?_|(refine ak ?_;intro hl)|(refine ai ?_;intro b)|(refine aw ?_ ?_<;>intro hc<;>try first|contradiction|omega)|refine pc ?_|refine pt ?_)
 refine cz 5 10 (hasB x.op 100=true\/x.dst=0) (fun b hb0=>?_) (fun J=>?_)
 rotate_left
 ·repeat'(first|(refine J _ _ .su rfl ?_)|refine pg ?_|refine af ?_|refine ad ?_|(refine ak ?_;intro hl)|(refine ai ?_;intro b)|(refine aw ?_ ?_<;>intro hc<;>try first|contradiction|omega)|(refine ae (aa (cq (f:=100) dc (fun hc=>?_) fun hc=>?_)))|refine pc ?_|refine pt ?_)
  all_goals(clear J;rw[<-dN (f:=100) (by simp)];first|(simp[*];done)|(simp_all;done)|(simp[*];omega))
 cases b
 ·repeat'(first|refine pg ?_|refine af ?_|refine ad ?_|(refine ak ?_;intro hl)|(refine ai ?_;intro b)|(refine aw ?_ ?_<;>intro hc<;>try first|contradiction|omega)|refine pc ?_|refine pt ?_)
  exact E1 (kf fun q=>by have q2:=hb0.2 q.1;cases q2)
 repeat'(first|refine pg ?_|refine af ?_|refine ad ?_|(refine ak ?_;intro hl)|(refine ai ?_;intro b)|(refine aw ?_ ?_<;>intro hc<;>try first|contradiction|omega)|refine pc ?_|refine pt ?_)
 refine cz 6 20 (hasB x.op 97=true\/x.a=0) (fun b hb1=>?_) (fun J=>?_)
 rotate_left
 ·repeat'(first|(refine J _ _ .su rfl ?_)|refine pg ?_|refine af ?_|refine ad ?_|(refine ak ?_;intro hl)|(refine ai ?_;intro b)|(refine aw ?_ ?_<;>intro hc<;>try first|contradiction|omega)|(refine ae (aa (cq (f:=97) dc (fun hc=>?_) fun hc=>?_)))|refine pc ?_|refine pt ?_)
  all_goals(clear J;rw[<-dN (f:=97) (by simp)];first|(simp[*];done)|(simp_all;done)|(simp[*];omega))
 cases b
 ·repeat'(first|refine pg ?_|refine af ?_|refine ad ?_|(refine ak ?_;intro hl)|(refine ai ?_;intro b)|(refine aw ?_ ?_<;>intro hc<;>try first|contradiction|omega)|refine pc ?_|refine pt ?_)
  exact E1 (kf fun q=>by have q2:=hb1.2 q.2.1;cases q2)
 repeat'(first|refine pg ?_|refine af ?_|refine ad ?_|(refine ak ?_;intro hl)|(refine ai ?_;intro b)|(refine aw ?_ ?_<;>intro hc<;>try first|contradiction|omega)|refine pc ?_|refine pt ?_)
 refine cz 6 30 (hasB x.op 98=true\/x.b=0) (fun b hb2=>?_) (fun J=>?_)
 rotate_left
 ·repeat'(first|(refine J _ _ .su rfl ?_)|refine pg ?_|refine af ?_|refine ad ?_|(refine ak ?_;intro hl)|(refine ai ?_;intro b)|(refine aw ?_ ?_<;>intro hc<;>try first|contradiction|omega)|(refine ae (aa (cq (f:=98) dc (fun hc=>?_) fun hc=>?_)))|refine pc ?_|refine pt ?_)
  all_goals(clear J;rw[<-dN (f:=98) (by simp)];first|(simp[*];done)|(simp_all;done)|(simp[*];omega))
 cases b
 ·repeat'(first|refine pg ?_|refine af ?_|refine ad ?_|(refine ak ?_;intro hl)|(refine ai ?_;intro b)|(refine aw ?_ ?_<;>intro hc<;>try first|contradiction|omega)|refine pc ?_|refine pt ?_)
  exact E1 (kf fun q=>by have q2:=hb2.2 q.2.2.1;cases q2)
 repeat'(first|refine pg ?_|refine af ?_|refine ad ?_|(refine ak ?_;intro hl)|(refine ai ?_;intro b)|(refine aw ?_ ?_<;>intro hc<;>try first|contradiction|omega)|refine pc ?_|refine pt ?_)
 refine cz 11 45 (hasB x.op 110=true\/x.n=0) (fun b hb3=>?_) (fun J=>?_)
 rotate_left
 ·repeat'(first|(refine J _ _ .su rfl ?_)|refine pg ?_|refine af ?_|refine ad ?_|(refine ak ?_;intro hl)|(refine ai ?_;intro b)|(refine aw ?_ ?_<;>intro hc<;>try first|contradiction|omega)|(refine ae (aa (cq (f:=110) dc (fun hc=>?_) fun hc=>?_)))|(refine ae (aa (cq (f:=111) dc (fun hc=>?_) fun hc=>?_)))|refine pc ?_|refine pt ?_)
  all_goals(clear J;rw[<-P6];first|(simp[*];done)|(simp_all;done)|(simp[*];omega))
 cases b
 ·repeat'(first|refine pg ?_|refine af ?_|refine ad ?_|(refine ak ?_;intro hl)|(refine ai ?_;intro b)|(refine aw ?_ ?_<;>intro hc<;>try first|contradiction|omega)|refine pc ?_|refine pt ?_)
  exact E1 (kf fun q=>by have q2:=hb3.2 q.2.2.2.1;cases q2)
 repeat'(first|refine pg ?_|refine af ?_|refine ad ?_|(refine ak ?_;intro hl)|(refine ai ?_;intro b)|(refine aw ?_ ?_<;>intro hc<;>try first|contradiction|omega)|refine pc ?_|refine pt ?_)
 refine cz 6 55 (hasB x.op 99=true\/x.cls=[]) (fun b hb4=>?_) (fun J=>?_)
 rotate_left
 ·repeat'(first|(refine J _ _ .su rfl ?_)|refine pg ?_|refine af ?_|refine ad ?_|(refine ak ?_;intro hl)|(refine ai ?_;intro b)|(refine aw ?_ ?_<;>intro hc<;>try first|contradiction|omega)|(refine ae (aa (cq (f:=99) dc (fun hc=>?_) fun hc=>?_)))|refine pc ?_|refine pt ?_)
  all_goals(clear J;rw[<-dN (f:=99) (by simp)];first|(simp[*];done)|(simp_all;done)|(simp[*];omega))
 cases b
 ·repeat'(first|refine pg ?_|refine af ?_|refine ad ?_|(refine ak ?_;intro hl)|(refine ai ?_;intro b)|(refine aw ?_ ?_<;>intro hc<;>try first|contradiction|omega)|refine pc ?_|refine pt ?_)
  exact E1 (kf fun q=>by have q2:=hb4.2 q.2.2.2.2.1;cases q2)
 repeat'(first|refine pg ?_|refine af ?_|refine ad ?_|(refine ak ?_;intro hl)|(refine ai ?_;intro b)|(refine aw ?_ ?_<;>intro hc<;>try first|contradiction|omega)|refine pc ?_|refine pt ?_)
 refine cz 6 65 (hasB x.op 109=true\/x.name=[]) (fun b hb5=>?_) (fun J=>?_)
 rotate_left
 ·repeat'(first|(refine J _ _ .su rfl ?_)|refine pg ?_|refine af ?_|refine ad ?_|(refine ak ?_;intro hl)|(refine ai ?_;intro b)|(refine aw ?_ ?_<;>intro hc<;>try first|contradiction|omega)|(refine ae (aa (cq (f:=109) dc (fun hc=>?_) fun hc=>?_)))|refine pc ?_|refine pt ?_)
  all_goals(clear J;rw[<-dN (f:=109) (by simp)];first|(simp[*];done)|(simp_all;done)|(simp[*];omega))
 cases b
 ·repeat'(first|refine pg ?_|refine af ?_|refine ad ?_|(refine ak ?_;intro hl)|(refine ai ?_;intro b)|(refine aw ?_ ?_<;>intro hc<;>try first|contradiction|omega)|refine pc ?_|refine pt ?_)
  exact E1 (kf fun q=>by have q2:=hb5.2 q.2.2.2.2.2.1;cases q2)
 repeat'(first|refine pg ?_|refine af ?_|refine ad ?_|(refine ak ?_;intro hl)|(refine ai ?_;intro b)|(refine aw ?_ ?_<;>intro hc<;>try first|contradiction|omega)|refine pc ?_|refine pt ?_)
 refine cz 7 76 (hasB x.op 108=true\/x.args.length=0) (fun b hb6=>?_) (fun J=>?_)
 rotate_left
 ·repeat'(first|(refine J _ _ .su rfl ?_)|refine pg ?_|refine af ?_|refine ad ?_|(refine ak ?_;intro hl)|(refine ai ?_;intro b)|(refine aw ?_ ?_<;>intro hc<;>try first|contradiction|omega)|(refine ae (aa (cq (f:=42) dc (fun hc=>?_) fun hc=>?_)))|refine pc ?_|refine pt ?_)
  all_goals(clear J;rw[<-J3];first|(simp[*];done)|(simp_all;done)|(simp[*];omega))
 cases b
 ·repeat'(first|refine pg ?_|refine af ?_|refine ad ?_|(refine ak ?_;intro hl)|(refine ai ?_;intro b)|(refine aw ?_ ?_<;>intro hc<;>try first|contradiction|omega)|refine pc ?_|refine pt ?_)
  exact E1 (kf fun q=>by have q2:=hb6.2 q.2.2.2.2.2.2.1;cases q2)
 repeat'(first|refine pg ?_|refine af ?_|refine ad ?_|(refine ak ?_;intro hl)|(refine ai ?_;intro b)|(refine aw ?_ ?_<;>intro hc<;>try first|contradiction|omega)|refine pc ?_|refine pt ?_)
 refine cz 6 86 (hasB x.op 103=true\/x.goto=0) (fun b hb7=>?_) (fun J=>?_)
 rotate_left
 ·repeat'(first|(refine J _ _ .su rfl ?_)|refine pg ?_|refine af ?_|refine ad ?_|(refine ak ?_;intro hl)|(refine ai ?_;intro b)|(refine aw ?_ ?_<;>intro hc<;>try first|contradiction|omega)|(refine ae (aa (cq (f:=103) dc (fun hc=>?_) fun hc=>?_)))|refine pc ?_|refine pt ?_)
  all_goals(clear J;rw[<-dN (f:=103) (by simp)];first|(simp[*];done)|(simp_all;done)|(simp[*];omega))
 cases b
 ·repeat'(first|refine pg ?_|refine af ?_|refine ad ?_|(refine ak ?_;intro hl)|(refine ai ?_;intro b)|(refine aw ?_ ?_<;>intro hc<;>try first|contradiction|omega)|refine pc ?_|refine pt ?_)
  exact E1 (kf fun q=>by have q2:=hb7.2 q.2.2.2.2.2.2.2;cases q2)
 repeat'(first|refine pg ?_|refine af ?_|refine ad ?_|(refine ak ?_;intro hl)|(refine ai ?_;intro b)|(refine aw ?_ ?_<;>intro hc<;>try first|contradiction|omega)|refine pc ?_|refine pt ?_)
 exact E1 (kt ⟨hb0.1 rfl,hb1.1 rfl,hb2.1 rfl,hb3.1 rfl,hb4.1 rfl,hb5.1 rfl,hb6.1 rfl,hb7.1 rfl⟩)
theorem pF {f:bU}{i:Int}{K:PV->Prop}(kt:uS f i->K (.bool true))(kf: ¬uS f i->K (.bool false)):PF Tryz.prog X0 Mx 135 [.agg (eN f),.int .i64 i] K:=by
 refine Pf zQ fun hnt=>?_
 repeat'(first|refine Qa ?_|(refine Ba ?_ ?_<;>try exact Za)|intro hc)
 all_goals first
  |exact E1 (kt ⟨am,am,am⟩)
  |exact E1 (kf fun q=>by first|exact absurd q.1 am|exact absurd q.2.1 am|exact absurd q.2.2 am)
theorem kq {b:Bool}{K:PV->Prop}(k:K (.int .i64 (if b=true then 0 else 8))):PF Tryz.prog X0 Mx 136 [.bool b] K:=by
 refine Pf Ew fun hnt=>?_
 cases b
 ·repeat'(first|refine Qa ?_|intro hc)
  exact E1 k
 ·repeat'(first|refine Qa ?_|intro hc)
  exact E1 k
def kr (cl:List aN)(f:bU):List PV:=aY cl++eN f
theorem gF {cl:List aN}{f:bU}{v:Int}{K:PV->Prop}(hv:0<=v/\v<f.vars.length)(k:K (.str (vt f v))):PF Tryz.prog X0 Mx 139 [.agg (kr cl f),.int .i64 v] K:=by
 refine Pf xp fun hnt=>?_
 repeat'(first|refine Qa ?_|intro hc)
 exact E1 k
theorem jX {cl:List aN}{f:bU}{v:Int}{K:PV->Prop}(hv:0<=v/\v<f.vars.length)(kt:vt f v=iq->K (.bool true))(kf: ¬vt f v=iq->K (.bool false)):PF Tryz.prog X0 Mx 137 [.agg (kr cl f),.int .i64 v] K:=by
 refine Pf rh fun hnt=>?_
 repeat'(first|refine Qa ?_|(refine Ba ?_ ?_<;>try exact Za)|refine ae (aa (gF hv ?_))|intro hc)
 ·exact E1 (kt hc)
 ·exact E1 (kf hc)
theorem eV {cl:List aN}{f:bU}{s:List Nat}{K:PV->Prop}(hi: ¬iq∈bH cl)(kt:s∈bH cl->K (.bool true))(kf: ¬s∈bH cl->K (.bool false)):PF Tryz.prog X0 Mx 141 [.agg (kr cl f),.str s] K:=by
 refine Pf nY fun hnt=>?_
 repeat'(first|refine Qa ?_|(refine Ba ?_ ?_<;>try exact Za)|refine bz (us:=aY cl) ?_ rfl rfl ⟨by show 1<=8;decide,rfl⟩|refine ae (aa (dm ?_))|intro hc)
 all_goals first
  |exact E1 (kt (aS.1 am))
  |exact E1 (kf (fun q=>(by assumption: ¬0<=aO _ _) (aS.2 q)))
  |exact E1 (kf (fun q=>hi (by rw[<-show s=iq by assumption];exact q)))
theorem gZ {cl:List aN}{f:bU}{s t:List Nat}{K:PV->Prop}(cg:cl.length<=64)(hi: ¬iq∈bH cl)(hn: ¬ph∈bH cl)(kt:pj cl s t->K (.bool true))(kf: ¬pj cl s t->K (.bool false)):PF Tryz.prog X0 Mx 138 [.agg (kr cl f),.str s,.str t] K:=by
 refine Pf tj fun hnt=>?_
 repeat'(first|refine Qa ?_|(refine Ba ?_ ?_<;>try exact Za)|refine bz (us:=aY cl) ?_ rfl rfl ⟨by show 1<=8;decide,rfl⟩|(refine ae (aa (eV hi (fun hc=>?_) fun hc=>?_)))|(refine ae (aa (zU cg (fun hc=>?_) fun hc=>?_)))|intro hc)
 all_goals first
  |exact(hn (by rw[<-show s=ph by assumption];assumption)).elim
  |exact E1 (kt (by first|exact Or.inl am|exact Or.inr (Or.inl ⟨am,am⟩)|exact Or.inr (Or.inr ⟨am,am,am,am⟩)))
  |exact E1 (kf (by rintro(q|⟨q1,q2⟩|⟨q1,q2,q3,q4⟩)<;>first|exact absurd q am|exact absurd q1 am|exact absurd q2 am|exact absurd q3 am|exact absurd q4 am|exact absurd am q1|exact absurd am q2))
theorem tp {f:bU}{i:Nat}{K:PV->Prop}(hn:f.code.length<=9223372036854775807)(hi:i<f.code.length)(hg:J5 f.code.length (el f.code i))(kt: ¬B2 f i->K (.bool true))(kf:B2 f i->K (.bool false)):PF Tryz.prog X0 Mx 95 [.agg (eN f),.int .i64 (i:Nat)] K:=by
 refine Pf ti fun hnt=>?_
 have hu:eE (el f.code i).op 103=hasB (el f.code i).op 103:=dN (by simp)
 repeat'(first|refine Qa ?_|(refine Ba ?_ ?_<;>try exact Za)|(refine ae (aa (pF (fun hc=>?_) fun hc=>?_)))|(refine ae (aa (cq (f:=103) dc (fun hc=>?_) fun hc=>?_)))|intro hc)
 all_goals first
  |exact E1 (kf (by first|exact Or.inl ⟨fun q=>(by unfold xZ at q;omega),Or.inl om⟩|exact Or.inl ⟨fun q=>(by unfold xZ at q;omega),Or.inr (by assumption:uS f (((i:Nat):Int)+1)).2.2⟩|exact Or.inr (Or.inl ⟨by rw[<-hu];assumption,(by assumption:uS f (el f.code i).goto).2.2⟩)|exact Or.inr (Or.inr ⟨om,am⟩)))
  |exact E1 (kt (by rintro(⟨q1,q2⟩|⟨q1,q2⟩|⟨q1,q2⟩)<;>first|exact q1 (by unfold xZ;omega)|exact q2.elim (fun w=>by omega) (fun w=>(by assumption: ¬uS f (((i:Nat):Int)+1)) ⟨om,om,w⟩)|(rw[<-hu]at q1;exact absurd q1 (ff am))|exact(by assumption: ¬uS f (el f.code i).goto) ⟨(hg q1).1,(hg q1).2,q2⟩|exact absurd q2 am|omega))
theorem Ki {op:Int}:hasB op 108=true↔op=9\/op=10:=by
 constructor
 ·intro h
  by_cases q:0<=op/\op<17
  ·obtain⟨k,rfl⟩:=ko q
   exact(by decide: ∀k:Fin 17,hasB ((k.1:Nat):Int) 108=true->((k.1:Nat):Int)=9\/((k.1:Nat):Int)=10) k h
  ·unfold hasB at h;rw[decide_eq_false q]at h;cases h
 ·rintro(rfl|rfl)<;>decide
def aP (n:Nat)(x:bF):Prop:=hasB x.op 97=true->(0<=x.a/\x.a<n)\/(x.op=13/\x.a= -1)
def bP (n:Nat)(x:bF):Prop:=hasB x.op 98=true->0<=x.b/\x.b<n
theorem M9 {n:Nat}{x:bF}(ha:aP n x)(hb:bP n x)(hl: ∀i,i<x.args.length->0<=el x.args i/\el x.args i<n): ∀v∈iK x,0<=v/\v<n:=by
 intro v hv
 unfold iK at hv
 rcases List.mem_append.1 hv with hv|hv
 ·rcases List.mem_append.1 hv with hv|hv
  ·by_cases q:hasB x.op 97=true/\(x.op≠13\/x.a≠ -1)
   ·rw[if_pos q,List.mem_singleton]at hv
    subst hv
    rcases ha q.1 with w|w
    ·exact w
    ·exact absurd w.1 (q.2.elim id fun z=>absurd w.2 z)
   ·rw[if_neg q]at hv;cases hv
  ·by_cases q:hasB x.op 98=true
   ·rw[if_pos q,List.mem_singleton]at hv
    subst hv;exact hb q
   ·rw[if_neg q]at hv;cases hv
 ·by_cases q:hasB x.op 108=true
  ·rw[if_pos q]at hv
   obtain⟨i,hi,e⟩:=cm hv
   subst e;exact hl i hi
  ·rw[if_neg q]at hv;cases hv
theorem SA {f:bU}{x:bF}(hr:jR f x):aP f.vars.length x:=fun h=>by
 by_cases q:x.op=13/\x.a= -1
 ·exact Or.inr q
 ·refine Or.inl (El hr h ?_)
  by_cases w:x.op=13
  ·exact Or.inr fun z=>q ⟨w,z⟩
  ·exact Or.inl w
theorem fH {f:bU}{v:Int}{K:PV->Prop}(kt:0<=v/\v<f.vars.length->K (.bool true))(kf: ¬(0<=v/\v<f.vars.length)->K (.bool false)):PF Tryz.prog X0 Mx 134 [.int .i64 v,.fp (eN f) 0] K:=by
 refine Pf ve fun hnt=>?_
 repeat'(first|refine Qa ?_|(refine Ba ?_ ?_<;>try exact Za)|intro hc)
 ·exact E1 (kt ⟨am,am⟩)
 ·exact E1 (kf om)
 ·exact E1 (kf om)
theorem zW {f:bU}{x:bF}{K:PV->Prop}(hun:DO x)(kt:jR f x->K (.bool true))(kf: ¬jR f x->K (.bool false)):PF Tryz.prog X0 Mx 94 [.agg (eN f),.agg (dh x)] K:=by
 refine Pf zO fun hnt=>?_
 have u1:eE x.op 100=hasB x.op 100:=dN (by simp)
 have u2:eE x.op 97=hasB x.op 97:=dN (by simp)
 have u3:eE x.op 98=hasB x.op 98:=dN (by simp)
 have u4:eE x.op 103=hasB x.op 103:=dN (by simp)
 have u5:eE x.op 42=hasB x.op 108:=J3
 have u6:=Ki (op:=x.op)
 repeat'(first|refine pg ?_|refine af ?_|refine ad ?_|refine ah ?_|(refine ak ?_;intro hl)|(refine ai ?_;intro b)|(refine aw ?_ ?_<;>intro hc<;>try first|contradiction|omega)|refine aj ?_|refine aA ?_|refine au ?_|refine pc ?_|refine pt ?_|refine pb ?_)
 refine cz 18 29 (¬zC f.vars.length x) (fun b hb1=>?_) (fun J=>?_)
 rotate_left
 ·repeat'(first|(refine J _ _ .su rfl ?_)|refine pg ?_|refine af ?_|refine ad ?_|refine ah ?_|(refine ak ?_;intro hl)|(refine ai ?_;intro b)|(refine aw ?_ ?_<;>intro hc<;>try first|contradiction|omega)|refine aj ?_|refine aA ?_|refine au ?_|(refine ae (aa (cq (f:=100) dc (fun hc=>?_) fun hc=>?_)))|(refine ae (aa (cq (f:=42) dc (fun hc=>?_) fun hc=>?_)))|(refine dJ (fH (fun hc=>⟨rfl,?_⟩) fun hc=>⟨rfl,?_⟩) rfl rfl rfl (.cons _ _ _ _ (.refl _) (.cons _ _ _ _ (.ptr _ _ _ _ _ rfl (.refl _)) .nil)))|refine pc ?_|refine pt ?_|refine pb ?_)
  all_goals clear J
  all_goals try have w:=u6.1 (by rw[<-u5];assumption)
  all_goals try have w: ¬(x.op=9\/x.op=10):=fun z=>by have z2:=u6.2 z;rw[<-u5]at z2;exact ff am z2
  all_goals first|(unfold zC;rw[<-u1])|(unfold aP;rw[<-u2])|(unfold bP;rw[<-u3])
  all_goals first
   |(simp only[show eE x.op 100=true by assumption];simp;omega)
   |(simp only[show eE x.op 100=false by assumption];simp;done)
 cases b
 rotate_left
 ·repeat'(first|refine pg ?_|refine af ?_|refine ad ?_|refine ah ?_|(refine ak ?_;intro hl)|(refine ai ?_;intro b)|(refine aw ?_ ?_<;>intro hc<;>try first|contradiction|omega)|refine aj ?_|refine aA ?_|refine au ?_|refine pc ?_|refine pt ?_|refine pb ?_)
  exact E1 (kf fun q=>hb1.1 rfl q.1)
 repeat'(first|refine pg ?_|refine af ?_|refine ad ?_|refine ah ?_|(refine ak ?_;intro hl)|(refine ai ?_;intro b)|(refine aw ?_ ?_<;>intro hc<;>try first|contradiction|omega)|refine aj ?_|refine aA ?_|refine au ?_|refine pc ?_|refine pt ?_|refine pb ?_)
 refine cz 17 49 (¬aP f.vars.length x) (fun b hb2=>?_) (fun J=>?_)
 rotate_left
 ·repeat'(first|(refine J _ _ .su rfl ?_)|refine pg ?_|refine af ?_|refine ad ?_|refine ah ?_|(refine ak ?_;intro hl)|(refine ai ?_;intro b)|(refine aw ?_ ?_<;>intro hc<;>try first|contradiction|omega)|refine aj ?_|refine aA ?_|refine au ?_|(refine ae (aa (cq (f:=97) dc (fun hc=>?_) fun hc=>?_)))|(refine dJ (fH (fun hc=>⟨rfl,?_⟩) fun hc=>⟨rfl,?_⟩) rfl rfl rfl (.cons _ _ _ _ (.refl _) (.cons _ _ _ _ (.ptr _ _ _ _ _ rfl (.refl _)) .nil)))|refine pc ?_|refine pt ?_|refine pb ?_)
  all_goals clear J
  all_goals try have w:=u6.1 (by rw[<-u5];assumption)
  all_goals try have w: ¬(x.op=9\/x.op=10):=fun z=>by have z2:=u6.2 z;rw[<-u5]at z2;exact ff am z2
  all_goals first|(unfold zC;rw[<-u1])|(unfold aP;rw[<-u2])|(unfold bP;rw[<-u3])
  all_goals first
   |(simp only[show eE x.op 97=true by assumption];simp;omega)
   |(simp only[show eE x.op 97=false by assumption];simp;done)
 cases b
 rotate_left
 ·repeat'(first|refine pg ?_|refine af ?_|refine ad ?_|refine ah ?_|(refine ak ?_;intro hl)|(refine ai ?_;intro b)|(refine aw ?_ ?_<;>intro hc<;>try first|contradiction|omega)|refine aj ?_|refine aA ?_|refine au ?_|refine pc ?_|refine pt ?_|refine pb ?_)
  exact E1 (kf fun q=>hb2.1 rfl (SA q))
 repeat'(first|refine pg ?_|refine af ?_|refine ad ?_|refine ah ?_|(refine ak ?_;intro hl)|(refine ai ?_;intro b)|(refine aw ?_ ?_<;>intro hc<;>try first|contradiction|omega)|refine aj ?_|refine aA ?_|refine au ?_|refine pc ?_|refine pt ?_|refine pb ?_)
 refine cz 7 59 (¬bP f.vars.length x) (fun b hb3=>?_) (fun J=>?_)
 rotate_left
 ·repeat'(first|(refine J _ _ .su rfl ?_)|refine pg ?_|refine af ?_|refine ad ?_|refine ah ?_|(refine ak ?_;intro hl)|(refine ai ?_;intro b)|(refine aw ?_ ?_<;>intro hc<;>try first|contradiction|omega)|refine aj ?_|refine aA ?_|refine au ?_|(refine ae (aa (cq (f:=98) dc (fun hc=>?_) fun hc=>?_)))|(refine dJ (fH (fun hc=>⟨rfl,?_⟩) fun hc=>⟨rfl,?_⟩) rfl rfl rfl (.cons _ _ _ _ (.refl _) (.cons _ _ _ _ (.ptr _ _ _ _ _ rfl (.refl _)) .nil)))|refine pc ?_|refine pt ?_|refine pb ?_)
  all_goals clear J
  all_goals try have w:=u6.1 (by rw[<-u5];assumption)
  all_goals try have w: ¬(x.op=9\/x.op=10):=fun z=>by have z2:=u6.2 z;rw[<-u5]at z2;exact ff am z2
  all_goals first|(unfold zC;rw[<-u1])|(unfold aP;rw[<-u2])|(unfold bP;rw[<-u3])
  all_goals first
   |(simp only[show eE x.op 98=true by assumption];simp;omega)
   |(simp only[show eE x.op 98=false by assumption];simp;done)
 cases b
 rotate_left
 ·repeat'(first|refine pg ?_|refine af ?_|refine ad ?_|refine ah ?_|(refine ak ?_;intro hl)|(refine ai ?_;intro b)|(refine aw ?_ ?_<;>intro hc<;>try first|contradiction|omega)|refine aj ?_|refine aA ?_|refine au ?_|refine pc ?_|refine pt ?_|refine pb ?_)
  exact E1 (kf fun q=>hb3.1 rfl (fun h=>J6 q h))
 repeat'(first|refine pg ?_|refine af ?_|refine ad ?_|refine ah ?_|(refine ak ?_;intro hl)|(refine ai ?_;intro b)|(refine aw ?_ ?_<;>intro hc<;>try first|contradiction|omega)|refine aj ?_|refine aA ?_|refine au ?_|refine pc ?_|refine pt ?_|refine pb ?_)
 have hd:zC f.vars.length x:=Classical.byContradiction fun q=>by cases hb1.2 q
 have ha:aP f.vars.length x:=Classical.byContradiction fun q=>by cases hb2.2 q
 have hbb:bP f.vars.length x:=Classical.byContradiction fun q=>by cases hb3.2 q
 refine aD (fun j:Nat=>[(2,.ptr 2 _ 0),(3,.ptr 3 _ 0),(5,.fn 134 [.ptr 2 _ 0]),(61,pL 1 pI x.args),(62,.int .i64 (x.args.length:Nat)),(63,.int .i64 j)]) (fun _=>[(2,some _,.cells (eN f)),(3,some _,.cells (dh x))]) (fun j=>j<=x.args.length/\ ∀i,i<j->0<=el x.args i/\el x.args i<f.vars.length) (fun j=>x.args.length-j) 0 ⟨Nat.zero_le _,gY⟩ .su .su ?_
 rintro j ⟨hj,hb⟩
 by_cases hlt:j<x.args.length
 ·repeat'(first|refine pg ?_|refine af ?_|refine ad ?_|refine ah ?_|(refine ak ?_;intro hl)|(refine ai ?_;intro b)|(refine aw ?_ ?_<;>intro hc<;>try first|contradiction|omega)|refine aj ?_|refine aA ?_|refine au ?_|(refine dJ (fH (fun hc=>⟨rfl,?_⟩) fun hc=>⟨rfl,?_⟩) rfl rfl rfl (.cons _ _ _ _ (.refl _) (.cons _ _ _ _ (.ptr _ _ _ _ _ rfl (.refl _)) .nil)))|refine pc ?_|refine pt ?_|refine pb ?_)
  ·refine⟨j+1,by dsimp only;omega,⟨om,fun i hi=>?_⟩,.su,.su⟩
   by_cases q:i=j
   ·subst q;assumption
   ·exact hb i om
  ·exact E1 (kf fun q=>by have h8:hasB x.op 108=true:=hun.2.2.2.2.2.2.1.elim id (fun z=>by omega);exact(by assumption: ¬(0<=el x.args j/\el x.args j<f.vars.length)) (P7 q h8 hlt))
 ·have hU:=M9 ha hbb fun i hi=>hb i om
  repeat'(first|refine pg ?_|refine af ?_|refine ad ?_|refine ah ?_|(refine ak ?_;intro hl)|(refine ai ?_;intro b)|(refine aw ?_ ?_<;>intro hc<;>try first|contradiction|omega)|refine aj ?_|refine aA ?_|refine au ?_|(refine ae (aa (cq (f:=103) dc (fun hc=>?_) fun hc=>?_)))|(refine ae (aa (pF (fun hc=>?_) fun hc=>?_)))|refine pc ?_|refine pt ?_|refine pb ?_)
  all_goals first
   |exact E1 (kt ⟨hd,hU,fun hq=>by first|(rw[<-u4]at hq;exact absurd hq (ff am))|(constructor<;>omega),by first|exact Or.inl am|exact Or.inr am⟩)
   |exact E1 (kf fun q=>by have q3:=q.2.2.1 (by rw[<-u4];assumption);omega)
   |exact E1 (kf fun q=>q.2.2.2.elim am am)
theorem rq {cl:List aN}{f:bU}{x:bF}{K:PV->Prop}(cg:cl.length<=64)(hi: ¬iq∈bH cl)(hn: ¬ph∈bH cl)(hr:jR f x)(hop:x.op=7\/x.op=8)(k:K (.int .i64 (HJ cl f x))):PF Tryz.prog X0 Mx 140 [.agg (kr cl f),.agg (dh x)] K:=by
 refine Pf ri fun hnt=>?_
 have qa:=El hr (by rcases hop with q|q<;>rw[q]<;>decide) om
 have qd:x.op=7->0<=x.dst/\x.dst<f.vars.length:=fun q=>J7 hr (by rw[q];decide) om om
 have qb:x.op=8->0<=x.b/\x.b<f.vars.length:=fun q=>J6 hr (by rw[q];decide)
 repeat'(first|refine Qb ?_|(refine ai ?_;intro b)|(refine Ba ?_ ?_<;>intro hc<;>try exact Zb)|refine aX ?_|refine pd ?_|(refine ix (aR (gF ?_ ?_)))|(refine ix (aR (eV hi (fun hc=>?_) fun hc=>?_)))|(refine ix (aR (zV cg (fun c d hF=>?_) fun hF=>?_)))|(refine ix (aR (gZ cg hi hn (fun hc=>?_) fun hc=>?_)))|refine ix (aR (kq ?_))|refine bz (us:=aY cl) ?_ rfl rfl ⟨by show 1<=8;decide,rfl⟩|exact qa|exact qd am|exact qb om)
 all_goals unfold HJ at k
 all_goals first
  |rw[if_pos (by assumption)]at k
  |rw[if_neg (not_not.2 (by assumption)),hF]at k
 all_goals try dsimp only at k
 all_goals try first
  |rw[if_pos (Or.inl ⟨by assumption,by assumption⟩)]at k
  |rw[if_pos (Or.inr ⟨by omega,by assumption⟩)]at k
  |rw[if_neg (by rintro(⟨q1,q2⟩|⟨q1,q2⟩)<;>first|exact absurd q1 (by assumption)|exact q2 (by assumption)|omega)]at k
 all_goals exact E1 k
theorem tq {cl:List aN}{f:bU}{x:bF}{s:bZ}{K:PV->Prop}(cg:cl.length<=64)(hi: ¬iq∈bH cl)(hn: ¬ph∈bH cl)(hr:jR f x)(hop:x.op=9\/x.op=10)(k:K (.int .i64 (uE cl f x s))):PF Tryz.prog X0 Mx 143 [.agg (kr cl f),.agg (dh x),.agg (cb s)] K:=by
 refine Pf tk fun hnt=>?_
 have ql: ∀i,i<x.args.length->0<=el x.args i/\el x.args i<f.vars.length:=fun i hi=>P7 hr (by rcases hop with q|q<;>rw[q]<;>decide) hi
 have qd:=hr.1 (by rcases hop with q|q<;>rw[q]<;>decide)
 repeat'(first|refine Qb ?_|(refine ak ?_;intro hl)|(refine ai ?_;intro b)|(refine Ba ?_ ?_<;>intro hc<;>try exact Zb)|refine aX ?_|refine pd ?_|refine pb ?_)
 all_goals unfold uE at k
 case refine_2=>rw[if_pos (by omega)]at k;exact E1 k
 rw[if_neg (by omega)]at k
 refine aD (fun j:Nat=>[(3,.ptr 3 _ 0),(4,.ptr 4 _ 0),(5,.ptr 5 _ 0),(17,pL 1 pI x.args),(18,.int .i64 (x.args.length:Nat)),(19,.int .i64 j)]) (fun _=>[(3,some _,.cells (kr cl f)),(4,some _,.cells (dh x)),(5,some _,.cells (cb s))]) (fun j=>j<=x.args.length/\ ∀i,i<j->pj cl (vt f (el x.args i)) (el s.params i)) (fun j=>x.args.length-j) 0 ⟨Nat.zero_le _,gY⟩ .su .su ?_
 rintro j ⟨hj,hb⟩
 have qj:=ql j
 repeat'(first|refine Qb ?_|(refine ak ?_;intro hl)|(refine ai ?_;intro b)|(refine Ba ?_ ?_<;>intro hc<;>try exact Zb)|refine aX ?_|refine pd ?_|(refine ix (aR (gF ?_ ?_)))|(refine ix (aR (gZ cg hi hn (fun hc=>?_) fun hc=>?_)))|refine ix (aR (kq ?_))|(exact qj om)|omega|refine pb ?_)
 all_goals first
  |(refine⟨j+1,by dsimp only;omega,⟨om,fun i hi=>?_⟩,.su,.su⟩;by_cases q:i=j;(subst q;assumption);(exact hb i om))
  |(rw[if_pos ⟨j,by omega,by assumption⟩]at k;exact E1 k)
  |rw[if_neg (fun⟨i,hi,q⟩=>q (hb i (by omega)))]at k
 all_goals first
  |(rw[if_pos ⟨by assumption,Or.inl (by assumption)⟩]at k;exact E1 k)
  |(rw[if_pos ⟨by assumption,Or.inr (by assumption)⟩]at k;exact E1 k)
  |(rw[if_neg (fun q=>q.1 (by assumption))]at k;exact E1 k)
  |(rw[if_neg (fun q=>q.2.elim (by assumption) fun w=>w (by assumption))]at k;exact E1 k)
theorem vl {u:aF}{K:PV->Prop}(k:K (.int .i64 (iG u))):PF Tryz.prog X0 Mx 36 [.agg (bK u)] K:=by
 refine Pf u9 fun hnt=>?_
 repeat'(first|refine Qc ?_|(refine Ba ?_ ?_<;>try exact Za)|refine ad ?_|refine ak ?_|refine ai ?_|refine ay ?_|(refine ae (aa (zT (fun i=>?_))))|refine bz (us:=aY u.cl) ?_ rfl rfl ⟨by show 1<=3;decide,rfl⟩|refine pb ?_|intro hc)
 case refine_1.refine_1=>unfold iG at k;replace k:=Ik k;exact E1 k
 case refine_2=>unfold iG at k;replace k:=Ik k;exact E1 k
 have hk:=fC (by assumption:gb u.cl=0)
 have hml:=tN (cl:=u.cl) fun i hi=>(gm (hk.2 i hi)).2.2.2.1
 refine aD (fun j:Nat=>[(1,.ptr 1 _ 0),(5,.int .i64 ((allM (u.cl.take j)).length:Nat)),(24,pL 4 gS u.cl),(25,.int .i64 (u.cl.length:Nat)),(26,.int .i64 j)]) (fun _=>[(1,some _,.cells (bK u))]) (fun j=>j<=u.cl.length) (fun j=>u.cl.length-j) 0 (Nat.zero_le _) .su .su ?_
 intro j hj
 have hmj:=hml j hj
 by_cases hlt:j<u.cl.length
 ·have hs:=jT hlt
  have hml1:=(gm (hk.2 j hlt)).2.2.2.1
  repeat'(first|refine Qc ?_|(refine Ba ?_ ?_<;>try exact Za)|refine ad ?_|refine ak ?_|refine ai ?_|refine ay ?_|refine aI ?_|refine pb ?_|intro hc)
  rw[show(((allM (u.cl.take j)).length:Nat):Int)+((el u.cl j).methods.length:Nat)=((allM (u.cl.take (j+1))).length:Nat)by omega]
  exact⟨j+1,by dsimp only;omega,om,.su,.su⟩
 ·have hjl:j=u.cl.length:=by omega
  have ht:(allM (u.cl.take j)).length=(allM u.cl).length:=by rw[hjl,List.take_length]
  rw[ht]at hmj⊢
  by_cases hef:(allM u.cl).length=u.fns.length
  all_goals repeat'(first|refine Qc ?_|(refine Ba ?_ ?_<;>try exact Za)|refine ad ?_|refine ak ?_|refine ai ?_|refine ay ?_|refine aI ?_|refine pb ?_|intro hc)
  all_goals unfold iG at k
  all_goals replace k:=Ik k
  all_goals first
   |exact E1 k
   |(rw[if_pos ⟨by assumption,by assumption,by assumption,by assumption,by assumption⟩]at k;exact E1 k)
   |(rw[if_neg (fun q=>by first|exact absurd q.1 (by assumption)|exact absurd q.2.1 (by assumption)|exact absurd (q.2.2.1.symm.trans (by assumption)) (by decide)|exact absurd q.2.2.2.1 (by assumption)|exact absurd q.2.2.2.2 (by assumption))]at k;exact E1 k)
theorem zX {f:bU}{c:List Nat}{s:bZ}{K:PV->Prop}(h6:s.params.length<=6)(kt:pq f c s->K (.bool true))(kf: ¬pq f c s->K (.bool false)):PF Tryz.prog X0 Mx 90 [.str c,.agg (cb s),.agg (eN f)] K:=by
 refine Pf zN fun hnt=>?_
 have hp:pn s=(s.params.length:Int)+(if s.static=true then 0 else 1):=rfl
 cases hs:s.static
 all_goals rw[hs]at hp
 all_goals simp at hp
 all_goals repeat'(first|refine Qc ?_|(refine aG ?_ ?_<;>intro hc<;>try first|contradiction|(exfalso;rw[hs]at hc;cases hc;done))|refine ad ?_|refine ah ?_|refine ak ?_|refine ai ?_|(refine Ba ?_ ?_<;>try exact Za)|(refine bb ?_;intro b)|(refine fD (f:=pS) c ?_;intro od1)|(refine yY ?_ rfl rfl rfl (fun _=>rfl) (by show(1+_)*_<=_;omega);intro od2)|(refine ml (l:=[]) (m:=s.params) (f:=pS) ?_ rfl rfl (.aE _) (.tr _ _) (fun i _=>rfl) (fun _=>rfl) (by show(0+_)*_<=_;omega);intro od2)|refine pb ?_|intro hc)
 all_goals have hl1:([c]++s.params).length=s.params.length+1:=by simp
 all_goals have hl0:(([]:List (List Nat))++s.params).length=s.params.length:=rfl
 all_goals try(exact E1 (kf fun⟨q1,q2,q3,q4,q5,q6,q7,q8⟩=>by first|exact absurd q1 am|exact absurd q2 am|(rw[hs,(by assumption:f.static=true)]at q3;cases q3;done)|(rw[hs,(by assumption:f.static=false)]at q3;cases q3;done)|exact absurd q4 am|(rw[hp]at q5;omega)|(rw[hp]at q6;omega)))
 all_goals have hff:f.static=s.static:=by rw[hs];assumption
 ·refine aD (fun j:Nat=>[(4,.ptr 4 _ 0),(5,.ptr 5 _ 0),(59,oL 41 od2 1 ([c]++s.params)),(60,.int .i64 (([c]++s.params).length:Nat)),(61,.int .i64 j)]) (fun _=>[(4,some _,.cells (cb s)),(5,some _,.cells (eN f)),(41,od2,aL 1 pS ([c]++s.params))]) (fun j=>j<=([c]++s.params).length/\ ∀a,a<j->(el f.vars a).wZ=el ([c]++s.params) a) (fun j=>([c]++s.params).length-j) 0 ⟨Nat.zero_le _,gY⟩ .su .su ?_
  rintro j ⟨hj,hb⟩
  repeat'(first|refine Qc ?_|(refine aG ?_ ?_<;>intro hc<;>try first|contradiction|(exfalso;rw[hs]at hc;cases hc;done))|refine ad ?_|refine ah ?_|refine ak ?_|refine ai ?_|(refine Ba ?_ ?_<;>try exact Za)|(refine dW ?_;intro id hq;subst hq)|refine uO ?_|refine pb ?_|intro hc)
  ·refine⟨j+1,by dsimp only;omega,⟨om,fun a ha=>?_⟩,.su,.su⟩
   by_cases q:a=j
   ·subst q;assumption
   ·exact hb a om
  ·exact E1 (kf fun q=>by have q7:=(q.2.2.2.2.2.2.1 hs).2;have q8:=q.2.2.2.2.2.2.2;rw[hp]at q8;cases j with|zero=>exact(by assumption: ¬(el f.vars 0).wZ=el ([c]++s.params) 0) q7|succ j=>(have q9:=q8 j om;rw[show((s.params.length:Int)+1-s.params.length+(j:Nat)).toNat=j+1 by omega]at q9;exact(by assumption: ¬(el f.vars (j+1)).wZ=el ([c]++s.params) (j+1)) q9))
  ·exact E1 (kt ⟨am,am,hff,am,by rw[hp];omega,by rw[hp];omega,fun _=>⟨am,hb 0 om⟩,fun i hi=>by rw[hp,show((s.params.length:Int)+1-s.params.length+(i:Nat)).toNat=i+1 by omega];exact hb (i+1) om⟩)
  ·exact E1 (kf fun q=>absurd (q.2.2.2.2.2.2.1 hs).1 am)
 ·refine aD (fun j:Nat=>[(4,.ptr 4 _ 0),(5,.ptr 5 _ 0),(59,oL 45 od2 1 (([]:List (List Nat))++s.params)),(60,.int .i64 ((([]:List (List Nat))++s.params).length:Nat)),(61,.int .i64 j)]) (fun _=>[(4,some _,.cells (cb s)),(5,some _,.cells (eN f)),(45,od2,aL 1 pS (([]:List (List Nat))++s.params))]) (fun j=>j<=(([]:List (List Nat))++s.params).length/\ ∀a,a<j->(el f.vars a).wZ=el (([]:List (List Nat))++s.params) a) (fun j=>(([]:List (List Nat))++s.params).length-j) 0 ⟨Nat.zero_le _,gY⟩ .su .su ?_
  rintro j ⟨hj,hb⟩
  repeat'(first|refine Qc ?_|(refine aG ?_ ?_<;>intro hc<;>try first|contradiction|(exfalso;rw[hs]at hc;cases hc;done))|refine ad ?_|refine ah ?_|refine ak ?_|refine ai ?_|(refine Ba ?_ ?_<;>try exact Za)|(refine dW ?_;intro id hq;subst hq)|refine uO ?_|refine pb ?_|intro hc)
  ·refine⟨j+1,by dsimp only;omega,⟨om,fun a ha=>?_⟩,.su,.su⟩
   by_cases q:a=j
   ·subst q;assumption
   ·exact hb a om
  ·exact E1 (kf fun q=>by have q8:=q.2.2.2.2.2.2.2 j om;rw[hp,show((s.params.length:Int)-s.params.length+(j:Nat)).toNat=j by omega]at q8;exact(by assumption: ¬(el f.vars j).wZ=el ([]++s.params) j) q8)
  ·exact E1 (kt ⟨am,am,hff,am,by rw[hp];omega,by rw[hp];omega,fun q=>(by rw[hs]at q;cases q),fun i hi=>by rw[hp,show((s.params.length:Int)-s.params.length+(i:Nat)).toNat=i by omega];exact hb i om⟩)
end Go.Proofs.YtemehfgkfidgjaaGreatDoor.Ev
