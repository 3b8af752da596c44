/- CoverStates, part 22 -/
import Derived.Test.YtemehfgkfidgjaaGreatDoorCvH
set_option linter.all false
set_option maxHeartbeats 4000000
namespace Go.Proofs.YtemehfgkfidgjaaGreatDoor.Ev
open Go
open Classical
def ph:List Nat:=[110,117,108,108]
def pj (cl:List aN)(s t:List Nat):Prop:=s=t\/s=ph/\t≠iq\/s≠ph/\s∈bH cl/\t∈bH cl/\t∈aB cl s
theorem iJ {cl:List aN}{s t:List Nat}{K:PV->Prop}(cg:cl.length<=64)(kt:pj cl s t->K (.bool true))(kf: ¬pj cl s t->K (.bool false)):PF Tryz.prog X0 Mx 275 [.agg (aY cl),.str s,.str t] K:=by
 refine Pf Ei fun hnt=>?_
 repeat'(first|refine pg ?_|refine af ?_|(refine ai ?_;intro b)|(refine aw ?_ ?_<;>intro hc<;>try first|contradiction|omega)|refine au ?_|(refine ae (aa (gE (fun hc=>?_) fun hc=>?_)))|(refine ae (aa (BM cg (fun hc=>?_) fun hc=>?_)))|refine pc ?_|refine pt ?_)
 all_goals first
  |exact E1 (kt (by first|exact Or.inl am|exact Or.inr (Or.inl ⟨am,am⟩)|exact Or.inr (Or.inr ⟨am,am,am,am⟩)))
  |exact E1 (kf (by rintro(q|⟨q1,q2⟩|⟨q1,q2,q3,q4⟩)<;>first|exact absurd q am|exact absurd q1 am|exact absurd q2 am|exact absurd q3 am|exact absurd q4 am|exact absurd am q1|exact absurd am q2))
def DO (x:bF):Prop:=(hasB x.op 100=true\/x.dst=0)/\(hasB x.op 97=true\/x.a=0)/\(hasB x.op 98=true\/x.b=0)/\(hasB x.op 110=true\/x.n=0)/\(hasB x.op 99=true\/x.cls=[])/\(hasB x.op 109=true\/x.name=[])/\(hasB x.op 108=true\/x.args.length=0)/\(hasB x.op 103=true\/x.goto=0)
theorem zA {x:bF}{K:PV->Prop}(kt:DO x->K (.bool true))(kf: ¬DO x->K (.bool false)):PF Tryz.prog X0 Mx 238 [.agg (dh x)] K:=by
 refine Pf zB fun hnt=>?_
 repeat'(first|refine pg ?_|refine af ?_|refine ad ?_|(refine ak ?_;intro hl)|(refine ai ?_;intro b)|(refine aw ?_ ?_<;>intro hc<;>try first|contradiction|omega)|refine pc ?_|refine pt ?_)
 refine cz 5 12 (hasB x.op 100=true\/x.dst=0) (fun b hb0=>?_) (fun J=>?_)
 rotate_left
 ·repeat'(first|(refine J _ _ .su rfl ?_)|refine pg ?_|refine af ?_|refine ad ?_|(refine ak ?_;intro hl)|(refine ai ?_;intro b)|(refine aw ?_ ?_<;>intro hc<;>try first|contradiction|omega)|(refine ae (aa (cJ (fun hc=>?_) fun hc=>?_)))|refine pc ?_|refine pt ?_)
  all_goals first|(simp_all;done)|(simp_all;omega)
 cases b
 ·repeat'(first|refine pg ?_|refine af ?_|refine ad ?_|(refine ak ?_;intro hl)|(refine ai ?_;intro b)|(refine aw ?_ ?_<;>intro hc<;>try first|contradiction|omega)|refine pc ?_|refine pt ?_)
  exact E1 (kf fun q=>by have q2:=hb0.2 q.1;cases q2)
 repeat'(first|refine pg ?_|refine af ?_|refine ad ?_|(refine ak ?_;intro hl)|(refine ai ?_;intro b)|(refine aw ?_ ?_<;>intro hc<;>try first|contradiction|omega)|refine pc ?_|refine pt ?_)
 refine cz 6 21 (hasB x.op 97=true\/x.a=0) (fun b hb1=>?_) (fun J=>?_)
 rotate_left
 ·repeat'(first|(refine J _ _ .su rfl ?_)|refine pg ?_|refine af ?_|refine ad ?_|(refine ak ?_;intro hl)|(refine ai ?_;intro b)|(refine aw ?_ ?_<;>intro hc<;>try first|contradiction|omega)|(refine ae (aa (cJ (fun hc=>?_) fun hc=>?_)))|refine pc ?_|refine pt ?_)
  all_goals first|(simp_all;done)|(simp_all;omega)
 cases b
 ·repeat'(first|refine pg ?_|refine af ?_|refine ad ?_|(refine ak ?_;intro hl)|(refine ai ?_;intro b)|(refine aw ?_ ?_<;>intro hc<;>try first|contradiction|omega)|refine pc ?_|refine pt ?_)
  exact E1 (kf fun q=>by have q2:=hb1.2 q.2.1;cases q2)
 repeat'(first|refine pg ?_|refine af ?_|refine ad ?_|(refine ak ?_;intro hl)|(refine ai ?_;intro b)|(refine aw ?_ ?_<;>intro hc<;>try first|contradiction|omega)|refine pc ?_|refine pt ?_)
 refine cz 6 30 (hasB x.op 98=true\/x.b=0) (fun b hb2=>?_) (fun J=>?_)
 rotate_left
 ·repeat'(first|(refine J _ _ .su rfl ?_)|refine pg ?_|refine af ?_|refine ad ?_|(refine ak ?_;intro hl)|(refine ai ?_;intro b)|(refine aw ?_ ?_<;>intro hc<;>try first|contradiction|omega)|(refine ae (aa (cJ (fun hc=>?_) fun hc=>?_)))|refine pc ?_|refine pt ?_)
  all_goals first|(simp_all;done)|(simp_all;omega)
 cases b
 ·repeat'(first|refine pg ?_|refine af ?_|refine ad ?_|(refine ak ?_;intro hl)|(refine ai ?_;intro b)|(refine aw ?_ ?_<;>intro hc<;>try first|contradiction|omega)|refine pc ?_|refine pt ?_)
  exact E1 (kf fun q=>by have q2:=hb2.2 q.2.2.1;cases q2)
 repeat'(first|refine pg ?_|refine af ?_|refine ad ?_|(refine ak ?_;intro hl)|(refine ai ?_;intro b)|(refine aw ?_ ?_<;>intro hc<;>try first|contradiction|omega)|refine pc ?_|refine pt ?_)
 refine cz 6 39 (hasB x.op 110=true\/x.n=0) (fun b hb3=>?_) (fun J=>?_)
 rotate_left
 ·repeat'(first|(refine J _ _ .su rfl ?_)|refine pg ?_|refine af ?_|refine ad ?_|(refine ak ?_;intro hl)|(refine ai ?_;intro b)|(refine aw ?_ ?_<;>intro hc<;>try first|contradiction|omega)|(refine ae (aa (cJ (fun hc=>?_) fun hc=>?_)))|refine pc ?_|refine pt ?_)
  all_goals first|(simp_all;done)|(simp_all;omega)
 cases b
 ·repeat'(first|refine pg ?_|refine af ?_|refine ad ?_|(refine ak ?_;intro hl)|(refine ai ?_;intro b)|(refine aw ?_ ?_<;>intro hc<;>try first|contradiction|omega)|refine pc ?_|refine pt ?_)
  exact E1 (kf fun q=>by have q2:=hb3.2 q.2.2.2.1;cases q2)
 repeat'(first|refine pg ?_|refine af ?_|refine ad ?_|(refine ak ?_;intro hl)|(refine ai ?_;intro b)|(refine aw ?_ ?_<;>intro hc<;>try first|contradiction|omega)|refine pc ?_|refine pt ?_)
 refine cz 6 48 (hasB x.op 99=true\/x.cls=[]) (fun b hb4=>?_) (fun J=>?_)
 rotate_left
 ·repeat'(first|(refine J _ _ .su rfl ?_)|refine pg ?_|refine af ?_|refine ad ?_|(refine ak ?_;intro hl)|(refine ai ?_;intro b)|(refine aw ?_ ?_<;>intro hc<;>try first|contradiction|omega)|(refine ae (aa (cJ (fun hc=>?_) fun hc=>?_)))|refine pc ?_|refine pt ?_)
  all_goals first|(simp_all;done)|(simp_all;omega)
 cases b
 ·repeat'(first|refine pg ?_|refine af ?_|refine ad ?_|(refine ak ?_;intro hl)|(refine ai ?_;intro b)|(refine aw ?_ ?_<;>intro hc<;>try first|contradiction|omega)|refine pc ?_|refine pt ?_)
  exact E1 (kf fun q=>by have q2:=hb4.2 q.2.2.2.2.1;cases q2)
 repeat'(first|refine pg ?_|refine af ?_|refine ad ?_|(refine ak ?_;intro hl)|(refine ai ?_;intro b)|(refine aw ?_ ?_<;>intro hc<;>try first|contradiction|omega)|refine pc ?_|refine pt ?_)
 refine cz 6 57 (hasB x.op 109=true\/x.name=[]) (fun b hb5=>?_) (fun J=>?_)
 rotate_left
 ·repeat'(first|(refine J _ _ .su rfl ?_)|refine pg ?_|refine af ?_|refine ad ?_|(refine ak ?_;intro hl)|(refine ai ?_;intro b)|(refine aw ?_ ?_<;>intro hc<;>try first|contradiction|omega)|(refine ae (aa (cJ (fun hc=>?_) fun hc=>?_)))|refine pc ?_|refine pt ?_)
  all_goals first|(simp_all;done)|(simp_all;omega)
 cases b
 ·repeat'(first|refine pg ?_|refine af ?_|refine ad ?_|(refine ak ?_;intro hl)|(refine ai ?_;intro b)|(refine aw ?_ ?_<;>intro hc<;>try first|contradiction|omega)|refine pc ?_|refine pt ?_)
  exact E1 (kf fun q=>by have q2:=hb5.2 q.2.2.2.2.2.1;cases q2)
 repeat'(first|refine pg ?_|refine af ?_|refine ad ?_|(refine ak ?_;intro hl)|(refine ai ?_;intro b)|(refine aw ?_ ?_<;>intro hc<;>try first|contradiction|omega)|refine pc ?_|refine pt ?_)
 refine cz 7 67 (hasB x.op 108=true\/x.args.length=0) (fun b hb6=>?_) (fun J=>?_)
 rotate_left
 ·repeat'(first|(refine J _ _ .su rfl ?_)|refine pg ?_|refine af ?_|refine ad ?_|(refine ak ?_;intro hl)|(refine ai ?_;intro b)|(refine aw ?_ ?_<;>intro hc<;>try first|contradiction|omega)|(refine ae (aa (cJ (fun hc=>?_) fun hc=>?_)))|refine pc ?_|refine pt ?_)
  all_goals first|(simp_all;done)|(simp_all;omega)
 cases b
 ·repeat'(first|refine pg ?_|refine af ?_|refine ad ?_|(refine ak ?_;intro hl)|(refine ai ?_;intro b)|(refine aw ?_ ?_<;>intro hc<;>try first|contradiction|omega)|refine pc ?_|refine pt ?_)
  exact E1 (kf fun q=>by have q2:=hb6.2 q.2.2.2.2.2.2.1;cases q2)
 repeat'(first|refine pg ?_|refine af ?_|refine ad ?_|(refine ak ?_;intro hl)|(refine ai ?_;intro b)|(refine aw ?_ ?_<;>intro hc<;>try first|contradiction|omega)|refine pc ?_|refine pt ?_)
 refine cz 6 76 (hasB x.op 103=true\/x.goto=0) (fun b hb7=>?_) (fun J=>?_)
 rotate_left
 ·repeat'(first|(refine J _ _ .su rfl ?_)|refine pg ?_|refine af ?_|refine ad ?_|(refine ak ?_;intro hl)|(refine ai ?_;intro b)|(refine aw ?_ ?_<;>intro hc<;>try first|contradiction|omega)|(refine ae (aa (cJ (fun hc=>?_) fun hc=>?_)))|refine pc ?_|refine pt ?_)
  all_goals first|(simp_all;done)|(simp_all;omega)
 cases b
 ·repeat'(first|refine pg ?_|refine af ?_|refine ad ?_|(refine ak ?_;intro hl)|(refine ai ?_;intro b)|(refine aw ?_ ?_<;>intro hc<;>try first|contradiction|omega)|refine pc ?_|refine pt ?_)
  exact E1 (kf fun q=>by have q2:=hb7.2 q.2.2.2.2.2.2.2;cases q2)
 repeat'(first|refine pg ?_|refine af ?_|refine ad ?_|(refine ak ?_;intro hl)|(refine ai ?_;intro b)|(refine aw ?_ ?_<;>intro hc<;>try first|contradiction|omega)|refine pc ?_|refine pt ?_)
 exact E1 (kt ⟨hb0.1 rfl,hb1.1 rfl,hb2.1 rfl,hb3.1 rfl,hb4.1 rfl,hb5.1 rfl,hb6.1 rfl,hb7.1 rfl⟩)
def iC:Nat:=17592186043904
noncomputable def iK (x:bF):List Int:=(if hasB x.op 97=true/\(x.op≠13\/x.a≠ -1)then[x.a]else[])++(if hasB x.op 98=true then[x.b]else[])++(if hasB x.op 108=true then x.args else[])
theorem ff {b:Bool}(h:b=false): ¬b=true:=by rw[h];decide
theorem Ej {x:bF}{K:PV->Prop}(ha:x.args.length<=iC)(k:K (pL 1 pI (iK x))):PF Tryz.prog X0 Mx 273 [.agg (dh x)] K:=by
 refine Pf Ek fun hnt=>?_
 have ha':x.args.length<=17592186043904:=ha
 unfold iK at k
 repeat'(first|refine pg ?_|refine af ?_|refine ad ?_|(refine ai ?_;intro b)|(refine aw ?_ ?_<;>intro hc<;>try first|contradiction|omega)|(refine ae (aa (cJ (fun hc=>?_) fun hc=>?_)))|(refine bb ?_;intro b)|(refine fD (f:=pI) x.a ?_;intro od1)|(refine bV x.b ?_ rfl rfl rfl rfl rfl (fun _=>rfl) (by show(1+1)*_<=_;omega);intro od2)|(refine fD (f:=pI) x.b ?_;intro od2)|(refine yY ?_ rfl rfl rfl (fun _=>rfl) (by show(_+_)*_<=_;simp;omega);intro odl)|(refine ml (l:=[]) (m:=x.args) (f:=pI) ?_ rfl rfl (.aE _) (.tr _ _) (fun i _=>rfl) (fun _=>rfl) (by show(0+_)*_<=_;omega);intro odl)|refine pc ?_|refine pt ?_)
 all_goals first
  |(have hA:hasB x.op 97=true/\(x.op≠13\/x.a≠ -1):=⟨am,by first|exact Or.inl am|exact Or.inr am⟩;rw[if_pos hA]at k)
  |(have hA: ¬(hasB x.op 97=true/\(x.op≠13\/x.a≠ -1)):=fun q=>by first|exact ff am q.1|exact q.2.elim (fun w=>w am) fun w=>w am);rw[if_neg hA]at k
 all_goals first|rw[if_pos (by assumption)]at k|rw[if_neg (ff (by assumption))]at k
 all_goals first|rw[if_pos (by assumption)]at k|rw[if_neg (ff (by assumption))]at k
 all_goals first
  |exact⟨Or.inr rfl,⟨trivial,trivial⟩,_,_,rfl,cE,k⟩
  |exact E1 k
  |exact⟨Or.inr rfl,⟨trivial,trivial⟩,_,_,rfl,.aE 1 _,k⟩
def zC (n:Nat)(x:bF):Prop:=hasB x.op 100=true->(0<=x.dst/\x.dst<n)\/((x.op=9\/x.op=10)/\x.dst= -1)
def J5 (n:Nat)(x:bF):Prop:=hasB x.op 103=true->0<=x.goto/\x.goto<n
def uS (f:bU)(i:Int):Prop:=0<=i/\i<f.code.length/\(el f.code i.toNat).op=15
def jR (f:bU)(x:bF):Prop:=zC f.vars.length x/\(∀v∈iK x,0<=v/\v<f.vars.length)/\J5 f.code.length x/\(x.qQ= -1\/uS f x.qQ)
theorem zD {f:bU}{x:bF}{K:PV->Prop}(ha:x.args.length<=iC)(kt:jR f x->K (.bool true))(kf: ¬jR f x->K (.bool false)):PF Tryz.prog X0 Mx 239 [.agg (eN f),.agg (dh x)] K:=by
 refine Pf zE fun hnt=>?_
 repeat'(first|refine pg ?_|refine af ?_|refine ad ?_|refine ah ?_|(refine ak ?_;intro hl)|(refine ai ?_;intro b)|refine aj ?_|refine bA ?_|refine aA ?_|refine au ?_|refine pc ?_|refine pt ?_|refine pb ?_)
 refine tF 5 19 (x.op=9\/x.op=10) (fun b hcl=>?_) (fun J=>?_)
 rotate_left
 ·repeat'(first|(refine J _ _ .su rfl ?_)|refine pg ?_|refine af ?_|refine ad ?_|refine ah ?_|(refine ak ?_;intro hl)|(refine ai ?_;intro b)|(refine aw ?_ ?_<;>intro hc<;>try first|contradiction|omega)|refine aj ?_|refine bA ?_|refine aA ?_|refine au ?_|refine pc ?_|refine pt ?_|refine pb ?_)
  all_goals(simp;omega)
 repeat'(first|refine pg ?_|refine af ?_|refine ad ?_|refine ah ?_|(refine ak ?_;intro hl)|(refine ai ?_;intro b)|(refine aw ?_ ?_<;>intro hc<;>try first|contradiction|omega)|refine aj ?_|refine bA ?_|refine aA ?_|refine au ?_|refine pc ?_|refine pt ?_|refine pb ?_)
 refine cz 20 42 (¬zC f.vars.length x) (fun b hds=>?_) (fun J=>?_)
 rotate_left
 ·cases b
  all_goals repeat'(first|(refine J _ _ .su rfl ?_)|refine pg ?_|refine af ?_|refine ad ?_|refine ah ?_|(refine ak ?_;intro hl)|(refine ai ?_;intro b)|(refine aw ?_ ?_<;>intro hc<;>try first|contradiction|omega)|refine aj ?_|refine bA ?_|refine aA ?_|refine au ?_|(refine ae (aa (cJ (fun hc=>?_) fun hc=>?_)))|refine pc ?_|refine pt ?_|refine pb ?_)
  all_goals(clear J;simp at hcl;unfold zC;first|(simp only[show hasB x.op 100=true by assumption];simp;omega)|(simp only[show hasB x.op 100=false by assumption];simp))
 cases b
 rotate_left
 ·repeat'(first|refine pg ?_|refine af ?_|refine ad ?_|refine ah ?_|(refine ak ?_;intro hl)|(refine ai ?_;intro b)|(refine aw ?_ ?_<;>intro hc<;>try first|contradiction|omega)|refine aj ?_|refine bA ?_|refine aA ?_|refine au ?_|refine pc ?_|refine pt ?_|refine pb ?_)
  exact E1 (kf fun q=>hds.1 rfl q.1)
 have hds':zC f.vars.length x:=Classical.byContradiction fun q=>by cases hds.2 q
 repeat'(first|refine pg ?_|refine af ?_|refine ad ?_|refine ah ?_|(refine ak ?_;intro hl)|(refine ai ?_;intro b)|(refine aw ?_ ?_<;>intro hc<;>try first|contradiction|omega)|refine aj ?_|refine bA ?_|refine aA ?_|refine au ?_|refine ae (aa (Ej ha ?_))|refine pc ?_|refine pt ?_|refine pb ?_)
 refine aD (fun j:Nat=>[(2,.ptr 2 _ 0),(3,.ptr 3 _ 0),(5,.int .i64 (f.vars.length:Nat)),(7,pL 1 pI (iK x)),(8,.int .i64 j)]) (fun _=>[(2,some _,.cells (eN f)),(3,some _,.cells (dh x))]) (fun j=>j<=(iK x).length/\ ∀i,i<j->0<=el (iK x) i/\el (iK x) i<f.vars.length) (fun j=>(iK x).length-j) 0 ⟨Nat.zero_le _,gY⟩ .su .su ?_
 rintro j ⟨hj,hb⟩
 by_cases hlt:j<(iK x).length
 ·repeat'(first|refine pg ?_|refine af ?_|refine ad ?_|refine ah ?_|(refine ak ?_;intro hl)|(refine ai ?_;intro b)|(refine aw ?_ ?_<;>intro hc<;>try first|contradiction|omega)|refine aj ?_|refine bA ?_|refine aA ?_|refine au ?_|refine pc ?_|refine pt ?_|refine pb ?_)
  ·exact E1 (kf fun q=>by have:=q.2.1 _ (ba hlt);omega)
  ·exact E1 (kf fun q=>by have:=q.2.1 _ (ba hlt);omega)
  ·refine⟨j+1,by dsimp only;omega,⟨om,fun i hi=>?_⟩,.su,.su⟩
   by_cases q:i=j
   ·subst q;constructor<;>omega
   ·exact hb i om
 ·repeat'(first|refine pg ?_|refine af ?_|refine ad ?_|refine ah ?_|(refine ak ?_;intro hl)|(refine ai ?_;intro b)|(refine aw ?_ ?_<;>intro hc<;>try first|contradiction|omega)|refine aj ?_|refine bA ?_|refine aA ?_|refine au ?_|(refine ae (aa (cJ (fun hc=>?_) fun hc=>?_)))|refine pc ?_|refine pt ?_|refine pb ?_)
  all_goals have hU: ∀v∈iK x,0<=v/\v<f.vars.length:=fun v hv=>by obtain⟨i,hi,e⟩:=cm hv;rw[<-e];exact hb i om
  all_goals first
   |exact E1 (kt ⟨hds',hU,fun hq=>by first|exact absurd hq (ff am)|(constructor<;>omega),by first|exact Or.inl am|exact Or.inr ⟨am,am,am⟩⟩)
   |exact E1 (kf fun q=>by have q3:=q.2.2.1 am;omega)
   |exact E1 (kf fun q=>q.2.2.2.elim am fun z=>by first|exact absurd z.1 am|exact absurd z.2.1 am|exact absurd z.2.2 am)
def xZ (o:Int):Prop:=o=12\/o=13\/o=14
def B2 (f:bU)(i:Nat):Prop:=(¬xZ (el f.code i).op/\(((i:Nat):Int)+1=f.code.length\/(el f.code (((i:Nat):Int)+1).toNat).op=15))\/(hasB (el f.code i).op 103=true/\(el f.code (el f.code i).goto.toNat).op=15)\/(((i:Nat):Int)=0/\(el f.code i).op=15)
theorem zF {f:bU}{i:Nat}{K:PV->Prop}(hn:f.code.length<=9223372036854775807)(hi:i<f.code.length)(hg:J5 f.code.length (el f.code i))(kt:B2 f i->K (.bool true))(kf: ¬B2 f i->K (.bool false)):PF Tryz.prog X0 Mx 240 [.agg (eN f),.int .i64 (i:Nat)] K:=by
 refine Pf zG fun hnt=>?_
 repeat'(first|refine pg ?_|refine af ?_|refine ad ?_|refine ah ?_|(refine ak ?_;intro hl)|(refine ai ?_;intro b)|refine aj ?_|refine bA ?_|refine aA ?_|refine ay ?_|refine aI ?_|refine pc ?_|refine pt ?_)
 refine tF 10 24 (xZ (el f.code i).op) (fun b hen=>?_) (fun J=>?_)
 rotate_left
 ·repeat'(first|(refine J _ _ .su rfl ?_)|refine pg ?_|refine af ?_|refine ad ?_|refine ah ?_|(refine ak ?_;intro hl)|(refine ai ?_;intro b)|(refine aw ?_ ?_<;>intro hc<;>try first|contradiction|omega)|refine aj ?_|refine bA ?_|refine aA ?_|refine ay ?_|refine pc ?_|refine pt ?_)
  all_goals(unfold xZ;simp;omega)
 cases b
 all_goals repeat'(first|refine pg ?_|refine af ?_|refine ad ?_|refine ah ?_|(refine ak ?_;intro hl)|(refine ai ?_;intro b)|(refine aw ?_ ?_<;>intro hc<;>try first|contradiction|omega)|refine aj ?_|refine bA ?_|refine aA ?_|refine ay ?_|(refine ae (aa (cJ (fun hc=>(fun hg2=>?_) (hg hc)) fun hc=>?_)))|refine pc ?_|refine pt ?_)
 all_goals first
  |exact E1 (kt (by first|exact Or.inl ⟨fun q=>(by cases hen.2 q),by first|exact Or.inl am|exact Or.inr am⟩|exact Or.inr (Or.inl ⟨am,am⟩)|exact Or.inr (Or.inr ⟨am,am⟩)))
  |exact E1 (kf (by rintro(⟨q1,q2⟩|⟨q1,q2⟩|⟨q1,q2⟩)<;>first|exact q1 (hen.1 rfl)|exact q2.elim am am|exact absurd q1 (ff am)|exact absurd q1 am|exact absurd q2 am))
def vt (f:bU)(v:Int):List Nat:=(el f.vars v.toNat).wZ
theorem El {f:bU}{x:bF}(hr:jR f x)(h:hasB x.op 97=true)(h2:x.op≠13\/x.a≠ -1):0<=x.a/\x.a<f.vars.length:=hr.2.1 _ (by unfold iK;rw[if_pos ⟨h,h2⟩];simp)
theorem J6 {f:bU}{x:bF}(hr:jR f x)(h:hasB x.op 98=true):0<=x.b/\x.b<f.vars.length:=hr.2.1 _ (by unfold iK;rw[if_pos h];simp)
theorem P7 {f:bU}{x:bF}(hr:jR f x)(h:hasB x.op 108=true){i:Nat}(hi:i<x.args.length):0<=el x.args i/\el x.args i<f.vars.length:=hr.2.1 _ (by unfold iK;rw[if_pos h];simp[ba hi])
theorem J7 {f:bU}{x:bF}(hr:jR f x)(h:hasB x.op 100=true)(h9:x.op≠9)(h10:x.op≠10):0<=x.dst/\x.dst<f.vars.length:=(hr.1 h).elim id fun q=>by omega
def pk (cl:List aN)(c m:List Nat)(s:bZ):Prop:=bE cl c m=some (c,s)/\s.static=true
noncomputable def HJ (cl:List aN)(f:bU)(x:bF):Int:=if ¬vt f x.a∈bH cl then 8 else match fF cl (vt f x.a) x.name with
 |none=>6
 |some (_,d)=>if(x.op=7/\ ¬pj cl d.wZ (vt f x.dst))\/(x.op=8/\ ¬pj cl (vt f x.b) d.wZ)then 8 else 0
theorem uT {cl:List aN}{c m:List Nat}{K:PV->Prop}(cg:cl.length<=64)(kt: ∀s,pk cl c m s->K (.bn [.agg (cb s),.bool true]))(kf: ∀s,(¬ ∃s,pk cl c m s)->K (.bn [.agg (cb s),.bool false])):PF Tryz.prog X0 Mx 299 [.agg (aY cl),.str c,.str m] K:=by
 refine Pf uU fun hnt=>?_
 repeat'(first|refine Qc ?_|(refine Ba ?_ ?_<;>try exact Za)|refine ai ?_|refine au ?_|refine ay ?_|(refine ae (aa (il cg (fun c1 s hL=>?_) fun hL=>?_)))|refine aI ?_|intro hc)
 ·refine zd [(9,some _,.cells (cb s))] [(1,.str c),(6,.ptr 6 _ 0),(8,.str _),(9,.fp (cb s) 0),(10,.bool _)] [(6,some _,.cells [.str [],.bool false,.aE,.str []])] (.cons rfl .nil) (.c (.c (.c (.cons rfl (.ptr _ _ _ _ _ rfl (.refl _)) (.c .nil))))) (.cons rfl rfl (.refl _) .nil) ?_
  repeat'(first|refine Qc ?_|(refine Ba ?_ ?_<;>try exact Za)|refine ai ?_|refine au ?_|refine ay ?_|refine aX ?_|refine pd ?_|refine aI ?_|refine AL ?_|intro hc)
  ·obtain rfl:c1=c:=by assumption
   have hs:s.static=true:=by assumption
   have k2:=kt s ⟨hL,hs⟩
   exact⟨Or.inr rfl,⟨rfl,⟨trivial,trivial⟩⟩,_,_,rfl,(.refl _),k2⟩
  ·have k2:=kf s (fun⟨t,h1,h2⟩=>by rw[hL]at h1;cases h1;exact absurd h2 (ff am))
   exact⟨Or.inr rfl,⟨rfl,⟨trivial,trivial⟩⟩,_,_,rfl,(.refl _),k2⟩
  ·have k2:=kf s (fun⟨t,h1,h2⟩=>by rw[hL]at h1;cases h1;exact absurd rfl am)
   exact⟨Or.inr rfl,⟨rfl,⟨trivial,trivial⟩⟩,_,_,rfl,(.refl _),k2⟩
 ·refine zd [(9,some _,.cells (cb default))] [(1,.str c),(6,.ptr 6 _ 0),(8,.str _),(9,.fp (cb default) 0),(10,.bool _)] [(6,some _,.cells [.str [],.bool false,.aE,.str []])] (.cons rfl .nil) (.c (.c (.c (.cons rfl (.ptr _ _ _ _ _ rfl (.refl _)) (.c .nil))))) (.cons rfl rfl (.refl _) .nil) ?_
  repeat'(first|refine Qc ?_|(refine Ba ?_ ?_<;>try exact Za)|refine ai ?_|refine au ?_|refine ay ?_|refine aX ?_|refine pd ?_|refine aI ?_|refine AL ?_|intro hc)
  have k2:=kf default (fun⟨t,h1,h2⟩=>by rw[hL]at h1;cases h1)
  exact⟨Or.inr rfl,⟨rfl,⟨trivial,trivial⟩⟩,_,_,rfl,(.refl _),k2⟩
theorem zH {cl:List aN}{f:bU}{x:bF}{K:PV->Prop}(cg:cl.length<=64)(hr:jR f x)(hop:x.op=7\/x.op=8)(k:K (.int .i64 (HJ cl f x))):PF Tryz.prog X0 Mx 276 [.agg (aY cl),.agg (eN f),.agg (dh x)] K:=by
 refine Pf zI fun hnt=>?_
 have qa:=El hr (by rcases hop with q|q<;>rw[q]<;>decide) om
 have qd:x.op=7->0<=x.dst/\x.dst<f.vars.length:=fun q=>J7 hr (by rw[q];decide) om om
 have qb:x.op=8->0<=x.b/\x.b<f.vars.length:=fun q=>J6 hr (by rw[q];decide)
 repeat'(first|refine Qb ?_|(refine ai ?_;intro b)|(refine Ba ?_ ?_<;>intro hc<;>try exact Zb)|refine aX ?_|refine pd ?_|(refine ae (aa (gE (fun hc=>?_) fun hc=>?_)))|(refine ae (aa (sq cg (fun c d hF=>?_) fun hF=>?_)))|(refine ix (aR (iJ cg (fun hc=>?_) fun hc=>?_))))
 all_goals unfold HJ vt at k
 all_goals first
  |rw[if_pos (by assumption)]at k
  |rw[if_neg (not_not.2 (by assumption)),hF]at k
 all_goals try dsimp only at k
 all_goals try first
  |rw[if_pos (Or.inl ⟨by assumption,by assumption⟩)]at k
  |rw[if_pos (Or.inr ⟨by assumption,by assumption⟩)]at k
  |rw[if_neg (by rintro(⟨q1,q2⟩|⟨q1,q2⟩)<;>first|exact absurd q1 (by assumption)|exact q2 (by assumption))]at k
 all_goals exact E1 k
def HK (cl:List aN)(x:bF)(s:bZ):Prop:=(x.op=9/\ ∃c,bE cl x.cls x.name=some (c,s)/\s.static=false)\/(x.op=10/\pk cl x.cls x.name s)
noncomputable def uE (cl:List aN)(f:bU)(x:bF)(s:bZ):Int:=if s.params.length≠x.args.length then 9 else if ∃i,i<x.args.length/\ ¬pj cl (vt f (el x.args i)) (el s.params i)then 8 else if x.dst≠ -1/\(s.result=[]\/ ¬pj cl s.result (vt f x.dst))then 8 else 0
noncomputable def qP (cl:List aN)(f:bU)(x:bF):Int:=if x.op=9/\ ¬(vt f x.a∈bH cl/\vt f x.a=x.cls)then 8 else if h: ∃s,HK cl x s then uE cl f x h.choose else 6
theorem J8 {cl:List aN}{x:bF}{s t:bZ}(h1:HK cl x s)(h2:HK cl x t):s=t:=by
 rcases h1 with⟨a,c,b,_⟩|⟨a,b,_⟩<;>rcases h2 with⟨a',c',b',_⟩|⟨a',b',_⟩
 ·rw[b]at b';cases b';rfl
 ·omega
 ·omega
 ·rw[b]at b';cases b';rfl
theorem uV {cl:List aN}{f:bU}{x:bF}{s:bZ}(h1: ¬(x.op=9/\ ¬(vt f x.a∈bH cl/\vt f x.a=x.cls)))(h:HK cl x s):qP cl f x=uE cl f x s:=by
 have h2: ∃s,HK cl x s:=⟨s,h⟩
 unfold qP
 rw[if_neg h1,dif_pos h2,J8 h2.choose_spec h]
theorem tM {cl:List aN}{f:bU}{x:bF}(h1: ¬(x.op=9/\ ¬(vt f x.a∈bH cl/\vt f x.a=x.cls)))(h: ¬ ∃s,HK cl x s):qP cl f x=6:=by
 unfold qP
 rw[if_neg h1,dif_neg h]
theorem tc {cl:List aN}{f:bU}{x:bF}{K:PV->Prop}(cg:cl.length<=64)(hr:jR f x)(hop:x.op=9\/x.op=10)(k:K (.int .i64 (qP cl f x))):PF Tryz.prog X0 Mx 277 [.agg (aY cl),.agg (eN f),.agg (dh x)] K:=by
 refine Pf td fun hnt=>?_
 have qa:x.op=9->0<=x.a/\x.a<f.vars.length:=fun q=>El hr (by rw[q];decide) om
 have ql: ∀i,i<x.args.length->0<=el x.args i/\el x.args i<f.vars.length:=fun i hi=>P7 hr (by rcases hop with q|q<;>rw[q]<;>decide) hi
 have qd:=hr.1 (by rcases hop with q|q<;>rw[q]<;>decide)
 repeat'(first|refine Qc ?_|(refine Ba ?_ ?_<;>try exact Za)|refine ad ?_|refine ah ?_|refine ak ?_|refine ai ?_|refine au ?_|refine aX ?_|refine pd ?_|refine aI ?_|(refine ae (aa (gE (fun hc=>?_) fun hc=>?_)))|(refine ae (aa (il cg (fun c s hL=>?_) fun hL=>?_)))|(refine ae (aa (uT cg (fun s hD=>?_) fun s hD=>?_)))|refine pb ?_|intro hc)
 case refine_1.refine_1.refine_2=>unfold qP vt at k;rw[if_pos ⟨by assumption,fun q=>absurd q.2 (by assumption)⟩]at k;exact E1 k
 case refine_1.refine_2=>unfold qP vt at k;rw[if_pos ⟨by assumption,fun q=>absurd q.1 (by assumption)⟩]at k;exact E1 k
 case refine_2.refine_2=>rw[tM (fun q=>absurd q.1 (by assumption)) (fun⟨t,q⟩=>q.elim (fun q=>absurd q.1 (by assumption)) fun q=>hD ⟨t,q.2⟩)]at k;exact E1 k
 case refine_1.refine_1.refine_1.refine_1.refine_1=>
  have e9:x.op=9:=by assumption
  have ec:(el f.vars x.a.toNat).wZ=x.cls:=by assumption
  rw[ec]at hL
  rw[tM (fun q=>q.2 ⟨by assumption,ec⟩) (fun⟨t,q⟩=>by rcases q with⟨_,c',q,q2⟩|⟨q,_⟩;(rw[hL]at q;cases q;simp_all);omega)]at k;exact E1 k
 case refine_1.refine_1.refine_1.refine_2=>
  have e9:x.op=9:=by assumption
  have ec:(el f.vars x.a.toNat).wZ=x.cls:=by assumption
  rw[ec]at hL
  rw[tM (fun q=>q.2 ⟨by assumption,ec⟩) (fun⟨t,q⟩=>by rcases q with⟨_,c',q,q2⟩|⟨q,_⟩;(rw[hL]at q;cases q);omega)]at k;exact E1 k
 all_goals
  have hS:qP cl f x=uE cl f x s:=by
   by_cases e9:x.op=9
   ·first
      |exact absurd e9 am
      |(have ec:(el f.vars x.a.toNat).wZ=x.cls:=by assumption
        exact uV (fun q=>q.2 ⟨am,ec⟩) (Or.inl ⟨e9,_,by rw[<-ec];assumption,am⟩))
   ·first
      |exact absurd am e9
      |exact uV (fun q=>e9 q.1) (Or.inr ⟨om,am⟩)
 all_goals rw[hS]at k
 all_goals unfold uE at k
 all_goals first
  |(rw[if_pos (by omega)]at k;exact E1 k)
  |rw[if_neg (by omega)]at k
 all_goals
  refine aD (fun j:Nat=>[(3,.ptr 3 _ 0),(4,.ptr 4 _ 0),(5,.ptr 5 _ 0),(7,.ptr 7 _ 0),(10,.int .i64 j)]) (fun _=>[(3,some _,.cells (aY cl)),(4,some _,.cells (eN f)),(5,some _,.cells (dh x)),(7,some _,.cells (cb s))]) (fun j=>j<=x.args.length/\ ∀i,i<j->pj cl (vt f (el x.args i)) (el s.params i)) (fun j=>x.args.length-j) 0 ⟨Nat.zero_le _,gY⟩ .su .su ?_
  rintro j ⟨hj,hb⟩
  have qj:=ql j
  repeat'(first|refine Qc ?_|(refine Ba ?_ ?_<;>try exact Za)|refine ad ?_|refine ah ?_|refine ak ?_|refine ai ?_|refine au ?_|refine aX ?_|refine pd ?_|refine aI ?_|(refine ix (aR (iJ cg (fun hc=>?_) fun hc=>?_)))|refine pb ?_|intro hc)
 all_goals first
  |(refine⟨j+1,by dsimp only;omega,⟨om,fun i hi=>?_⟩,.su,.su⟩;by_cases q:i=j;(subst q;assumption);(exact hb i om))
  |(rw[if_pos ⟨j,by omega,by assumption⟩]at k;exact E1 k)
  |rw[if_neg (fun⟨i,hi,q⟩=>q (hb i (by omega)))]at k
 all_goals first
  |(rw[if_pos ⟨by assumption,Or.inl (by assumption)⟩]at k;exact E1 k)
  |(rw[if_pos ⟨by assumption,Or.inr (by assumption)⟩]at k;exact E1 k)
  |(rw[if_neg (fun q=>q.1 (by assumption))]at k;exact E1 k)
  |(rw[if_neg (fun q=>q.2.elim (by assumption) fun w=>w (by assumption))]at k;exact E1 k)
theorem Sw {f:bU}{x:bF}(hr:jR f x)(h:hasB x.op 97=true):x.a= -1\/(0<=x.a/\x.a<f.vars.length):=by
 by_cases q:x.a= -1
 ·exact Or.inl q
 ·exact Or.inr (El hr h (Or.inr q))
def lK (cl:List aN)(f:bU)(x:bF):Prop:=(x.op=1\/x.op=5->vt f x.dst=iq)/\(x.op=2->vt f x.dst≠iq)/\(x.op=3->pj cl (vt f x.a) (vt f x.dst))/\(x.op=16->vt f x.a=iq/\vt f x.dst=iq)/\(x.op=11->vt f x.a=iq)/\(x.op=14->vt f x.a≠iq)/\(x.op=4->vt f x.dst=iq/\((vt f x.a=iq/\vt f x.b=iq)\/(x.n=5/\vt f x.a≠iq/\vt f x.b≠iq)))/\(x.op=13->x.a= -1\/pj cl (vt f x.a) f.result)
theorem Em {cl:List aN}{f:bU}{x:bF}{K:PV->Prop}(cg:cl.length<=64)(hr:jR f x)(hop:x.op=0\/x.op=1\/x.op=2\/x.op=3\/x.op=4\/x.op=5\/x.op=11\/x.op=12\/x.op=13\/x.op=14\/x.op=16)(kt:lK cl f x->K (.bool true))(kf: ¬lK cl f x->K (.bool false)):PF Tryz.prog X0 Mx 278 [.agg (aY cl),.agg (eN f),.agg (dh x)] K:=by
 refine Pf Eo fun hnt=>?_
 rcases hop with ho|ho|ho|ho|ho|ho|ho|ho|ho|ho|ho
 all_goals repeat'(first|refine Qa ?_|(refine Ba ?_ ?_<;>try exact Za)|(refine ae (aa (cJ (fun hc=>?_) fun hc=>?_))<;>first|exact absurd hc (by rw[ho];decide)|(have q1:=J7 hr hc om om)|(have q1:=El hr hc om)|(have q1:=Sw hr hc)|(have q1:=J6 hr hc)|skip)|(refine ae (aa (iJ cg (fun hc=>?_) fun hc=>?_)))|intro hc)
 all_goals first
  |exact E1 (kt (by unfold lK vt;refine⟨fun q=>?_,fun q=>?_,fun q=>?_,fun q=>?_,fun q=>?_,fun q=>?_,fun q=>?_,fun q=>?_⟩<;>first|(exfalso;omega)|assumption|exact⟨am,am⟩|exact⟨am,Or.inl ⟨am,am⟩⟩|exact⟨am,Or.inr ⟨am,am,am⟩⟩|exact Or.inl am|exact Or.inr am))
  |exact E1 (kf fun q=>by unfold lK vt at q;obtain⟨q1,q2,q3,q4,q5,q6,q7,q8⟩:=q;first|exact absurd (q1 om) am|exact q2 om am|exact absurd (q3 om) am|exact absurd (q4 om).1 am|exact absurd (q4 om).2 am|exact absurd (q5 om) am|exact q6 om am|exact absurd (q7 om).1 am|exact(q7 om).2.elim (fun w=>by first|exact absurd w.1 am|exact absurd w.2 am) (fun w=>by first|exact absurd w.1 am|exact w.2.1 am|exact w.2.2 am)|exact(q8 om).elim am am)
noncomputable def nS (cl:List aN)(f:bU)(x:bF):Int:=if x.op=6\/x.op=15 then(if ¬x.cls∈bH cl then 6 else if ¬pj cl x.cls (vt f x.dst)then 8 else 0)else if x.op=7\/x.op=8 then HJ cl f x else if x.op=9\/x.op=10 then qP cl f x else if x.op=13/\ ¬(x.a= -1↔f.result=[])then 9 else if lK cl f x then 0 else 8
noncomputable def nR (cl:List aN)(f:bU)(i:Nat):Int:=if ¬(0<=(el f.code i).op/\(el f.code i).op<17)\/((el f.code i).op=4/\((el f.code i).n<1\/5<(el f.code i).n))then 12 else if ¬DO (el f.code i)then 1 else if ¬jR f (el f.code i)then 4 else if B2 f i then 1 else nS cl f (el f.code i)
theorem B3 {cl:List aN}{f:bU}{x:bF}{K:PV->Prop}(cg:cl.length<=64)(hr:jR f x)(hk:0<=x.op/\x.op<17)(k:K (.int .i64 (nS cl f x))):PF Tryz.prog X0 Mx 241 [.agg (aY cl),.agg (eN f),.agg (dh x)] K:=by
 refine Pf B4 fun hnt=>?_
 have qd:x.op=6\/x.op=15->0<=x.dst/\x.dst<f.vars.length:=fun q=>J7 hr (by rcases q with q|q<;>rw[q]<;>decide) om om
 repeat'(first|refine Qa ?_|(refine Ba ?_ ?_<;>try exact Za)|(refine ae (aa (gE (fun hc=>?_) fun hc=>?_)))|(refine ix (aR (iJ cg (fun hc=>?_) fun hc=>?_)))|(refine ae (aa (iJ cg (fun hc=>?_) fun hc=>?_)))|refine ae (aa (zH cg hr om ?_))|refine ae (aa (tc cg hr om ?_))|(refine ae (aa (Em cg hr om (fun hc=>?_) fun hc=>?_)))|intro hc)
 all_goals unfold nS vt at k
 all_goals replace k:=Ik k
 all_goals try first
  |rw[if_neg (fun q=>absurd q.1 (by assumption))]at k
  |rw[if_neg (fun q=>q.2 ⟨fun _=>by assumption,fun _=>by assumption⟩)]at k
  |rw[if_neg (fun q=>q.2 ⟨fun w=>absurd w (by assumption),fun w=>absurd w (by assumption)⟩)]at k
  |rw[if_pos ⟨by assumption,fun q=>(by assumption: ¬f.result=[]) (q.1 (by assumption))⟩]at k
  |rw[if_pos ⟨by assumption,fun q=>(by assumption: ¬x.a= -1) (q.2 (by assumption))⟩]at k
 all_goals replace k:=Ik k
 all_goals exact E1 k
theorem B5 {cl:List aN}{f:bU}{i:Nat}{K:PV->Prop}(cg:cl.length<=64)(hn:f.code.length<=9223372036854775807)(hi:i<f.code.length)(ha:(el f.code i).args.length<=iC)(k:K (.int .i64 (nR cl f i))):PF Tryz.prog X0 Mx 168 [.agg (aY cl),.agg (eN f),.int .i64 (i:Nat)] K:=by
 refine Pf B6 fun hnt=>?_
 repeat'(first|refine Qa ?_|(refine Ba ?_ ?_<;>try exact Za)|(refine ae (aa (nU ?_)))|(refine ae (aa (zA (fun hc=>?_) fun hc=>?_)))|(refine ae (aa (zD ha (fun hc=>?_) fun hc=>?_)))|intro hc)
 all_goals try(have hr:jR f (el f.code i):=by assumption)
 case refine_1=>
  have hk:=iA.1 am
  unfold nR at k;rw[if_pos (Or.inl hk)]at k;exact E1 k
 all_goals have hk:0<=(el f.code i).op/\(el f.code i).op<17:=Classical.not_not.1 (mt iA.2 am)
 all_goals try repeat'(first|refine Qa ?_|(refine Ba ?_ ?_<;>try exact Za)|(refine ae (aa (zF hn hi hr.2.2.1 (fun hc=>?_) fun hc=>?_)))|refine ae (aa (B3 cg hr hk ?_))|intro hc)
 all_goals unfold nR at k
 all_goals first
  |(rw[if_pos (Or.inr (by omega))]at k;exact E1 k)
  |rw[if_neg (by omega)]at k
 all_goals replace k:=Ik k
 all_goals exact E1 k
theorem M5 {P:Program}{X:cj}{M:Mf}{nt:Nat}{G:aK}{S:aJ}(k slot:Nat)(Pr:Prop){ops:List SR}{Q:aK->aJ->Prop}(h2: ∀b,(b=true↔Pr)->PG P X M nt (ops.drop k) ((slot,.bool b)::G) S Q)(h1:(∀G' b,je G' G->fh G' slot=some (.bool b)->(b=true↔Pr)->PG P X M nt (ops.drop k) G' S Q)->PG P X M nt ops G S Q):PG P X M nt ops G S Q:=
 h1 fun _ b hs hl hp=>Ep (.cons hl (.refl _) hs) (h2 b hp)
def FP:List Nat:=[116,104,105,115]
def po (f:bU)(i:Nat):Prop:=(i:Int)=0/\f.static=false/\(el f.vars i).name=FP
noncomputable def jS (cl:List aN)(f:bU)(i:Nat):Int:=if ¬po f i/\ ¬kp (el f.vars i).name then 5 else if(el f.vars i).wZ≠ph/\ ¬uR cl (el f.vars i).wZ then 8 else 0
theorem B7 {cl:List aN}{f:bU}{K:PV->Prop}(k:K (.int .i64 (bO (jS cl f) f.vars.length))):PF Tryz.prog X0 Mx 167 [.agg (aY cl),.agg (eN f)] K:=by
 refine Pf B8 fun hnt=>?_
 repeat'(first|refine pg ?_|refine af ?_|(refine aG ?_ ?_<;>intro hc<;>try contradiction)|refine ad ?_|refine ah ?_|(refine ak ?_;intro hl)|(refine ai ?_;intro b)|(refine aw ?_ ?_<;>intro hc<;>try first|contradiction|omega)|refine aj ?_|refine aA ?_|refine au ?_|refine pc ?_|refine pt ?_|refine pb ?_)
 refine aD (fun j:Nat=>[(2,.ptr 2 _ 0),(3,.ptr 3 _ 0),(5,.int .i64 j)]) (fun _=>[(2,some _,.cells (aY cl)),(3,some _,.cells (eN f))]) (fun j=>j<=f.vars.length/\ ∀i,i<j->jS cl f i=0) (fun j=>f.vars.length-j) 0 ⟨Nat.zero_le _,gY⟩ .su .su ?_
 rintro j ⟨hj,hb⟩
 repeat'(first|refine pg ?_|refine af ?_|(refine aG ?_ ?_<;>intro hc<;>try contradiction)|refine ad ?_|refine ah ?_|(refine ak ?_;intro hl)|(refine ai ?_;intro b)|refine aj ?_|refine aA ?_|refine au ?_|refine pc ?_|refine pt ?_|refine pb ?_)
 refine aw ?_ ?_<;>intro hc
 rotate_left
 ·repeat'(first|refine pg ?_|refine af ?_|(refine aG ?_ ?_<;>intro hc<;>try contradiction)|refine ad ?_|refine ah ?_|(refine ak ?_;intro hl)|(refine ai ?_;intro b)|(refine aw ?_ ?_<;>intro hc<;>try first|contradiction|omega)|refine aj ?_|refine aA ?_|refine au ?_|refine pc ?_|refine pt ?_|refine pb ?_)
  rw[bL fun x hx=>hb x (by omega)]at k
  exact E1 k
 repeat'(first|refine pg ?_|refine af ?_|(refine aG ?_ ?_<;>intro hc<;>try contradiction)|refine ad ?_|refine ah ?_|(refine ak ?_;intro hl)|(refine ai ?_;intro b)|refine aj ?_|refine aA ?_|refine au ?_|refine aX ?_|refine pd ?_|refine fy.mk rfl ?_|refine pc ?_|refine pt ?_|refine pb ?_)
 refine tF 9 38 (po f j) (fun b hth=>?_) (fun J=>?_)
 rotate_left
 ·repeat'(first|(refine J _ _ .su rfl ?_)|refine pg ?_|refine af ?_|(refine aG ?_ ?_<;>intro hc<;>try contradiction)|refine ad ?_|refine ah ?_|(refine ak ?_;intro hl)|(refine ai ?_;intro b)|(refine aw ?_ ?_<;>intro hc<;>try first|contradiction|omega)|refine aj ?_|refine aA ?_|refine au ?_|refine pc ?_|refine pt ?_|refine pb ?_)
  all_goals(clear J;unfold po FP;first|(simp[*];done)|(simp[*];intro h;omega))
 repeat'(first|refine pg ?_|refine af ?_|(refine aG ?_ ?_<;>intro hc<;>try contradiction)|refine ad ?_|refine ah ?_|(refine ak ?_;intro hl)|(refine ai ?_;intro b)|(refine aw ?_ ?_<;>intro hc<;>try first|contradiction|omega)|refine aj ?_|refine aA ?_|refine au ?_|refine pc ?_|refine pt ?_|refine pb ?_)
 refine M5 25 66 (¬po f j/\ ¬kp (el f.vars j).name) (fun b hnm=>?_) (fun J=>?_)
 rotate_left
 ·cases b
  all_goals repeat'(first|(refine J _ _ .su rfl ?_)|refine pg ?_|refine af ?_|(refine aG ?_ ?_<;>intro hc<;>try contradiction)|refine ad ?_|refine ah ?_|(refine ak ?_;intro hl)|(refine ai ?_;intro b)|(refine aw ?_ ?_<;>intro hc<;>try first|contradiction|omega)|refine aj ?_|refine aA ?_|refine au ?_|(refine ae (aa (fb (fun hc=>?_) fun hc=>?_)))|refine B9 ?_|(refine ae (aa (xc ?_ (fun hc=>?_) fun hc=>?_)))|(refine qW ?_ rfl rfl rfl om om om)|refine pc ?_|refine pt ?_|refine pb ?_)
  all_goals clear J
  all_goals try simp only[FO]at*
  all_goals first
   |(simp;omega)
   |(have hT: ¬po f j:=(fun q=>by cases hth.2 q)
     first
      |(have hv:kp (el f.vars j).name:=by first|exact Or.inr am|exact Or.inl ⟨om,om,om,am⟩
        simp[hT,hv])
      |(have hv: ¬kp (el f.vars j).name:=fun q=>q.elim (fun w=>by first|omega|exact absurd w.2.2.2 am|(have:=w.2.2.1;omega)|(have:=w.2.2.2.2;rw[List.length_drop]at this;omega)) am
        simp[hT,hv]))
   |(simp_all;done)
 cases b
 rotate_left
 ·repeat'(first|refine pg ?_|refine af ?_|(refine aG ?_ ?_<;>intro hc<;>try contradiction)|refine ad ?_|refine ah ?_|(refine ak ?_;intro hl)|(refine ai ?_;intro b)|(refine aw ?_ ?_<;>intro hc<;>try first|contradiction|omega)|refine aj ?_|refine aA ?_|refine au ?_|refine pc ?_|refine pt ?_|refine pb ?_)
  have e:jS cl f j=5:=by unfold jS;rw[if_pos (hnm.1 rfl)]
  rw[aW (by omega) hb e (by decide)]at k
  exact E1 k
 have hnn: ¬(¬po f j/\ ¬kp (el f.vars j).name):=fun q=>by cases hnm.2 q
 repeat'(first|refine pg ?_|refine af ?_|(refine aG ?_ ?_<;>intro hc<;>try contradiction)|refine ad ?_|refine ah ?_|(refine ak ?_;intro hl)|(refine ai ?_;intro b)|(refine aw ?_ ?_<;>intro hc<;>try first|contradiction|omega)|refine aj ?_|refine aA ?_|refine au ?_|(refine ae (aa (iH (fun hc=>?_) fun hc=>?_)))|refine pc ?_|refine pt ?_|refine pb ?_)
 ·refine⟨j+1,by dsimp only;omega,⟨om,fun i hi=>?_⟩,.su,.su⟩
  by_cases q:i=j
  ·subst q;unfold jS;rw[if_neg hnn,if_neg fun q=>q.1 hc]
  ·exact hb i om
 ·refine⟨j+1,by dsimp only;omega,⟨om,fun i hi=>?_⟩,.su,.su⟩
  by_cases q:i=j
  ·subst q;unfold jS;rw[if_neg hnn,if_neg fun q=>q.2 hc]
  ·exact hb i om
 ·have e:jS cl f j=8:=by unfold jS;rw[if_neg hnn,if_pos ⟨by assumption,hc⟩]
  rw[aW (by omega) hb e (by decide)]at k
  exact E1 k
def pn (s:bZ):Int:=(s.params.length:Int)+(if s.static=true then 0 else 1)
def pq (f:bU)(c:List Nat)(s:bZ):Prop:=f.cls=c/\f.name=s.name/\f.static=s.static/\f.result=s.result/\f.params=pn s/\pn s<=f.vars.length/\(s.static=false->(el f.vars 0).name=FP/\(el f.vars 0).wZ=c)/\ ∀i:Nat,i<s.params.length->(el f.vars (pn s-s.params.length+i).toNat).wZ=el s.params i
theorem Er {f:bU}{c:List Nat}{s:bZ}{K:PV->Prop}(h6:s.params.length<=6)(kt:pq f c s->K (.bool true))(kf: ¬pq f c s->K (.bool false)):PF Tryz.prog X0 Mx 166 [.agg (eN f),.str c,.agg (cb s)] K:=by
 refine Pf Es fun hnt=>?_
 have hp:pn s=(s.params.length:Int)+(if s.static=true then 0 else 1):=rfl
 cases hs:s.static
 all_goals rw[hs]at hp
 all_goals simp at hp
 all_goals repeat'(first|refine Qc ?_|(refine aG ?_ ?_<;>intro hc<;>try first|contradiction|(exfalso;rw[hs]at hc;cases hc;done))|refine ad ?_|refine ah ?_|refine ak ?_|refine ai ?_|(refine Ba ?_ ?_<;>try exact Za)|refine pb ?_|intro hc)
 all_goals try(exact E1 (kf fun⟨q1,q2,q3,q4,q5,q6,q7,q8⟩=>by first|exact absurd q1 am|exact absurd q2 am|(rw[hs,(by assumption:f.static=true)]at q3;cases q3;done)|(rw[hs,(by assumption:f.static=false)]at q3;cases q3;done)|exact absurd q4 am|(rw[hp]at q5;exact absurd q5 am)|(rw[hp]at q6;omega)|exact absurd (q7 hs).1 am|exact absurd (q7 hs).2 am))
 all_goals have hff:f.static=s.static:=by rw[hs];assumption
 ·refine aD (fun j:Nat=>[(1,.str c),(3,.ptr 3 _ 0),(5,.ptr 5 _ 0),(7,.int .i64 ((s.params.length:Int)+1)),(8,.int .i64 j)]) (fun _=>[(3,some _,.cells (eN f)),(5,some _,.cells (cb s))]) (fun j=>j<=s.params.length/\ ∀i,i<j->(el f.vars (pn s-s.params.length+(i:Nat)).toNat).wZ=el s.params i) (fun j=>s.params.length-j) 0 ⟨Nat.zero_le _,gY⟩ .su .su ?_
  rintro j ⟨hj,hb⟩
  repeat'(first|refine Qc ?_|(refine aG ?_ ?_<;>intro hc<;>try first|contradiction|(exfalso;rw[hs]at hc;cases hc;done))|refine ad ?_|refine ah ?_|refine ak ?_|refine ai ?_|(refine Ba ?_ ?_<;>try exact Za)|refine aX ?_|refine pd ?_|refine lq ?_|refine pb ?_|intro hc)
  ·refine⟨j+1,by dsimp only;omega,⟨om,fun i hi=>?_⟩,.su,.su⟩
   by_cases q:i=j
   ·subst q;rw[hp];assumption
   ·exact hb i om
  ·exact E1 (kf fun q=>by have q8:=q.2.2.2.2.2.2.2 j om;rw[hp]at q8;exact absurd q8 am)
  ·exact E1 (kt ⟨am,am,hff,am,by rw[hp];assumption,by rw[hp];omega,fun q=>by first|exact⟨am,am⟩|(rw[hs]at q;cases q),fun i hi=>hb i om⟩)
 ·refine aD (fun j:Nat=>[(1,.str c),(3,.ptr 3 _ 0),(5,.ptr 5 _ 0),(7,.int .i64 (s.params.length:Int)),(8,.int .i64 j)]) (fun _=>[(3,some _,.cells (eN f)),(5,some _,.cells (cb s))]) (fun j=>j<=s.params.length/\ ∀i,i<j->(el f.vars (pn s-s.params.length+(i:Nat)).toNat).wZ=el s.params i) (fun j=>s.params.length-j) 0 ⟨Nat.zero_le _,gY⟩ .su .su ?_
  rintro j ⟨hj,hb⟩
  repeat'(first|refine Qc ?_|(refine aG ?_ ?_<;>intro hc<;>try first|contradiction|(exfalso;rw[hs]at hc;cases hc;done))|refine ad ?_|refine ah ?_|refine ak ?_|refine ai ?_|(refine Ba ?_ ?_<;>try exact Za)|refine aX ?_|refine pd ?_|refine lq ?_|refine pb ?_|intro hc)
  ·refine⟨j+1,by dsimp only;omega,⟨om,fun i hi=>?_⟩,.su,.su⟩
   by_cases q:i=j
   ·subst q;rw[hp];assumption
   ·exact hb i om
  ·exact E1 (kf fun q=>by have q8:=q.2.2.2.2.2.2.2 j om;rw[hp]at q8;exact absurd q8 am)
  ·exact E1 (kt ⟨am,am,hff,am,by rw[hp];assumption,by rw[hp];omega,fun q=>by first|exact⟨am,am⟩|(rw[hs]at q;cases q),fun i hi=>hb i om⟩)
def allM (cl:List aN):List (List Nat×bZ):=cl.flatMap fun c=>c.methods.map fun m=>(c.name,m)
theorem J9 {cl:List aN}{j:Nat}(hj:j<cl.length):cl=cl.take j++el cl j::cl.drop (j+1):=by
 have e:el cl j=cl[j]:=by simp[el,hj]
 rw[e,<-List.drop_eq_getElem_cons hj,List.take_append_drop]
theorem uW (a b:List aN):allM (a++b)=allM a++allM b:=by simp[allM]
theorem jT {cl:List aN}{j:Nat}(hj:j<cl.length):(allM (cl.take (j+1))).length=(allM (cl.take j)).length+(el cl j).methods.length:=by
 have e:el cl j=cl[j]:=by simp[el,hj]
 rw[List.take_succ_eq_append_getElem hj,uW,<-e]
 simp[allM]
theorem FQ {cl:List aN}{j n:Nat}(hj:j<cl.length)(h1:(allM (cl.take j)).length<=n)(h2:n-(allM (cl.take j)).length<(el cl j).methods.length):el (allM cl) n=((el cl j).name,el (el cl j).methods (n-(allM (cl.take j)).length)):=by
 have e:allM cl=allM (cl.take j)++((el cl j).methods.map (fun m=>((el cl j).name,m))++allM (cl.drop (j+1))):=by
  conv=>lhs;rw[J9 hj]
  rw[uW]
  rfl
 rw[e,gW,if_neg (by omega),gW,if_pos (by simpa using h2),cW h2]
theorem uX {cl:List aN}{n:Nat}{K:PV->Prop}(h:n<(allM cl).length)(hm:(n:Int)<=9223372036854775807)(k:K (.bn [.str (el (allM cl) n).1,.agg (cb (el (allM cl) n).2),.bool true])):PF Tryz.prog X0 Mx 107 [.agg (aY cl),.int .i64 (n:Nat)] K:=by
 refine Pf uY fun hnt=>?_
 repeat'(first|refine Qa ?_|(refine Ba ?_ ?_<;>try exact Za)|intro hc)
 refine aD (fun j:Nat=>[(1,.int .i64 ((n-(allM (cl.take j)).length:Nat):Int)),(2,.ptr 2 _ 0),(5,.ptr 5 _ 0),(7,.int .i64 j)]) (fun _=>[(2,some _,.cells (aY cl)),(5,some _,.cells [.str [],.bool false,.aE,.str []])]) (fun j=>j<=cl.length/\(allM (cl.take j)).length<=n) (fun j=>cl.length-j) 0 ⟨Nat.zero_le _,Nat.zero_le _⟩ .su .su ?_
 rintro j ⟨hj,hb⟩
 repeat'(first|refine Qa ?_|(refine Ba ?_ ?_<;>try exact Za)|intro hc)
 ·rw[FQ (by omega) hb (by omega)]at k
  exact⟨Or.inr rfl,⟨trivial,⟨rfl,⟨trivial,trivial⟩⟩⟩,_,_,rfl,(.refl _),k⟩
 ·have hs:=jT (cl:=cl) (j:=j) om
  rw[show((n-(allM (cl.take j)).length:Nat):Int)-((el cl j).methods.length:Nat)=((n-(allM (cl.take (j+1))).length:Nat):Int)by omega]
  exact⟨j+1,by dsimp only;omega,⟨om,om⟩,.su,.su⟩
 ·have hjl:j=cl.length:=by omega
  rw[hjl,List.take_length]at hb
  omega
noncomputable def xk (cl:List aN)(f:bU)(c:List Nat)(s:bZ):Int:=if ¬pq f c s then 20 else if 256<f.vars.length\/1024<f.code.length then 3 else if ¬bO (jS cl f) f.vars.length=0 then bO (jS cl f) f.vars.length else if f.code.length=0 then 1 else bO (nR cl f) f.code.length
theorem te {cl:List aN}{f:bU}{c:List Nat}{s:bZ}{K:PV->Prop}(cg:cl.length<=64)(h6:s.params.length<=6)(ha: ∀i,i<f.code.length->(el f.code i).args.length<=iC)(k: ∀a,K (.bn [.int .i64 a,.int .i64 (xk cl f c s)])):PF Tryz.prog X0 Mx 108 [.agg (aY cl),.agg (eN f),.str c,.agg (cb s)] K:=by
 refine Pf tf fun hnt=>?_
 repeat'(first|refine Qa ?_|(refine Ba ?_ ?_<;>try exact Za)|(refine ae (aa (Er h6 (fun hc=>?_) fun hc=>?_)))|refine ae (aa (B7 ?_))|intro hc)
 case refine_1.refine_2.refine_2.refine_1.refine_2=>
  refine aD (fun j:Nat=>[(4,.ptr 4 _ 0),(5,.ptr 5 _ 0),(11,.int .i64 j)]) (fun _=>[(4,some _,.cells (aY cl)),(5,some _,.cells (eN f))]) (fun j=>j<=f.code.length/\ ∀i,i<j->nR cl f i=0) (fun j=>f.code.length-j) 0 ⟨Nat.zero_le _,gY⟩ .su .su ?_
  rintro j ⟨hj,hb⟩
  have haj:=ha j
  repeat'(first|refine Qa ?_|(refine Ba ?_ ?_<;>try exact Za)|refine ae (aa (B5 cg am ?_ ?_ ?_))|(exact haj om)|omega|intro hc)
  ·refine⟨j+1,by dsimp only;omega,⟨om,fun i hi=>?_⟩,.su,.su⟩
   by_cases q:i=j
   ·subst q;assumption
   ·exact hb i om
  ·specialize k (j:Nat)
   have e:=aW (n:=f.code.length) om hb rfl am
   unfold xk at k;replace k:=Ik k;rw[e]at k;exact E1 k
  ·specialize k 0
   unfold xk at k;replace k:=Ik k;rw[bL fun x hx=>hb x (by omega)]at k;exact E1 k
 all_goals(specialize k (-1);unfold xk at k;replace k:=Ik k;exact E1 k)
end Go.Proofs.YtemehfgkfidgjaaGreatDoor.Ev
