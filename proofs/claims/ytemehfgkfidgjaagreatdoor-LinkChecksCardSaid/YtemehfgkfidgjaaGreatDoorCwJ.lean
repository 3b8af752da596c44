/- CoverStates, part 25 -/
import Derived.Test.YtemehfgkfidgjaaGreatDoorCwA
set_option linter.all false
set_option maxHeartbeats 4000000
namespace Go.Proofs.YtemehfgkfidgjaaGreatDoor.Ev
open Go
open Classical
noncomputable def lO (cl:List aN)(f:bU)(c:List Nat)(s:bZ):Int:=if ¬pq f c s then 20 else if 256<f.vars.length\/1024<f.code.length then 3 else if ¬bO (jS cl f) f.vars.length=0 then bO (jS cl f) f.vars.length else if f.code.length=0 then 1 else 0
theorem vm {cl:List aN}{f:bU}{c:List Nat}{s:bZ}{K:PV->Prop}(h6:s.params.length<=6)(k:K (.int .i64 (lO cl f c s))):PF Tryz.prog X0 Mx 37 [.agg (aY cl),.str c,.agg (cb s),.agg (eN f)] K:=by
 refine Pf vb fun hnt=>?_
 repeat'(first|refine pg ?_|refine af ?_|(refine aG ?_ ?_<;>intro hc<;>try contradiction)|refine ad ?_|(refine ak ?_;intro hl)|(refine ai ?_;intro b)|(refine aw ?_ ?_<;>intro hc<;>try first|contradiction|omega)|refine aj ?_|refine aA ?_|refine au ?_|refine ay ?_|(refine ae (aa (zX h6 (fun hc=>?_) fun hc=>?_)))|refine pc ?_|refine pt ?_|refine pb ?_)
 case refine_1.refine_1=>unfold lO at k;replace k:=Ik k;exact E1 k
 case refine_1.refine_2.refine_1=>unfold lO at k;replace k:=Ik k;exact E1 k
 case refine_2=>unfold lO at k;replace k:=Ik k;exact E1 k
 have hft:pq f c s:=by assumption
 unfold lO at k
 rw[if_neg (not_not.2 hft),if_neg (by omega)]at k
 refine aD (fun j:Nat=>[(4,.ptr 4 _ 0),(7,.ptr 7 _ 0),(27,pL 2 s8 f.vars),(28,.int .i64 (f.vars.length:Nat)),(29,.int .i64 j)]) (fun _=>[(4,some _,.cells (aY cl)),(7,some _,.cells (eN f))]) (fun j=>j<=f.vars.length/\ ∀i,i<j->jS cl f i=0) (fun j=>f.vars.length-j) 0 ⟨Nat.zero_le _,gY⟩ .su .su ?_
 rintro j ⟨hj,hb⟩
 by_cases hlt:j<f.vars.length
 ·repeat'(first|refine pg ?_|refine af ?_|(refine aG ?_ ?_<;>intro hc<;>try contradiction)|refine ad ?_|(refine ak ?_;intro hl)|(refine ai ?_;intro b)|(refine aw ?_ ?_<;>intro hc<;>try first|contradiction|omega)|refine aj ?_|refine aA ?_|refine au ?_|refine ay ?_|refine aI ?_|refine pc ?_|refine pt ?_|refine pb ?_)
  refine cz 14 50 (¬po f j/\ ¬kp (el f.vars j).name) (fun b hnm=>?_) (fun J=>?_)
  rotate_left
  ·repeat'(first|(refine J _ _ .su rfl ?_)|refine pg ?_|refine af ?_|(refine aG ?_ ?_<;>intro hc<;>try contradiction)|refine ad ?_|(refine ak ?_;intro hl)|(refine ai ?_;intro b)|(refine aw ?_ ?_<;>intro hc<;>try first|contradiction|omega)|refine aj ?_|refine aA ?_|refine au ?_|refine ay ?_|(refine ae (aa (o9 (fun hc=>?_) fun hc=>?_)))|refine pc ?_|refine pt ?_|refine pb ?_)
   all_goals(clear J;unfold po FP;first|(simp[*];done)|(simp[*];omega)|(simp_all;done)|(simp_all;intro h;omega)|(simp[*];intro h;omega))
  cases b
  rotate_left
  ·repeat'(first|refine pg ?_|refine af ?_|(refine aG ?_ ?_<;>intro hc<;>try contradiction)|refine ad ?_|(refine ak ?_;intro hl)|(refine ai ?_;intro b)|(refine aw ?_ ?_<;>intro hc<;>try first|contradiction|omega)|refine aj ?_|refine aA ?_|refine au ?_|refine ay ?_|refine pc ?_|refine pt ?_|refine pb ?_)
   have e:jS cl f j=5:=by unfold jS;rw[if_pos (hnm.1 rfl)]
   have e2:=aW hlt hb e dc
   rw[e2]at k;replace k:=Ik k;exact E1 k
  have hnn: ¬(¬po f j/\ ¬kp (el f.vars j).name):=fun q=>by cases hnm.2 q
  repeat'(first|refine pg ?_|refine af ?_|(refine aG ?_ ?_<;>intro hc<;>try contradiction)|refine ad ?_|(refine ak ?_;intro hl)|(refine ai ?_;intro b)|(refine aw ?_ ?_<;>intro hc<;>try first|contradiction|omega)|refine aj ?_|refine aA ?_|refine au ?_|refine ay ?_|refine ae (aa (dm ?_))|refine pc ?_|refine pt ?_|refine pb ?_)
  all_goals first
   |(refine⟨j+1,by dsimp only;omega,⟨om,fun i hi=>?_⟩,.su,.su⟩;by_cases q:i=j;(subst q;unfold jS;rw[if_neg hnn,if_neg];first|exact fun q=>q.2 (Or.inl am)|exact fun q=>q.1 am|exact fun q=>q.2 (Or.inr (aS.1 om)));(exact hb i om))
   |(have e:jS cl f j=8:=by unfold jS;rw[if_neg hnn,if_pos ⟨by assumption,fun q=>q.elim (by assumption) fun q=>by have:=aS.2 q;omega⟩]
     have e2:=aW hlt hb e dc
     rw[e2]at k;replace k:=Ik k;exact E1 k)
 ·repeat'(first|refine pg ?_|refine af ?_|(refine aG ?_ ?_<;>intro hc<;>try contradiction)|refine ad ?_|(refine ak ?_;intro hl)|(refine ai ?_;intro b)|(refine aw ?_ ?_<;>intro hc<;>try first|contradiction|omega)|refine aj ?_|refine aA ?_|refine au ?_|refine ay ?_|refine pc ?_|refine pt ?_|refine pb ?_)
  all_goals rw[bL fun x (hx:x<f.vars.length)=>hb x (by omega)]at k
  all_goals replace k:=Ik k
  all_goals exact E1 k
theorem pG {cl:List aN}: ∀(n:Nat) (out:List (List Nat)) (s:List Nat),out.Nodup->(bX cl n out s).1.Nodup
 |0,out,s,h=>h
 |n+1,out,s,h=>by
  rw[bX]
  by_cases h1:aO (bH cl) s<0
  ·rw[if_pos h1];exact h
  rw[if_neg h1]
  by_cases h2:s∈out
  ·rw[if_pos h2];exact h
  rw[if_neg h2]
  have h':(out++[s]).Nodup:=by
   rw[List.nodup_append]
   refine⟨h,by simp,fun a ha b hb=>?_⟩
   rw[List.mem_singleton]at hb
   subst hb
   exact fun q=>h2 (q▸ha)
  by_cases h3:gr cl s=[]
  ·rw[if_pos h3];exact h'
  ·rw[if_neg h3];exact pG n _ _ h'
theorem uF {cl:List aN}{c:List Nat}(hc:c∈bH cl): ∃l,aB cl c=c::l/\ ¬c∈l:=by
 have h0:=aS.2 hc
 have hn:=pG (cl:=cl) (cl.length+1) [] c (by simp)
 have hp: ∀(n:Nat) (out:List (List Nat)) (s:List Nat),∃l,(bX cl n out s).1=out++l:=by
  intro n
  induction n with
  |zero=>exact fun out s=>⟨[],by simp[bX]⟩
  |succ n ih=>
   intro out s
   rw[bX]
   by_cases h1:aO (bH cl) s<0
   ·rw[if_pos h1];exact⟨[],by simp⟩
   rw[if_neg h1]
   by_cases h2:s∈out
   ·rw[if_pos h2];exact⟨[],by simp⟩
   rw[if_neg h2]
   by_cases h3:gr cl s=[]
   ·rw[if_pos h3];exact⟨[s],rfl⟩
   ·rw[if_neg h3]
    obtain⟨l,e⟩:=ih (out++[s]) (gr cl s)
    exact⟨s::l,by rw[e];simp⟩
 have e: ∃l,aB cl c=c::l:=by
  unfold aB cw
  rw[bX,if_neg (by omega),if_neg (by simp)]
  by_cases h3:gr cl c=[]
  ·rw[if_pos h3];exact⟨[],rfl⟩
  ·rw[if_neg h3]
   obtain⟨l,e⟩:=hp cl.length ([]++[c]) (gr cl c)
   exact⟨l,by rw[e];rfl⟩
 obtain⟨l,e⟩:=e
 refine⟨l,e,?_⟩
 have hn':(aB cl c).Nodup:=hn
 rw[e]at hn'
 exact(List.nodup_cons.1 hn').1
theorem mn {cl:List aN}{c m:List Nat}{s:bZ}:pk cl c m s↔c∈bH cl/\fA (bt cl c) m=some s/\s.static=true:=by
 unfold pk
 constructor
 ·rintro⟨h,hs⟩
  have hc:c∈bH cl:=by
   obtain⟨d,hd,e⟩:=List.exists_of_findSome?_eq_some h
   cases hq:fA (bt cl d) m with
   |none=>rw[hq]at e;cases e
   |some z=>rw[hq]at e;cases e;exact dZ hd
  refine⟨hc,?_,hs⟩
  obtain⟨l,e,hn⟩:=uF hc
  unfold bE at h
  rw[e,List.findSome?_cons]at h
  cases hq:fA (bt cl c) m with
  |some z=>rw[hq]at h;cases h;rfl
  |none=>
   rw[hq]at h
   obtain⟨d,hd,e2⟩:=List.exists_of_findSome?_eq_some h
   cases hw:fA (bt cl d) m with
   |none=>rw[hw]at e2;cases e2
   |some z=>rw[hw]at e2;cases e2;exact absurd hd hn
 ·rintro⟨hc,h,hs⟩
  obtain⟨l,e,_⟩:=uF hc
  refine⟨?_,hs⟩
  unfold bE
  rw[e,List.findSome?_cons,h];rfl
theorem np {s:bZ}{x:bF}{K:PV->Prop}(kt:s.name=x.name->K (.bool true))(kf: ¬s.name=x.name->K (.bool false)):PF Tryz.prog X0 Mx 211 [.agg (cb s),.fp (dh x) 0] K:=by
 refine Pf nc fun hnt=>?_
 repeat'(first|refine Qa ?_|(refine Ba ?_ ?_<;>try exact Za)|intro hc)
 ·exact E1 (kt hc)
 ·exact E1 (kf hc)
theorem kV {l:List bZ}{x:bF}{K:PV->Prop}(k:K (.int .i64 (cK (fun s:bZ=>s.name=x.name) l))):PF Tryz.prog X0 Mx 210 [pL 4 cb l,.fn 211 [.fp (dh x) 0]] K:=by
 refine Pf kU fun hnt=>?_
 repeat'(first|refine Qa ?_|(refine Ba ?_ ?_<;>try exact Za)|intro hc)
 refine aD (fun j:Nat=>[(0,pL 4 cb l),(1,.fn 211 [.fp (dh x) 0]),(7,.int .i64 (l.length:Nat)),(8,.int .i64 j)]) (fun _=>[]) (fun j=>j<=l.length/\ ∀i,i<j-> ¬(el l i).name=x.name) (fun j=>l.length-j) 0 ⟨Nat.zero_le _,gY⟩ .su (.nil) ?_
 rintro j ⟨hj,hb⟩
 repeat'(first|refine Qa ?_|(refine Ba ?_ ?_<;>try exact Za)|(refine ae (aa (np (fun hc=>?_) fun hc=>?_)))|intro hc)
 ·rw[gg (p:=(fun s:bZ=>s.name=x.name)) (j:=j) (by omega) hc hb]at k
  exact E1 k
 ·refine⟨j+1,by dsimp only;omega,⟨om,fun i hi=>?_⟩,.su,(.nil)⟩
  by_cases q:i=j
  ·subst q;assumption
  ·exact hb i om
 ·rw[gh (p:=(fun s:bZ=>s.name=x.name)) fun i hi=>hb i (by omega)]at k
  exact E1 k
theorem pH {cl:List aN}{f:bU}{x:bF}{K:PV->Prop}(kt: ∀s,pk cl x.cls x.name s->K (.bn [.agg (cb s),.bool true]))(kf: ∀s,(¬ ∃s,pk cl x.cls x.name s)->K (.bn [.agg (cb s),.bool false])):PF Tryz.prog X0 Mx 144 [.agg (kr cl f),.agg (dh x)] K:=by
 refine Pf pw fun hnt=>?_
 have hfl:=dC (l:=bH cl) (s:=x.cls)
 rw[cn]at hfl
 rcases lN (fun s:bZ=>s.name=x.name) (bt cl x.cls).methods with⟨e1,q1⟩|⟨q,e1,q2,q3,q4⟩
 all_goals rw[show bt cl x.cls=el cl (aO (bH cl) x.cls).toNat from rfl]at*
 all_goals have hno:aO (bH cl) x.cls<0-> ¬ ∃s,pk cl x.cls x.name s:=fun w ⟨s,h⟩=>by have:=aS.2 (mn.1 h).1;omega
 ·have hn2: ¬ ∃s,pk cl x.cls x.name s:=fun⟨s,h⟩=>by
    have h2:=(mn.1 h).2.1
    rw[show fA (bt cl x.cls) x.name=none from lB fun i hi=>if_neg (q1 i hi)]at h2
    cases h2
  repeat'(first|refine Qc ?_|(refine Ba ?_ ?_<;>try exact Za)|refine ad ?_|refine ah ?_|refine ai ?_|refine ay ?_|refine aI ?_|refine bz (us:=aY cl) ?_ rfl rfl ⟨by show 1<=8;decide,rfl⟩|refine ae (aa (dm ?_))|(refine dJ (kV ⟨rfl,?_⟩) rfl rfl rfl (.cons _ _ _ _ (.refl _) (.cons _ _ _ _ (.fn _ _ _ (.cons _ _ _ _ (.ptr _ _ _ _ _ rfl (.refl _)) .nil)) .nil)))|intro hc)
  all_goals have k2:=kf default hn2
  all_goals exact⟨Or.inr rfl,⟨rfl,⟨trivial,trivial⟩⟩,_,_,rfl,.bn _ _ (.cons _ _ _ _ (.agg _ _ (.cons _ _ _ _ (.refl _) (.cons _ _ _ _ (.refl _) (.cons _ _ _ _ (.aE _ _) (.cons _ _ _ _ (.refl _) .nil))))) (.cons _ _ _ _ (.refl _) .nil)),k2⟩
 ·have hsg:fA (bt cl x.cls) x.name=some (el (el cl (aO (bH cl) x.cls).toNat).methods q):=lA q2 (if_pos q3) fun i hi=>if_neg (q4 i hi)
  repeat'(first|refine Qc ?_|(refine Ba ?_ ?_<;>try exact Za)|refine ad ?_|refine ah ?_|refine ai ?_|refine ay ?_|refine aI ?_|refine bz (us:=aY cl) ?_ rfl rfl ⟨by show 1<=8;decide,rfl⟩|refine ae (aa (dm ?_))|(refine dJ (kV ⟨rfl,?_⟩) rfl rfl rfl (.cons _ _ _ _ (.refl _) (.cons _ _ _ _ (.fn _ _ _ (.cons _ _ _ _ (.ptr _ _ _ _ _ rfl (.refl _)) .nil)) .nil)))|intro hc)
  ·have k2:=kf default (hno am)
   exact⟨Or.inr rfl,⟨rfl,⟨trivial,trivial⟩⟩,_,_,rfl,.bn _ _ (.cons _ _ _ _ (.agg _ _ (.cons _ _ _ _ (.refl _) (.cons _ _ _ _ (.refl _) (.cons _ _ _ _ (.aE _ _) (.cons _ _ _ _ (.refl _) .nil))))) (.cons _ _ _ _ (.refl _) .nil)),k2⟩
  ·rw[e1]at hc⊢
   have k2:=kt _ (mn.2 ⟨aS.1 om,hsg,hc⟩)
   exact⟨Or.inr rfl,⟨rfl,⟨trivial,trivial⟩⟩,_,_,rfl,(.refl _),k2⟩
  ·rw[e1]at hc
   have k2:=kf default (fun⟨s,h⟩=>by
    obtain⟨_,h2,h3⟩:=mn.1 h
    rw[hsg]at h2;cases h2
    exact absurd h3 (ff hc))
   exact⟨Or.inr rfl,⟨rfl,⟨trivial,trivial⟩⟩,_,_,rfl,.bn _ _ (.cons _ _ _ _ (.agg _ _ (.cons _ _ _ _ (.refl _) (.cons _ _ _ _ (.refl _) (.cons _ _ _ _ (.aE _ _) (.cons _ _ _ _ (.refl _) .nil))))) (.cons _ _ _ _ (.refl _) .nil)),k2⟩
theorem ga {l:List (List Nat)}{K:PV->Prop}(hl:l.length*16<=140737488355328)(k:K (pL 1 pS l)):PF Tryz.prog X0 Mx 50 [pL 1 pS l] K:=by
 refine Pf fY fun hnt=>?_
 repeat'(first|refine Qa ?_|(refine y7 (fun hc=>?_) ?_)|(refine bb ?_;intro b)|(refine y8 (f:=pS) ?_;intro od1 hod)|intro hc)
 ·obtain rfl:l=[]:=List.length_eq_zero_iff.1 hc
  exact⟨Or.inr rfl,⟨trivial,trivial⟩,_,_,rfl,.aE 1 _,k⟩
 ·exact⟨Or.inr rfl,⟨trivial,trivial⟩,_,_,rfl,cE,k⟩
theorem nD {cl:List aN}{s nm:List Nat}{K:PV->Prop}(cg:cl.length<=64)(hs: ∀c t,bE cl s nm=some (c,t)->t.params.length*16<=140737488355328)(k1: ∀c t,bE cl s nm=some (c,t)->K (.bn [.str c,.agg (cb t),.bool true]))(k0:bE cl s nm=none->K (.bn [.str [],.agg (cb default),.bool false])):PF Tryz.prog X0 Mx 142 [.agg (aY cl),.str s,.str nm] K:=by
 refine Pf xq fun hnt=>?_
 repeat'(first|refine Qb ?_|(refine ai ?_;intro b)|(refine Ba ?_ ?_<;>intro hc<;>try exact Zb)|refine ae (aa (fG ?_)))
 repeat'(first|refine Qb ?_|(refine ai ?_;intro b)|(refine Ba ?_ ?_<;>intro hc<;>try exact Zb)|refine aX ?_|refine pd ?_|refine ix (aR (dp ?_))|(refine ix (aR (nj cg rfl (fun a b hL=>?_) fun hL=>?_)))|refine AL ?_)
 ·obtain⟨ha,hb2,hF⟩:=hL
  repeat'(first|refine Qb ?_|(refine ai ?_;intro b)|(refine Ba ?_ ?_<;>intro hc<;>try exact Zb)|refine aX ?_|refine pd ?_|(refine ae (aa (ga (hs _ _ hF) ?_)))|refine AL ?_)
  have k2:=k1 _ _ hF
  exact⟨Or.inr rfl,⟨trivial,⟨rfl,⟨trivial,trivial⟩⟩⟩,_,_,rfl,(.refl _),k2⟩
 ·have k2:=k0 hL
  exact⟨Or.inr rfl,⟨trivial,⟨rfl,⟨trivial,trivial⟩⟩⟩,_,_,rfl,.bn _ _ (.cons _ _ _ _ (.refl _) (.cons _ _ _ _ (.agg _ _ (.cons _ _ _ _ (.refl _) (.cons _ _ _ _ (.refl _) (.cons _ _ _ _ (.aE _ _) (.cons _ _ _ _ (.refl _) .nil))))) (.cons _ _ _ _ (.refl _) .nil))),k2⟩
theorem zj {cl:List aN}{f:bU}{x:bF}(h:x.op=6\/x.op=15):nS cl f x=if ¬x.cls∈bH cl then 6 else if ¬pj cl x.cls (vt f x.dst)then 8 else 0:=by unfold nS;rw[if_pos h]
theorem Qe {cl:List aN}{f:bU}{x:bF}(h:x.op=7\/x.op=8):nS cl f x=HJ cl f x:=by unfold nS;rw[if_neg (by omega),if_pos h]
theorem zg {cl:List aN}{f:bU}{x:bF}(h:x.op=9\/x.op=10):nS cl f x=qP cl f x:=by unfold nS;rw[if_neg (by omega),if_neg (by omega),if_pos h]
theorem EC {cl:List aN}{f:bU}{x:bF}(h:x.op=13):nS cl f x=if ¬(x.a= -1↔f.result=[])then 9 else if lK cl f x then 0 else 8:=by
 unfold nS;rw[if_neg (by omega),if_neg (by omega),if_neg (by omega)]
 by_cases q:x.a= -1↔f.result=[]
 ·rw[if_neg (fun w=>w.2 q),if_neg (not_not.2 q)]
 ·rw[if_pos ⟨h,q⟩,if_pos q]
theorem Kj {cl:List aN}{f:bU}{x:bF}(h: ¬(x.op=6\/x.op=15)/\ ¬(x.op=7\/x.op=8)/\ ¬(x.op=9\/x.op=10)/\ ¬x.op=13):nS cl f x=if lK cl f x then 0 else 8:=by
 unfold nS;rw[if_neg h.1,if_neg h.2.1,if_neg h.2.2.1,if_neg (fun w=>h.2.2.2 w.1)]
theorem rr {cl:List aN}{f:bU}{x:bF}{K:PV->Prop}(cg:cl.length<=64)(hi: ¬iq∈bH cl)(hn: ¬ph∈bH cl)(h6: ∀c t,bE cl x.cls x.name=some (c,t)->t.params.length<=6)(hr:jR f x)(hop:0<=x.op/\x.op<17)(k:K (.int .i64 (nS cl f x))):PF Tryz.prog X0 Mx 96 [.agg (kr cl f),.agg (dh x)] K:=by
 refine Pf qZ fun hnt=>?_
 have hA: ∀o:Int,x.op=o->hasB o 97=true->x.op≠13\/x.a≠ -1->0<=x.a/\x.a<f.vars.length:=fun o e h h2=>El hr (by rw[e];exact h) h2
 have hW: ∀o:Int,x.op=o->hasB o 100=true->x.op≠9->x.op≠10->0<=x.dst/\x.dst<f.vars.length:=fun o e h=>J7 hr (by rw[e];exact h)
 have hB: ∀o:Int,x.op=o->hasB o 98=true->0<=x.b/\x.b<f.vars.length:=fun o e h=>J6 hr (by rw[e];exact h)
 repeat'(first|refine Qc ?_|(refine Ba ?_ ?_<;>try exact Za)|refine ad ?_|refine ai ?_|refine au ?_|refine aX ?_|refine pd ?_|refine aI ?_|(refine ae (aa (jX ?_ (fun hc=>?_) fun hc=>?_)))|(refine ix (aR (jX ?_ (fun hc=>?_) fun hc=>?_)))|refine ae (aa (kq ?_))|refine ix (aR (kq ?_))|(refine ix (aR (gF ?_ ?_)))|(refine ix (aR (gZ cg hi hn (fun hc=>?_) fun hc=>?_)))|(refine ix (aR (eV hi (fun hc=>?_) fun hc=>?_)))|refine bz (us:=aY cl) ?_ rfl rfl ⟨by show 1<=8;decide,rfl⟩|(refine ae (aa (nD cg (fun c t hL=>by have:=h6 c t hL;omega) (fun c t hL=>?_) fun hL=>?_)))|(refine ae (aa (pH (fun t hD=>?_) fun t hD=>?_)))|(refine ae (aa (rq cg hi hn hr om ?_)))|(refine ae (aa (tq cg hi hn hr om ?_)))|exact hA _ am dc om|exact hW _ am dc om om|exact hB _ am dc|refine ae (aa (dm ?_))|refine pb ?_|intro hc)
 all_goals first
  |(rw[Kj (by omega),if_pos (by unfold lK;refine⟨fun q=>?_,fun q=>?_,fun q=>?_,fun q=>?_,fun q=>?_,fun q=>?_,fun q=>?_,fun q=>?_⟩<;>first|(exfalso;omega)|assumption|exact⟨by assumption,by assumption⟩|exact⟨by assumption,Or.inl ⟨by assumption,by assumption⟩⟩|exact⟨by assumption,Or.inr ⟨by assumption,by assumption,by assumption⟩⟩|exact Or.inl (by assumption)|exact Or.inr (by assumption))]at k;exact E1 k)
  |(rw[Kj (by omega),if_neg (fun q=>by unfold lK at q;obtain⟨q1,q2,q3,q4,q5,q6,q7,q8⟩:=q;first|exact absurd (q1 (by omega)) (by assumption)|exact q2 (by omega) (by assumption)|exact absurd (q3 (by omega)) (by assumption)|exact absurd (q4 (by omega)).1 (by assumption)|exact absurd (q4 (by omega)).2 (by assumption)|exact absurd (q5 (by omega)) (by assumption)|exact q6 (by omega) (by assumption)|exact absurd (q7 (by omega)).1 (by assumption)|exact(q7 (by omega)).2.elim (fun w=>by first|exact absurd w.1 (by assumption)|exact absurd w.2 (by assumption)) (fun w=>by first|exact absurd w.1 (by assumption)|exact w.2.1 (by assumption)|exact w.2.2 (by assumption))|exact(q8 (by omega)).elim (by assumption) (by assumption))]at k;exact E1 k)
  |(rw[Qe (by omega)]at k;exact E1 k)
  |(rw[zj (by omega),if_pos (fun q=>by have:=aS.2 q;omega)]at k;exact E1 k)
  |(rw[zj (by omega),if_neg (not_not.2 (aS.1 (by omega))),if_pos (by assumption)]at k;exact E1 k)
  |(rw[zj (by omega),if_neg (not_not.2 (aS.1 (by omega))),if_neg (not_not.2 (by assumption))]at k;exact E1 k)
  |(rw[EC (by omega),if_pos (by simp_all)]at k;exact E1 k)
  |(rw[EC (by omega),if_neg (not_not.2 (by simp_all)),if_pos (by unfold lK;refine⟨fun q=>?_,fun q=>?_,fun q=>?_,fun q=>?_,fun q=>?_,fun q=>?_,fun q=>?_,fun q=>?_⟩<;>first|(exfalso;omega)|assumption|exact⟨by assumption,by assumption⟩|exact⟨by assumption,Or.inl ⟨by assumption,by assumption⟩⟩|exact⟨by assumption,Or.inr ⟨by assumption,by assumption,by assumption⟩⟩|exact Or.inl (by assumption)|exact Or.inr (by assumption))]at k;exact E1 k)
  |(rw[EC (by omega),if_neg (not_not.2 (by simp_all)),if_neg (fun q=>by unfold lK at q;obtain⟨q1,q2,q3,q4,q5,q6,q7,q8⟩:=q;first|exact absurd (q1 (by omega)) (by assumption)|exact q2 (by omega) (by assumption)|exact absurd (q3 (by omega)) (by assumption)|exact absurd (q4 (by omega)).1 (by assumption)|exact absurd (q4 (by omega)).2 (by assumption)|exact absurd (q5 (by omega)) (by assumption)|exact q6 (by omega) (by assumption)|exact absurd (q7 (by omega)).1 (by assumption)|exact(q7 (by omega)).2.elim (fun w=>by first|exact absurd w.1 (by assumption)|exact absurd w.2 (by assumption)) (fun w=>by first|exact absurd w.1 (by assumption)|exact w.2.1 (by assumption)|exact w.2.2 (by assumption))|exact(q8 (by omega)).elim (by assumption) (by assumption))]at k;exact E1 k)
  |(rw[zg (by omega),show qP cl f x=8 by unfold qP;rw[if_pos ⟨by omega,fun q=>by first|exact absurd q.1 (by assumption)|exact absurd q.2 (by assumption)⟩]]at k;exact E1 k)
  |(rw[zg (by omega),uV (fun q=>by first|omega|exact q.2 ⟨by assumption,by assumption⟩) (by first|exact Or.inl ⟨by omega,_,hL,by assumption⟩|exact Or.inr ⟨by omega,hD⟩)]at k;exact E1 k)
  |(rw[zg (by omega),tM (fun q=>by first|omega|exact q.2 ⟨by assumption,by assumption⟩) (fun⟨s,q⟩=>by rcases q with⟨w,c',q,q2⟩|⟨w,q⟩<;>first|omega|exact hD ⟨_,q⟩|(rw[hL]at q;cases q<;>simp_all))]at k;exact E1 k)
structure VC (cl:List aN):Prop where
 cg:cl.length<=64
 hi: ¬iq∈bH cl
 hn: ¬ph∈bH cl
 h6: ∀s nm c t,bE cl s nm=some (c,t)->t.params.length<=6
theorem x7 {cl:List aN}(h:gb cl=0){s:List Nat}(hs:s∈bH cl):du s:=by
 obtain⟨i,hi,rfl⟩:=cm hs
 rw[cn]at hi
 rw[D3 hi]
 exact(gm ((fC h).2 i hi)).1
theorem Na {cl:List aN}{s nm c:List Nat}{t:bZ}(h:bE cl s nm=some (c,t)):c∈aB cl s/\ ∃j,j<(bt cl c).methods.length/\el (bt cl c).methods j=t/\t.name=nm:=by
 obtain⟨d,hd,e⟩:=List.exists_of_findSome?_eq_some h
 cases hq:fA (bt cl d) nm with
 |none=>rw[hq]at e;cases e
 |some z=>
  rw[hq]at e;cases e
  obtain⟨y,hy,e⟩:=List.exists_of_findSome?_eq_some hq
  by_cases q:y.name=nm
  ·rw[if_pos q]at e;cases e
   obtain⟨j,hj,e2⟩:=cm hy
   exact⟨hd,j,hj,e2,q⟩
  ·rw[if_neg q]at e;cases e
theorem fX {cl:List aN}(h:gb cl=0):VC cl:=by
 refine⟨(fC h).1,fun q=>(x7 h q).2.2.2.1 dc,fun q=>(x7 h q).2.2.2.1 dc,fun s nm c t hl=>?_⟩
 obtain⟨hc,j,hj,rfl,_⟩:=Na hl
 have h1:=jI (aS.2 (dZ hc))
 rw[cn]at h1
 exact uD ((gm ((fC h).2 _ h1.1)).2.2.2.2 j hj)
theorem Qf {cl:List aN}{f:bU}{c:List Nat}{s:bZ}:xk cl f c s=if ¬lO cl f c s=0 then lO cl f c s else bO (nR cl f) f.code.length:=by
 unfold xk lO
 by_cases h1:pq f c s
 ·rw[if_neg (not_not.2 h1),if_neg (not_not.2 h1)]
  by_cases h2:256<f.vars.length\/1024<f.code.length
  ·rw[if_pos h2,if_pos h2];rfl
  ·rw[if_neg h2,if_neg h2]
   by_cases h3:bO (jS cl f) f.vars.length=0
   ·rw[if_neg (not_not.2 h3),if_neg (not_not.2 h3)]
    by_cases h4:f.code.length=0
    ·rw[if_pos h4,if_pos h4];rfl
    ·rw[if_neg h4,if_neg h4];rfl
   ·rw[if_pos h3,if_pos h3,if_pos h3]
 ·rw[if_pos h1,if_pos h1];rfl
theorem Nb {cl:List aN}{f:bU}{c:List Nat}{s:bZ}(h:lO cl f c s=0):f.vars.length<=256/\f.code.length<=1024:=by
 unfold lO at h
 obtain⟨h1,h⟩:=dI dc h
 obtain⟨h2,h⟩:=dI dc h
 omega
theorem tu {cl:List aN}{f:bU}{i:Nat}{K:PV->Prop}(hk:VC cl)(hn:f.code.length<=9223372036854775807)(hi:i<f.code.length)(k:K (.int .i64 (nR cl f i))):PF Tryz.prog X0 Mx 38 [.agg (aY cl),.agg (eN f),.int .i64 (i:Nat)] K:=by
 refine Pf tg fun hnt=>?_
 unfold nR at k
 repeat'(first|refine Qa ?_|(refine Ba ?_ ?_<;>try exact Za)|(refine ae (aa (uQ (fun hc=>?_) fun hc=>?_)))|(refine ae (aa (tn (fun hc=>?_) fun hc=>?_)))|(refine ae (aa (zW am (fun hc=>?_) fun hc=>?_)))|(refine ae (aa (tp hn hi (by assumption:jR f (el f.code i)).2.2.1 (fun hc=>?_) fun hc=>?_)))|(refine ae (aa (rr hk.cg hk.hi hk.hn (fun c t=>hk.h6 _ _ c t) am am ?_)))|intro hc)
 all_goals first
  |(rw[if_pos (by first|exact Or.inl (by assumption)|exact Or.inr ⟨by assumption,by omega⟩)]at k;exact E1 k)
  |rw[if_neg (by rintro(q|⟨q,q2⟩)<;>first|exact q (by assumption)|exact absurd q (by assumption)|omega)]at k
 all_goals first
  |(rw[if_pos (by assumption)]at k;exact E1 k)
  |rw[if_neg (not_not.2 (by assumption))]at k
 all_goals first
  |(rw[if_pos (by assumption)]at k;exact E1 k)
  |rw[if_neg (not_not.2 (by assumption))]at k
 all_goals first
  |(rw[if_pos (by assumption)]at k;exact E1 k)
  |(rw[if_neg (by assumption)]at k;exact E1 k)
theorem ux {u:aF}{K:PV->Prop}(k: ∀a b,K (.bn [.int .i64 a,.int .i64 b,.int .i64 (qu u)])):PF Tryz.prog X0 Mx 12 [.agg (bK u)] K:=by
 refine Pf Eu fun hnt=>?_
 repeat'(first|refine Qa ?_|(refine Ba ?_ ?_<;>try exact Za)|refine ae (aa (vl ?_))|intro hc)
 rotate_left
 ·specialize k (-1) (-1);unfold qu at k;replace k:=Ik k;exact E1 k
 have hw:=jJ (by assumption:iG u=0)
 have hk:=fX hw.1
 have hm16:=fun i hi=>(gm ((fC hw.1).2 i hi)).2.2.2.1
 have hal:=tN hm16
 have h256:=hw.2.1
 have hmf:=hw.2.2.1
 refine aD (fun j:Nat=>[(1,.ptr 1 _ 0),(6,.int .i64 ((allM (u.cl.take j)).length:Nat)),(7,.int .i64 (c9 (u.fns.take (allM (u.cl.take j)).length):Nat)),(23,pL 4 gS u.cl),(24,.int .i64 (u.cl.length:Nat)),(25,.int .i64 j)]) (fun _=>[(1,some _,.cells (bK u))]) (fun j=>j<=u.cl.length/\(∀i,i<(allM (u.cl.take j)).length->fE u i=0)/\c9 (u.fns.take (allM (u.cl.take j)).length)<=1024*(allM (u.cl.take j)).length) (fun j=>u.cl.length-j) 0 ⟨Nat.zero_le _,fun i hi=>absurd hi (by simp[allM]),by simp[allM,c9]⟩ .su .su ?_
 rintro j ⟨hj,hb,hsn⟩
 by_cases hlt:j<u.cl.length
 rotate_left
 ·repeat'(first|refine Qa ?_|(refine Ba ?_ ?_<;>try exact Za)|intro hc)
  all_goals
   have hjl:j=u.cl.length:=by omega
   have hnl:(allM (u.cl.take j)).length=u.fns.length:=by rw[hjl,List.take_length];exact hmf
   rw[hnl]at hb
   have hs0:c9 (u.fns.take (allM (u.cl.take j)).length)=c9 u.fns:=by rw[hnl,List.take_length]
   have hb0:bO (fE u) u.fns.length=0:=bL hb
  ·specialize k (-1) (-1);unfold qu at k;replace k:=Ik k;exact E1 k
  ·specialize k 0 0;unfold qu at k;replace k:=Ik k;exact E1 k
 have hac:=jT hlt
 have hle:(allM (u.cl.take (j+1))).length<=(allM u.cl).length:=by
  have e:=uW (u.cl.take (j+1)) (u.cl.drop (j+1))
  rw[List.take_append_drop]at e
  rw[e,List.length_append];omega
 repeat'(first|refine Qa ?_|(refine Ba ?_ ?_<;>try exact Za)|intro hc)
 generalize hn0:(allM (u.cl.take j)).length=n0 at*
 refine aD (fun t:Nat=>[(1,.ptr 1 _ 0),(6,.int .i64 ((n0+t:Nat):Int)),(7,.int .i64 (c9 (u.fns.take (n0+t)):Nat)),(9,.ptr 9 _ 0),(23,pL 4 gS u.cl),(24,.int .i64 (u.cl.length:Nat)),(25,.int .i64 j),(30,pL 4 cb (el u.cl j).methods),(31,.int .i64 ((el u.cl j).methods.length:Nat)),(32,.int .i64 t)]) (fun _=>[(1,some _,.cells (bK u)),(9,some _,.cells (gS (el u.cl j)))]) (fun t=>t<=(el u.cl j).methods.length/\(∀i,i<n0+t->fE u i=0)/\c9 (u.fns.take (n0+t))<=1024*(n0+t)) (fun t=>(el u.cl j).methods.length-t) 0 ⟨Nat.zero_le _,hb,hsn⟩ .su .su ?_
 rintro t ⟨ht,hbt,hst⟩
 by_cases hlt2:t<(el u.cl j).methods.length
 rotate_left
 ·have htl:n0+t=(allM (u.cl.take (j+1))).length:=by omega
  repeat'(first|refine Qa ?_|(refine Ba ?_ ?_<;>try exact Za)|intro hc)
  rw[htl]at hbt hst⊢
  exact⟨j+1,by dsimp only;omega,⟨om,hbt,hst⟩,.su,.su⟩
 have hat:=FQ (n:=n0+t) hlt om om
 rw[show n0+t-(allM (u.cl.take j)).length=t by omega]at hat
 have h6t:=uD ((gm ((fC hw.1).2 j hlt)).2.2.2.2 t hlt2)
 have hfe:fE u (n0+t)=xk u.cl (el u.fns (n0+t)) (el u.cl j).name (el (el u.cl j).methods t):=by unfold fE;rw[hat]
 rw[Qf]at hfe
 have hlf:n0+t<u.fns.length:=by omega
 repeat'(first|refine Qa ?_|(refine Ba ?_ ?_<;>try exact Za)|refine bz (us:=aY u.cl) ?_ rfl rfl ⟨by show 1<=3;decide,rfl⟩|(refine ae (aa (vm ?_ ?_)))|exact h6t|intro hc)
 rotate_left
 ·have e:=aW (f:=fE u) (n:=u.fns.length) hlf hbt rfl (by rw[hfe,if_pos (by assumption)];assumption)
  rw[hfe,if_pos (by assumption)]at e
  specialize k ((n0+t:Nat):Int) (-1);unfold qu at k;replace k:=Ik k;rw[e]at k;replace k:=Ik k;exact E1 k
 have hz:lO u.cl (el u.fns (n0+t)) (el u.cl j).name (el (el u.cl j).methods t)=0:=by assumption
 rw[if_neg (not_not.2 hz)]at hfe
 have hz2:=Nb hz
 refine aD (fun m:Nat=>[(1,.ptr 1 _ 0),(6,.int .i64 ((n0+t:Nat):Int)),(7,.int .i64 ((c9 (u.fns.take (n0+t))+jU ((el u.fns (n0+t)).code.take m):Nat):Int)),(9,.ptr 9 _ 0),(12,.ptr 12 _ 0),(23,pL 4 gS u.cl),(24,.int .i64 (u.cl.length:Nat)),(25,.int .i64 j),(30,pL 4 cb (el u.cl j).methods),(31,.int .i64 ((el u.cl j).methods.length:Nat)),(32,.int .i64 t),(54,.int .i64 ((el u.fns (n0+t)).code.length:Nat)),(55,.int .i64 m)]) (fun _=>[(1,some _,.cells (bK u)),(9,some _,.cells (gS (el u.cl j))),(12,some _,.cells (eN (el u.fns (n0+t))))]) (fun m=>m<=(el u.fns (n0+t)).code.length/\ ∀i,i<m->nR u.cl (el u.fns (n0+t)) i=0) (fun m=>(el u.fns (n0+t)).code.length-m) 0 ⟨Nat.zero_le _,gY⟩ .su .su ?_
 rintro m ⟨hm,hbm⟩
 have hcn:=FR (l:=(el u.fns (n0+t)).code) (j:=m)
 by_cases hlt3:m<(el u.fns (n0+t)).code.length
 ·have hcs:=x5 hlt3
  repeat'(first|refine Qa ?_|(refine Ba ?_ ?_<;>try exact Za)|refine bz (us:=aY u.cl) ?_ rfl rfl ⟨by show 1<=3;decide,rfl⟩|(refine ae (aa (tu hk ?_ ?_ ?_)))|exact hlt3|(show _<=_;omega)|intro hc)
  ·rw[if_pos (by assumption)]at hcs
   rw[show((c9 (u.fns.take (n0+t))+jU ((el u.fns (n0+t)).code.take m):Nat):Int)+1=((c9 (u.fns.take (n0+t))+jU ((el u.fns (n0+t)).code.take (m+1)):Nat):Int)by omega]
   (refine⟨m+1,by dsimp only;omega,⟨om,fun i hi=>?_⟩,.su,.su⟩;by_cases q:i=m;(subst q;assumption);(exact hbm i om))
  ·rw[if_neg (by assumption)]at hcs
   rw[show((c9 (u.fns.take (n0+t))+jU ((el u.fns (n0+t)).code.take m):Nat):Int)=((c9 (u.fns.take (n0+t))+jU ((el u.fns (n0+t)).code.take (m+1)):Nat):Int)by omega]
   (refine⟨m+1,by dsimp only;omega,⟨om,fun i hi=>?_⟩,.su,.su⟩;by_cases q:i=m;(subst q;assumption);(exact hbm i om))
  ·have ei:=aW (f:=nR u.cl (el u.fns (n0+t))) hlt3 hbm rfl am
   rw[ei]at hfe
   have e:=aW (f:=fE u) (n:=u.fns.length) hlf hbt hfe am
   specialize k ((n0+t:Nat):Int) m;unfold qu at k;replace k:=Ik k;rw[e]at k;replace k:=Ik k;exact E1 k
 ·have hml:m=(el u.fns (n0+t)).code.length:=by omega
  have hs:=uZ hlf
  rw[hml,List.take_length]at hcn⊢
  rw[hml]at hbm
  rw[bL hbm]at hfe
  repeat'(first|refine Qa ?_|(refine Ba ?_ ?_<;>try exact Za)|intro hc)
  rw[show((c9 (u.fns.take (n0+t))+jU (el u.fns (n0+t)).code:Nat):Int)=((c9 (u.fns.take (n0+(t+1))):Nat):Int)by rw[show n0+(t+1)=n0+t+1 by omega,hs],show((n0+t:Nat):Int)+1=((n0+(t+1):Nat):Int)by omega]
  refine⟨t+1,by dsimp only;omega,⟨om,fun i hi=>?_,by rw[show n0+(t+1)=n0+t+1 by omega,hs];omega⟩,.su,.su⟩
  by_cases q:i=n0+t
  ·subst q;exact hfe
  ·exact hbt i om
noncomputable def dR (l:List bU)(c m:List Nat):Int:=cK (fun f:bU=>f.cls=c/\f.name=m) l
noncomputable def qE (u:aF)(c m:List Nat):Int:=match bE u.cl c m with
 |some (d,s)=>if s.static=true then -1 else dR u.fns d m
 |none=> -1
theorem O2 {b:Bool}(h:b=false): ¬b=true:=by rw[h];decide
def Dw (u:aF)(w1 w2 w3:PV):List PV:=[pL 4 gS u.cl,pL 7 eN u.fns,.int .i64 u.main,w1,w2,w3]
abbrev eU (u:aF)(lf:List Nat->Option PV)(cf ff:Int->Option PV):List PV:=Dw u (.nC 0 lf) (.nC 1 cf) (.nC 1 ff)
theorem Dx {u:aF}{c m:List Nat}{K:PV->Prop}(k:K (.int .i64 (dR u.fns c m))):PF Tryz.prog X0 Mx 57 [.agg (bK u),.str c,.str m] K:=by
 have hnt:(34:Nat)<=1000000:=by decide
 refine bD Dy (bg _) (by simp) hnt ?_
 unfold dR at k
 repeat'(first|refine pg ?_|refine af ?_|refine ad ?_|refine ah ?_|(refine ak ?_;intro hl)|(refine ai ?_;intro b)|(refine aw ?_ ?_<;>intro hc<;>try first|contradiction|omega)|refine aj ?_|refine aA ?_|refine pc ?_|refine pt ?_|refine pb ?_)
 refine aD (fun j:Nat=>[(1,.str c),(2,.str m),(3,.ptr 3 _ 0),(7,.int .i64 j)]) (fun _=>[(3,some _,.cells (bK u))]) (fun j=>j<=u.fns.length/\ ∀i,i<j-> ¬((el u.fns i).cls=c/\(el u.fns i).name=m)) (fun j=>u.fns.length-j) 0 ⟨Nat.zero_le _,fun i hi=>absurd hi (by omega)⟩ (.cons rfl (.refl _) (.cons rfl (.refl _) (.cons rfl (.refl _) (.cons rfl (.refl _) (.nil))))) (.cons rfl (.refl _) (.nil)) ?_
 rintro j ⟨hj,hb⟩
 repeat'(first|refine pg ?_|refine af ?_|refine ad ?_|refine ah ?_|(refine ak ?_;intro hl)|(refine ai ?_;intro b)|(refine aw ?_ ?_<;>intro hc<;>try first|contradiction|omega)|refine aj ?_|refine aA ?_|refine pc ?_|refine pt ?_|refine pb ?_)
 ·rw[gg (p:=(fun f:bU=>f.cls=c/\f.name=m)) (j:=j) (by omega) ⟨by assumption,by assumption⟩ hb]at k
  exact⟨Or.inr rfl,⟨trivial,trivial⟩,_,_,rfl,.refl _,k⟩
 ·refine⟨j+1,by dsimp only;omega,⟨by omega,fun i hi=>?_⟩,(.cons rfl (.refl _) (.cons rfl (.refl _) (.cons rfl (.refl _) (.cons rfl (.refl _) (.nil))))),(.cons rfl (.refl _) (.nil))⟩
  by_cases q:i=j
  ·subst q;exact fun q=>absurd q.2 (by assumption)
  ·exact hb i (by omega)
 ·refine⟨j+1,by dsimp only;omega,⟨by omega,fun i hi=>?_⟩,(.cons rfl (.refl _) (.cons rfl (.refl _) (.cons rfl (.refl _) (.cons rfl (.refl _) (.nil))))),(.cons rfl (.refl _) (.nil))⟩
  by_cases q:i=j
  ·subst q;exact fun q=>absurd q.1 (by assumption)
  ·exact hb i (by omega)
 ·rw[gh (p:=(fun f:bU=>f.cls=c/\f.name=m)) fun i hi=>hb i (by omega)]at k
  exact⟨Or.inr rfl,⟨trivial,trivial⟩,_,_,rfl,.refl _,k⟩
theorem nQ {u:aF}{c m:List Nat}{K:PV->Prop}(k:K (.int .i64 (dR u.fns c m))):PF Tryz.prog X0 Mx 23 [.agg (bK u),.str c,.str m] K:=by
 have hnt:(11:Nat)<=1000000:=by decide
 refine bD Dz (bg _) (by simp) hnt ?_
 repeat'(first|refine pg ?_|refine af ?_|(refine ai ?_;intro b)|refine au ?_|refine ae (aa (Dx ?_))|refine pc ?_|refine pt ?_)
 exact⟨Or.inr rfl,⟨trivial,trivial⟩,_,_,rfl,.refl _,k⟩
theorem ue {u:aF}{c m:List Nat}{K:PV->Prop}(cg:u.cl.length<=64)(k:K (.int .i64 (qE u c m))):PF Tryz.prog X0 Mx 244 [.agg (bK u),.str c,.str m] K:=by
 have hnt:(29:Nat)<=1000000:=by decide
 refine bD uf (bg _) (by simp) hnt ?_
 unfold qE at k
 repeat'(first|refine pg ?_|refine af ?_|(refine aG ?_ ?_<;>intro hc<;>try contradiction)|(refine ai ?_;intro b)|refine au ?_|refine bz (us:=aY u.cl) ?_ rfl rfl ⟨by show 1<=3;decide,rfl⟩|(refine ae (aa (il cg (fun d s hL=>?_) fun hL=>?_)))|refine aI ?_|refine ae (aa (nQ ?_))|refine pc ?_|refine pt ?_)
 all_goals rw[hL]at k
 all_goals try dsimp only at k
 all_goals first|(rw[if_pos (by assumption)]at k;exact⟨Or.inr rfl,⟨trivial,trivial⟩,_,_,rfl,.refl _,k⟩)|(rw[if_neg (O2 (by assumption))]at k;exact⟨Or.inr rfl,⟨trivial,trivial⟩,_,_,rfl,.refl _,k⟩)|exact⟨Or.inr rfl,⟨trivial,trivial⟩,_,_,rfl,.refl _,k⟩
theorem A6 {f:bU}{c m:List Nat}{K:PV->Prop}(kt:(f.cls=c/\f.name=m)->K (.bool true))(kf: ¬(f.cls=c/\f.name=m)->K (.bool false)):PF Tryz.prog X0 Mx 49 [.agg (eN f),.fp [.str c] 0,.fp [.str m] 0] K:=by
 have hnt:(15:Nat)<=1000000:=by decide
 refine bD A7 (bg _) (by simp) hnt ?_
 repeat'(first|refine pg ?_|refine af ?_|refine ad ?_|refine ah ?_|(refine ai ?_;intro b)|(refine aw ?_ ?_<;>intro hc<;>try first|contradiction|omega)|refine pc ?_|refine pt ?_)
 all_goals first
  |exact⟨Or.inr rfl,⟨trivial,trivial⟩,_,_,rfl,.refl _,kt ⟨by assumption,by assumption⟩⟩
  |exact⟨Or.inr rfl,⟨trivial,trivial⟩,_,_,rfl,.refl _,kf (fun q=>by first|exact absurd q.1 (by assumption)|exact absurd q.2 (by assumption))⟩
theorem jA {l:List bU}{c m:List Nat}{K:PV->Prop}(k:K (.int .i64 (dR l c m))):PF Tryz.prog X0 Mx 48 [pL 7 eN l,.fn 49 [.fp [.str c] 0,.fp [.str m] 0]] K:=by
 have hnt:(19:Nat)<=1000000:=by decide
 refine bD jB (bg _) (by simp) hnt ?_
 unfold dR at k
 repeat'(first|refine pg ?_|refine af ?_|(refine ak ?_;intro hl)|(refine aw ?_ ?_<;>intro hc<;>try first|contradiction|omega)|refine aj ?_|refine aA ?_|refine ay ?_|refine pc ?_|refine pt ?_|refine pb ?_)
 refine aD (fun j:Nat=>[(0,pL 7 eN l),(1,.fn 49 [.fp [.str c] 0,.fp [.str m] 0]),(7,.int .i64 (l.length:Nat)),(8,.int .i64 j)]) (fun _=>[]) (fun j=>j<=l.length/\ ∀i,i<j-> ¬((el l i).cls=c/\(el l i).name=m)) (fun j=>l.length-j) 0 ⟨Nat.zero_le _,fun i hi=>absurd hi (by omega)⟩ (.cons rfl (.refl _) (.cons rfl (.refl _) (.cons rfl (.refl _) (.cons rfl (.refl _) (.nil))))) (.nil) ?_
 rintro j ⟨hj,hb⟩
 repeat'(first|refine pg ?_|refine af ?_|(refine ak ?_;intro hl)|(refine aw ?_ ?_<;>intro hc<;>try first|contradiction|omega)|refine aj ?_|refine aA ?_|refine ay ?_|(refine ae (aa (A6 (fun hc=>?_) fun hc=>?_)))|refine pc ?_|refine pt ?_|refine pb ?_)
 ·rw[gg (p:=(fun f:bU=>f.cls=c/\f.name=m)) (j:=j) (by omega) hc hb]at k
  exact⟨Or.inr rfl,⟨trivial,trivial⟩,_,_,rfl,.refl _,k⟩
 ·refine⟨j+1,by dsimp only;omega,⟨by omega,fun i hi=>?_⟩,(.cons rfl (.refl _) (.cons rfl (.refl _) (.cons rfl (.refl _) (.cons rfl (.refl _) (.nil))))),(.nil)⟩
  by_cases q:i=j
  ·subst q;assumption
  ·exact hb i (by omega)
 ·rw[gh (p:=(fun f:bU=>f.cls=c/\f.name=m)) fun i hi=>hb i (by omega)]at k
  exact⟨Or.inr rfl,⟨trivial,trivial⟩,_,_,rfl,.refl _,k⟩
theorem me {u:aF}{c m:List Nat}{K:PV->Prop}(k:K (.int .i64 (dR u.fns c m))):PF Tryz.prog X0 Mx 16 [.agg (bK u),.str c,.str m] K:=by
 have hnt:(11:Nat)<=1000000:=by decide
 refine bD G0 (bg _) (by simp) hnt ?_
 repeat'(first|refine pg ?_|refine af ?_|refine ad ?_|(refine ai ?_;intro b)|(refine dJ (jA ⟨rfl,?_⟩) rfl rfl rfl (.cons _ _ _ _ (.refl _) (.cons _ _ _ _ (.fn _ _ _ (.cons _ _ _ _ (.ptr _ _ _ _ _ rfl (.refl _)) (.cons _ _ _ _ (.ptr _ _ _ _ _ rfl (.refl _)) .nil))) .nil)))|refine pc ?_|refine pt ?_)
 exact⟨Or.inr rfl,⟨trivial,trivial⟩,_,_,rfl,.refl _,k⟩
theorem lr {u:aF}{w1 w2 w3:PV}{c m:List Nat}{K:PV->Prop}(cg:u.cl.length<=64)(AK: ∀d t,bE u.cl c m=some (d,t)->t.params.length*16<=140737488355328)(k:K (.int .i64 (qE u c m))):PF Tryz.prog X0 Mx 213 [.fp (Dw u w1 w2 w3) 0,.str c,.str m] K:=by
 have hnt:(35:Nat)<=1000000:=by decide
 refine bD ug (bg _) (by simp) hnt ?_
 unfold qE at k
 repeat'(first|refine pg ?_|refine af ?_|(refine aG ?_ ?_<;>intro hc<;>try contradiction)|(refine ai ?_;intro b)|refine iF (us:=aY u.cl) ?_ rfl ⟨by show 1<=6;decide,rfl⟩|refine iF (us:=bK u) ?_ rfl ⟨by show 3<=6;decide,rfl⟩|(refine ae (aa (nD cg AK (fun d s hL=>?_) fun hL=>?_)))|refine aI ?_|refine ae (aa (me ?_))|refine pc ?_|refine pt ?_)
 all_goals rw[hL]at k
 all_goals try dsimp only at k
 all_goals first|(rw[if_pos (by assumption)]at k;exact⟨Or.inr rfl,⟨trivial,trivial⟩,_,_,rfl,.refl _,k⟩)|(rw[if_neg (O2 (by assumption))]at k;exact⟨Or.inr rfl,⟨trivial,trivial⟩,_,_,rfl,.refl _,k⟩)|exact⟨Or.inr rfl,⟨trivial,trivial⟩,_,_,rfl,.refl _,k⟩
noncomputable def mQ (x:bF):Int:=if hasB x.op 100=true then x.dst else -1
theorem G4 {x:bF}{K:PV->Prop}(k:K (.int .i64 (mQ x))):PF Tryz.prog X0 Mx 279 [.agg (dh x)] K:=by
 have hnt:(8:Nat)<=1000000:=by decide
 refine bD G5 (bg _) (by simp) hnt ?_
 unfold mQ at k
 repeat'(first|refine pg ?_|refine af ?_|refine ad ?_|(refine ai ?_;intro b)|(refine ae (aa (cJ (f:=100) (fun hc=>?_) fun hc=>?_)))|refine pc ?_|refine pt ?_)
 ·rw[if_pos hc]at k
  exact⟨Or.inr rfl,⟨trivial,trivial⟩,_,_,rfl,.refl _,k⟩
 ·rw[if_neg (O2 hc)]at k
  exact⟨Or.inr rfl,⟨trivial,trivial⟩,_,_,rfl,.refl _,k⟩
theorem G6 {x:bF}{K:PV->Prop}(k:K (.int .i64 (mQ x))):PF Tryz.prog X0 Mx 242 [.agg (dh x)] K:=by
 have hnt:(5:Nat)<=1000000:=by decide
 refine bD G7 (bg _) (by simp) hnt ?_
 repeat'(first|refine pg ?_|refine af ?_|(refine ai ?_;intro b)|refine au ?_|refine ae (aa (G4 ?_))|refine pc ?_|refine pt ?_)
 exact⟨Or.inr rfl,⟨trivial,trivial⟩,_,_,rfl,.refl _,k⟩
theorem uh {x:bF}{K:PV->Prop}(k:K (.int .i64 (mQ x))):PF Tryz.prog X0 Mx 212 [.agg (dh x)] K:=by
 have hnt:(8:Nat)<=1000000:=by decide
 refine bD Jm (bg _) (by simp) hnt ?_
 unfold mQ at k
 rw[<-dN (Or.inl rfl)]at k
 repeat'(first|refine pg ?_|refine af ?_|refine ad ?_|(refine ai ?_;intro b)|(refine ae (aa (cq (f:=100) (by decide) (fun hc=>?_) fun hc=>?_)))|refine pc ?_|refine pt ?_)
 ·rw[if_pos hc]at k
  exact⟨Or.inr rfl,⟨trivial,trivial⟩,_,_,rfl,.refl _,k⟩
 ·rw[if_neg (O2 hc)]at k
  exact⟨Or.inr rfl,⟨trivial,trivial⟩,_,_,rfl,.refl _,k⟩
def Jn (lf:List Nat->Option PV)(u:aF)(f:bU)(x:bF):Prop:= ∀i,i<f.code.length->mQ (el f.code i)=x.a->(el f.code i).op=6/\lf (el f.code i).cls=some (.bool true)/\0<=qE u (el f.code i).cls x.name
theorem qF {u:aF}{lf:List Nat->Option PV}{cf ff:Int->Option PV}{f:bU}{x:bF}{K:PV->Prop}(cg:u.cl.length<=64)(AK: ∀c m d t,bE u.cl c m=some (d,t)->t.params.length*16<=140737488355328)(hlf: ∀c v,lf c=some v-> ∃b,v= .bool b)(kt:Jn lf u f x->K (.bool true))(kf: ¬Jn lf u f x->K (.bool false)):PF Tryz.prog X0 Mx 145 [.fp (eU u lf cf ff) 0,.agg (eN f),.agg (dh x)] K:=by
 have hnt:(46:Nat)<=1000000:=by decide
 refine bD qG (bg _) (by simp) hnt ?_
 repeat'(first|refine pg ?_|refine af ?_|refine ad ?_|refine ah ?_|(refine ak ?_;intro hl)|(refine ai ?_;intro b)|(refine aw ?_ ?_<;>intro hc<;>try first|contradiction|omega)|refine aj ?_|refine aA ?_|refine au ?_|refine ay ?_|refine pc ?_|refine pt ?_|refine pb ?_)
 refine aD (fun j:Nat=>[(0,.fp (eU u lf cf ff) 0),(4,.ptr 4 _ 0),(5,.ptr 5 _ 0),(10,pL 10 dh f.code),(11,.int .i64 (f.code.length:Nat)),(12,.int .i64 j)]) (fun _=>[(4,some _,.cells (eN f)),(5,some _,.cells (dh x))]) (fun j=>j<=f.code.length/\ ∀i,i<j->mQ (el f.code i)=x.a->(el f.code i).op=6/\lf (el f.code i).cls=some (.bool true)/\0<=qE u (el f.code i).cls x.name) (fun j=>f.code.length-j) 0 ⟨Nat.zero_le _,fun i hi=>absurd hi (by omega)⟩ (.cons rfl (.refl _) (.cons rfl (.refl _) (.cons rfl (.refl _) (.cons rfl (.refl _) (.cons rfl (.refl _) (.cons rfl (.refl _) (.nil))))))) (.cons rfl (.refl _) (.cons rfl (.refl _) (.nil))) ?_
 rintro j ⟨hj,hb⟩
 repeat'(first|refine pg ?_|refine af ?_|refine ad ?_|refine ah ?_|(refine ak ?_;intro hl)|(refine ai ?_;intro b)|(refine aw ?_ ?_<;>intro hc<;>try first|contradiction|omega)|refine aj ?_|refine aA ?_|refine au ?_|refine ay ?_|refine aX ?_|refine pd ?_|refine fy.mk rfl ?_|refine aI ?_|refine Jo hnt rfl rfl ?_|(refine qH (fun v hv=>?_) (fun hv=>?_);(obtain⟨b,rfl⟩:=hlf _ _ hv;rcases b with _|_))|refine ix (aR (uh ?_))|refine ix (aR (lr cg (AK _ _) ?_))|refine pc ?_|refine pt ?_|refine pb ?_)
 all_goals first
  |exact⟨Or.inr rfl,⟨trivial,trivial⟩,_,_,rfl,.refl _,kf (fun q=>by obtain⟨q1,q2,q3⟩:=q j (by omega) (by assumption);first|contradiction|omega|(rw[hv]at q2;cases q2))⟩
  |(refine⟨j+1,by dsimp only;omega,⟨by omega,fun i hi=>?_⟩,(.cons rfl (.refl _) (.cons rfl (.refl _) (.cons rfl (.refl _) (.cons rfl (.refl _) (.cons rfl (.refl _) (.cons rfl (.refl _) (.nil))))))),(.cons rfl (.refl _) (.cons rfl (.refl _) (.nil)))⟩;by_cases q:i=j;(subst q;first|exact fun q=>absurd q (by assumption)|exact fun _=>⟨by assumption,by assumption,by omega⟩);(exact hb i (by omega)))
  |exact⟨Or.inr rfl,⟨trivial,trivial⟩,_,_,rfl,.refl _,kt (fun i hi=>hb i (by omega))⟩
end Go.Proofs.YtemehfgkfidgjaaGreatDoor.Ev
