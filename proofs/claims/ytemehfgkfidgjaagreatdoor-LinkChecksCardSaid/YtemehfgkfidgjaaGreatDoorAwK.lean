/- CoverStates, part 41 -/
import Derived.Test.YtemehfgkfidgjaaGreatDoorMoB
import Derived.Test.YtemehfgkfidgjaaGreatDoorClMk
import Derived.Lib.Meet
set_option linter.all false
set_option maxHeartbeats 1000000
namespace Go.Proofs.YtemehfgkfidgjaaGreatDoor.Ev
open Go Go.RowKit Go.Proofs
theorem xE {dr:Prop}{P:Program}{ng f:Nat}{args:List PV}{K:PV->aJ->Prop}(w0:tB dr P ng f args [] K){cd:List (Nat×Nat)}{h:H}(hw:WF h)(hc:Ctx ⟨h.n,cd⟩ h){F:Nat->Prop}(st:St ⟨h.n,cd⟩ h F []){av:List AV}(ra:Rs h F args av){β:bS}{w:World}{cs:List Value}(hgb:GB ng β)(hr:HR h.n β (view ⟨h.n,cd⟩ h) w)(hv:bh β av cs)(hfr:MG h β):
    Calls P f cs.toArray w fun e w'=> ∃v val β' h' F' p S',e= .returned val/\VR β' v val/\R h' F' p v/\K p S'/\Below w.heap.size w w':=by
 refine(w0.run ⟨h.n,cd⟩ h F av st ra).run hw hc β w cs hgb hr hv hfr _ fun v h' β' val w' ⟨p,S',F',_,_,q3,q4⟩ st hP hvr=>⟨v,val,β',h',F',p,S',rfl,hvr,q3,q4,⟨hP.os,hP.tape.1,hP.output,hP.size,fun B hB=>hP.frame B hB fun id b L hid hg _=>?_⟩⟩
 have h1:=db hw (bN (dV hg)).1
 have h2:h.n<=id:=hid
 omega
theorem xF {dr:Prop}{M:Mf}(hM:da dr Tryz.prog Tryz.prog.globals.size M){fuel f:Nat}{c:C}{h h':H}{av:List AV}{v:AV}(hev:ev (cC Tryz.prog) (bJ Tryz.prog X0) M fuel c (.call (.Jc f) av) h= .call v h')(hw:WF h)(hc:Ctx c h){β:bS}{w:World}{cs:List Value}(hgb:GB Tryz.prog.globals.size β)(hr:HR c.floor β (view c h) w)(hv:bh β av cs)(hfr:MG h β):
    Calls Tryz.prog f cs.toArray w fun e w'=> ∃val,e= .returned val/\ ∃β',VR β' v val:=by
 have hC:=(oG (dr:=dr) (ng:= Tryz.prog.globals.size) mixed (Py Tryz.prog _) (Nat.le_refl _) fw AO hM fuel).2
 have hfd:kQ dr Tryz.prog Tryz.prog.globals.size f av c h v h':=hC (.Jc f) av c h v h' hc hw (by unfold eC;rw[hev])
 obtain⟨_,_,hd⟩:=hfd
 exact hd β w cs hgb hr hv (fun id h1 _=>hfr id h1) _ fun β' val w' hP hvr=>⟨val,rfl,β',hvr⟩
/-! data,read off the heap of a run -/
def Jf (f:Nat->Bool):Nat->Bool
 |0=>true
 |n+1=>f n&&Jf f n
theorem tC {f:Nat->Bool}: ∀{n:Nat},Jf f n=true-> ∀i,i<n->f i=true
 |n+1,h,i,hi=>by
  rw[Jf,Bool.and_eq_true]at h
  rcases Nat.lt_or_ge i n with q|q
  ·exact tC h.2 i q
  ·rw[show i=n by omega];exact h.1
def wD (f:PV->AV->Bool):List PV->List AV->Bool
 |[],[]=>true
 |p::ps,v::vs=>f p v&&wD f ps vs
 |_,_=>false
def AP (c:C)(h:H):Nat->PV->AV->Bool
 |0,_,_=>false
 |n+1,p,v=>match p,v with
  | .bool a,.bool b=>a==b
  | .int k a,.int l b=>eD k l&&Jg a b
  | .str s,.str t=>GU s t
  | .tr _ 0 _,.aE=>true
  | .tr e m rows,.sl id off m' e' _=>Nat.blt 0 m&&Nat.ble m 9223372036854775807&&(Nat.beq m m'&&Nat.beq e e')&&match cr c h id with
   |some (.cells vs)=>Nat.ble (off+m*e) vs.length&&Jf (fun i=>Nat.beq (rows i).length e&&wD (AP c h n) (rows i) ((vs.drop (off+i*e)).take e)) m
   |_=>false
  |_,_=>false
def Fv (c:C)(h:H)(id:Nat):Prop:=id<h.n/\seen c.cd id=true
theorem tD {f:PV->AV->Bool}{h:H}{F:Nat->Prop}(hf: ∀p v,f p v=true->R h F p v): ∀{ps:List PV} {vs:List AV},wD f ps vs=true->Rs h F ps vs
 |[],[],_=> .nil
 |p::ps,v::vs,e=>by
  rw[wD,Bool.and_eq_true]at e
  exact .cons _ _ _ _ (hf p v e.1) (tD hf e.2)
 |[],_::_,e=>by simp[wD]at e
 |_::_,[],e=>by simp[wD]at e
theorem yM {c:C}{h:H}(hw:WF h): ∀(n:Nat) (p:PV) (v:AV),AP c h n p v=true->R h (Fv c h) p v
 |0,p,v,e=>by simp[AP]at e
 |n+1,p,v,e=>by
  unfold AP at e
  split at e
  ·have:=beq_iff_eq.1 e
   subst this
   exact .bool _
  ·rw[Bool.and_eq_true]at e
   have e1:=ij e.1
   have e2:=xG e.2
   subst e1 e2
   exact .int _ _
  ·have:=qz e
   subst this
   exact .str _
  ·exact .tX _ _ _ (Or.inl rfl)
  ·rename_i e0 m rows id off m' e' cap
   simp only[Bool.and_eq_true]at e
   obtain⟨⟨⟨e1,e2⟩,e3,e4⟩,e5⟩:=e
   have e3:=Nat.eq_of_beq_eq_true e3
   have e4:=Nat.eq_of_beq_eq_true e4
   subst e3 e4
   split at e5
   ·rename_i vs hg
    rw[Bool.and_eq_true]at e5
    obtain⟨g1,g2⟩:=bN hg
    have h1:0<m:=by simpa[Nat.blt_eq]using e1
    refine .tr _ _ _ id off cap vs ⟨h1,Nat.le_of_ble_eq_true e2⟩ ⟨db hw g1,g2⟩ g1 (Nat.le_of_ble_eq_true e5.1) (fun i hi=>?_) fun i hi=>?_
    ·have:=tC e5.2 i hi
     rw[Bool.and_eq_true]at this
     exact Nat.eq_of_beq_eq_true this.1
    ·have:=tC e5.2 i hi
     rw[Bool.and_eq_true]at this
     exact tD (yM hw n) this.2
   ·cases e5
  ·cases e
/-! names below a bound -/
def yN (N:Nat):AV->Bool
 | .bool _| .int _ _| .str _| .eG| .aE| .dt| .jb| .sT=>true
 | .ptr id _=>Nat.blt id N
 | .sl id _ _ _ _=>Nat.blt id N
 |_=>false
def Pz (c:C)(h:H):Bool:=Jf (fun i=>match cr c h i with
 |none=>true
 |some .dead=>true
 |some (.cells vs)=>vs.all (yN h.n)
 |_=>false) h.n
def sU (N:Nat)(β:bS):bS:=fun id=>if id<N then β id else none
theorem Fm {N:Nat}{β:bS}{v:AV}{x:Value}(e:yN N v=true)(hv:VR β v x):VR (sU N β) v x:=by
 cases v with
 |ptr id off=>
  simp only[yN,Nat.blt_eq]at e
  simp only[VR]at hv⊢
  obtain⟨L,h1,h2⟩:=hv
  exact⟨L,by unfold sU;rw[if_pos e];exact h1,h2⟩
 |sl id _ _ _ _=>
  simp only[yN,Nat.blt_eq]at e
  simp only[VR]at hv⊢
  obtain⟨L,o,cp,h1,h2⟩:=hv
  exact⟨L,o,cp,by unfold sU;rw[if_pos e];exact h1,h2⟩
 |bool _=>simpa[VR]using hv
 |int _ _=>simpa[VR]using hv
 |str _=>simpa[VR]using hv
 |eG=>simpa[VR]using hv
 |aE=>simpa[VR]using hv
 |dt=>simpa[VR]using hv
 |jb=>simpa[VR]using hv
 |sT=>simpa[VR]using hv
 |_=>cases e
theorem AQ {N:Nat}{β:bS}{vs:List AV}{cs:List Value}(e:vs.all (yN N)=true)(hv:bh β vs cs):bh (sU N β) vs cs:=by
 refine bh.of hv.length fun i v c h1 h2=>?_
 obtain⟨c',h3,h4⟩:=hv.get h1
 rw[h2]at h3
 cases h3
 exact Fm (List.all_eq_true.1 e v (List.mem_of_getElem? h1)) h4
theorem MK {f:Nat}{c:C}{h:H}{β:bS}{w:World}(hw:WF h)(e:Pz c h=true)(hr:HR f β (view c h) w):HR f (sU h.n β) (view c h) w:=by
 have hlt: ∀id b,view c h id=some b->id<h.n:=fun id b q=>db hw (bN (dV q)).1
 refine⟨fun id b q=>?_,fun i j b d L M q1 q2 q3 q4 q5=>?_⟩
 ·obtain⟨L,h1,h2,h3⟩:=hr.at_ id b q
  have hid:=hlt id b q
  refine⟨L,by unfold sU;rw[if_pos hid];exact h1,h2,?_⟩
  have k:=tC e id hid
  rw[dV q]at k
  cases b with
  |dead=>trivial
  |cells vs=>
   obtain⟨cur,t,a1,a2,a3⟩:=h3
   exact⟨cur,t,a1,a2,fun i v hi=>by
    obtain⟨c',c1,c2⟩:=a3 i v hi
    exact⟨c',c1,Fm (List.all_eq_true.1 k v (List.mem_of_getElem? hi)) c2⟩⟩
  |_=>cases k
 ·unfold sU at q3 q4
  rw[if_pos (hlt i b q1)]at q3
  rw[if_pos (hlt j d q2)]at q4
  exact hr.inj i j b d L M q1 q2 q3 q4 q5
/-! the example's summary and unit -/
def Um:List Nat:=[65]
def TZ:List Nat:=[105,100]
def R7:List Nat:=[105,110,116]
def Vs:List Nat:=[77,97,105,110]
def Vt:List Nat:=[109,97,105,110]
def PE:ll:=⟨1,[⟨Um,TZ,⟨TZ,true,[R7],R7⟩,true,[⟨-2,-1⟩,⟨-1,-1⟩,⟨0,-1⟩]⟩]⟩
def MH:aF:=⟨[⟨Um,[],[],[⟨TZ,true,[R7],R7⟩]⟩,⟨Vs,[],[],[⟨Vt,true,[],[]⟩]⟩],[⟨Um,TZ,true,1,[⟨[120],R7⟩],R7,[⟨13,0,0,0,0,[],[],[],0,-1⟩]⟩,⟨Vs,Vt,true,0,[],[],[⟨13,0,-1,0,0,[],[],[],0,-1⟩]⟩],1⟩
theorem Jh: ∀i,i<MH.fns.length-> ∀j,j<(el MH.fns i).code.length->(el (el MH.fns i).code j).args.length<=iC:=by
 intro i hi j hj
 have h2:i<2:=hi
 have:i=0\/i=1:=by omega
 rcases this with rfl|rfl
 ·have h3:j<1:=hj
  obtain rfl:j=0:=by omega
  exact Nat.zero_le _
 ·have h3:j<1:=hj
  obtain rfl:j=0:=by omega
  exact Nat.zero_le _
theorem Fo {u:aF}{l:ll}(hk:qu u=0):Sg u/\T0 u/\ ∀C,wE u l.bf l.bf.length C-> ∀i,i<u.fns.length->(tY u (ia u C C.length) i↔qA u (kh l.bf l.bf.length) i):=⟨Vu hk,Vv hk,fun C hC i hi=>PH hk hC hi⟩
theorem Fp {u:aF}(hk:qu u=0):u.cl.length<=64/\u.fns.length<1000000/\ ∀i,i<u.fns.length->(el u.fns i).code.length<=1000000:=by
 have h:=Vu hk
 exact⟨h.cg,h.fn,fun i hi=>by have:=h.cl i hi;omega⟩
def yO:List (Nat×List (List Nat)):=[(0,nz),(2,xH)]
theorem yP {h:H}{F:Nat->Prop}: ∀(l:List (List Nat)),Rs h F (l.map PV.str) (l.map AV.str)
 |[]=> .nil
 |s::l=> .cons _ _ _ _ (.str s) (yP l)
theorem Fq {h:H}{F:Nat->Prop}(hg: ∀p∈yO,h.get p.1=some (.cells (p.2.map AV.str)))(hn: ∀p∈yO,F p.1):ki h F:=by
 intro g row e
 have e':(bif Nat.beq g 0 then some (nz.map PV.str)else bif Nat.beq g 2 then some (xH.map PV.str)else none)=some row:=e
 cases h1:Nat.beq g 0 with
 |true=>
  rw[h1]at e'
  have e1:=Nat.eq_of_beq_eq_true h1
  subst e1
  cases e'
  exact⟨hn (_,nz) (.head _),_,hg (_,nz) (.head _),yP _⟩
 |false=>
  rw[h1]at e'
  cases h2:Nat.beq g 2 with
  |true=>
   rw[h2]at e'
   have e1:=Nat.eq_of_beq_eq_true h2
   subst e1
   cases e'
   exact⟨hn (_,xH) (.tail _ (.head _)),_,hg (_,xH) (.tail _ (.head _)),yP _⟩
  |false=>rw[h2]at e';cases e'
noncomputable def Uo:Mf:=fun f args c h=>bif Nat.beq f 5 then match args with
 |[.agg a,.agg b]=>bif (wD (AP c h 8) (jv PE) a&&wD (AP c h 8) (bK MH) b)&&((a.all (yN h.n)&&b.all (yN h.n))&&(Pz c h&&(Nat.ble 3 h.n&&(yO.all fun p=>sV (cr c h p.1) (some (.cells (p.2.map AV.str)))))))then
     match ev (cC Tryz.prog) (bJ Tryz.prog X0) Vw 100000 ⟨h.n,c.cd⟩ (.call (.Jc 6) args) h with
     | .call (.int .i64 n) _=>some (.int .i64 n,h)
     |_=>none
  else none
 |_=>none
 else none
theorem Up: Tryz.prog.globals.size=3:=by kernel_rfl
theorem Ds {dr:Prop}{f n:Nat}{β:bS}{g:View}{w w':World}(hr:HR f β g w)(hb:Below w.heap.size w w')(hd:dr->w.drawn<=w'.drawn):ca dr f n n β g w β g w':=by
 refine⟨Nat.le_refl _,Sub.refl _,fun id L q1 q2=>by(rw[q2]at q1;cases q1),hr.grow hb,hb.os,⟨hb.tape,hd⟩,hb.output,hb.size,fun B hB _=>hb.block B hB,fun id L q1 q2=>by(rw[q2]at q1;cases q1),fun id b q=>Or.inl ⟨b,q⟩⟩
theorem PI:da False Tryz.prog Tryz.prog.globals.size Uo:=by
 intro f args c h v h' er hc hw
 unfold Uo at er
 cases hf:Nat.beq f 5 with
 |false=>rw[hf]at er;cases er
 |true=>
  have:=Nat.eq_of_beq_eq_true hf
  subst this
  rw[hf,cond_true]at er
  split at er
  ·rename_i a b
   generalize hck:((wD (AP c h 8) (jv PE) a&&wD (AP c h 8) (bK MH) b)&&((a.all (yN h.n)&&b.all (yN h.n))&&(Pz c h&&(Nat.ble 3 h.n&&(yO.all fun p=>sV (cr c h p.1) (some (.cells (p.2.map AV.str))))))))=ck at er
   cases ck with
   |false=>cases er
   |true=>
    rw[cond_true]at er
    simp only[Bool.and_eq_true]at hck
    obtain⟨⟨k1,k2⟩,⟨k3,k4⟩,k5,k6,k7⟩:=hck
    split at er
    ·rename_i n h2 hev
     simp only[Option.some.injEq,Prod.mk.injEq]at er
     obtain⟨rfl,rfl⟩:=er
     have hct:Ctx ⟨h.n,c.cd⟩ h:=⟨Nat.le_refl _,hc.cd⟩
     have hgl: ∀p∈yO,cr c h p.1=some (.cells (p.2.map AV.str)):=fun p hp=>nP (List.all_eq_true.1 k7 p hp)
     have st:St ⟨h.n,c.cd⟩ h (Fv c h) []:=St.nil ⟨Nat.le_refl _,hc.cd⟩ (Fq (fun p hp=>(bN (hgl p hp)).1) fun p hp=>⟨db hw (bN (hgl p hp)).1,(bN (hgl p hp)).2⟩) fun id q=>q
     have ra:Rs h (Fv c h) [.agg (jv PE),.agg (bK MH)] [.agg a,.agg b]:= .cons _ _ _ _ (.agg _ _ (tD (yM hw 8) k1)) (.cons _ _ _ _ (.agg _ _ (tD (yM hw 8) k2)) .nil)
     refine kQ.up ⟨Step.refl hw,⟨_,Tryz.func5,by kernel_rfl,by kernel_rfl⟩,fun β w cargs hgb hr hv hfr R hR=>?_⟩
     have hgb2:GB Tryz.prog.globals.size (sU h.n β):=fun g hg=>by
      obtain⟨s,q⟩:=hgb g hg
      rw[Up]at hg
      have:=Nat.le_of_ble_eq_true k6
      exact⟨s,by unfold sU;rw[if_pos (by omega)];exact q⟩
     have hr2:HR h.n (sU h.n β) (view ⟨h.n,c.cd⟩ h) w:=(MK hw k5 hr).up hc.low
     have hv2:bh (sU h.n β) [.agg a,.agg b] cargs:=by
      simp only[bh,VR]at hv⊢
      obtain⟨_,_,rfl,⟨c1,rfl,q1⟩,_,_,rfl,⟨c2,rfl,q2⟩,rfl⟩:=hv
      exact⟨_,_,rfl,⟨c1,rfl,AQ k3 q1⟩,_,_,rfl,⟨c2,rfl,AQ k4 q2⟩,rfl⟩
     have hfr2:MG h (sU h.n β):=fun id hid=>if_neg (by omega)
     have c1:=xF (dr:=False) da.no hev hw hct hgb2 hr2 hv2 hfr2
     obtain⟨v3,h3,hg3,p3,S3,F3,_,_,hr3,e3⟩:=(r9 (u:=MH) (l:=PE) (K:=fun v=>v= .int .i64 (nA PE MH)) Jh Fp rfl) ⟨h.n,c.cd⟩ h (Fv c h) _ st ra
     subst e3
     cases hr3
     obtain⟨N,hN⟩:=yQ lp (bg _) hg3
     have c2:=xF (dr:=False) Fs (hN N (Nat.le_refl _)) hw hct hgb2 hr2 hv2 hfr2
     obtain⟨val,_,⟨β1,d1⟩,β2,d2⟩:=Lib.meet (by kernel_rfl) (c1.mono fun e w' ⟨val,h1,β',h2⟩=>⟨val,h1,(⟨β',h2⟩: ∃β',VR β' (.int .i64 n) val)⟩) (c2.mono fun e w' ⟨val,h1,β',h2⟩=>⟨val,h1,(⟨β',h2⟩: ∃β',VR β' (.int .i64 (nA PE MH)) val)⟩)
     simp only[VR]at d1 d2
     rw[d1]at d2
     injection d2 with _ d2
     refine(xE (oH (K:=fun v _=>v= .int .i64 (nA PE MH)) (Si (dr:=False)) tZ xI Fo rfl) hw hct st ra hgb2 hr2 hv2 hfr2).mono ?_
     rintro e w' ⟨v4,val4,β4,h4,F4,p4,S4,rfl,q1,q2,rfl,q4⟩
     cases q2
     simp only[VR]at q1
     subst q1
     exact hR β _ w' (Ds hr q4 fun q=>q.elim) (by simp only[VR];rw[d2])
    ·cases er
  ·cases er
end Go.Proofs.YtemehfgkfidgjaaGreatDoor.Ev
