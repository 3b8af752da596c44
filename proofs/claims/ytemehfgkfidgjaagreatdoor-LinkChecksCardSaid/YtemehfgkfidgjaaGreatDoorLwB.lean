/- CoverStates, part 44 -/
import Derived.Test.YtemehfgkfidgjaaGreatDoorAwK
import Derived.Test.YtemehfgkfidgjaaGreatDoorLwA
import Derived.SizedLaws
import Derived.Test.YtemehfgkfidgjaaGreatDoorInLo
import Derived.Deep.DeepHandedRow
import Derived.Lib.LaidTab
set_option linter.all false
set_option maxHeartbeats 4000000
namespace Go.Proofs.YtemehfgkfidgjaaGreatDoor.Ev
open Go Go.RowKit Go.Proofs
/-! the variables that the statement lists -/
def EY (l:List (List Nat)):Array Value:=(l.map fun s=>Value.string ⟨(s.map Nat.toUInt8).toArray⟩).toArray
def EZ (W:World):Prop:= ∀p∈yO,∃t,W.heap[p.1]? =some (.cells (EY p.2) t (0,0))
theorem QU: ∀p∈yO,∀s∈p.2,(s.map Nat.toUInt8).map UInt8.toNat=s:=by
 have h:(yO.all fun p=>p.2.all fun s=>decide ((s.map Nat.toUInt8).map UInt8.toNat=s))=true:=by kernel_rfl
 intro p hp s hs
 exact of_decide_eq_true (List.all_eq_true.1 (List.all_eq_true.1 h p hp) s hs)
theorem Pe {w:World}(hE:EZ w)(β:bS): ∀p∈yO.map (fun p=>(p.1,p.2.map AV.str)),p.1<w.heap.size/\BR β ⟨p.1,0,(fun g=>if g= 0 then nz.length else xH.length) p.1,dv⟩ w (.cells p.2):=by
 intro p hp
 obtain⟨q,hq,rfl⟩:=List.mem_map.1 hp
 obtain⟨t,ht⟩:=hE q hq
 have hl:(fun g=>if g= 0 then nz.length else xH.length) q.1=q.2.length:=by
  simp only[yO,List.mem_cons,List.not_mem_nil,or_false]at hq
  rcases hq with rfl|rfl<;>rfl
 have hsz:(EY q.2).size=q.2.length:=by simp[EY]
 refine⟨(Array.getElem?_eq_some_iff.1 ht).1,EY q.2,(t,(0,0)),ht,⟨?_,?_,fun i _ _=>by simp⟩,fun i v hi=>?_⟩
 ·show(fun g=>if g= 0 then nz.length else xH.length) q.1<=_
  rw[hl,hsz];exact Nat.le_refl _
 ·show 0+(q.2.map AV.str).length<=(fun g=>if g= 0 then nz.length else xH.length) q.1
  rw[hl,List.length_map];omega
 ·simp only[List.getElem?_map,Option.map_eq_some_iff]at hi
  obtain⟨s,h1,rfl⟩:=hi
  refine⟨.string ⟨(s.map Nat.toUInt8).toArray⟩,by simp[EY,h1],?_⟩
  simp only[VR]
  exact⟨_,rfl,QU q hq s (List.mem_of_getElem? h1)⟩
theorem QV {w w':World}(hE:EZ w)(hb:Below w.heap.size w w'):EZ w':=fun p hp=>by
 obtain⟨t,h⟩:=hE p hp
 exact⟨t,(hb.block p.1 (Array.getElem?_eq_some_iff.1 h).1).trans h⟩
/-! the closed example -/
def hA:H:=⟨Tr.set depth (Tr.set depth .nil 0 (.cells (nz.map AV.str))) 2 (.cells (xH.map AV.str)),3⟩
theorem E0:isTrue (ev (cC Tryz.prog) (bJ Tryz.prog X0) Uo 1000000 ⟨3,[(0,gQ)]⟩ (.call (.Jc 7) []) hA)=true:=by kernel_rfl
theorem Lv {id:Nat}{b:AB}(e:Tr.get hA.t id=some b): ∃p∈yO,id=p.1/\b= .cells (p.2.map AV.str):=by
 unfold hA at e
 dsimp only at e
 rw[bM _ _ _ _ (Nat.lt_succ_self _),bM _ _ _ _ (Nat.lt_succ_self _),Tr.get_nil]at e
 split at e
 ·rename_i q
  cases e
  exact⟨(_,xH),.tail _ (.head _),q.symm,rfl⟩
 ·split at e
  ·rename_i q
   cases e
   exact⟨(_,nz),.head _,q.symm,rfl⟩
  ·cases e
theorem II (w:World)(hE:EZ w):Calls Tryz.prog 7 #[] w fun e w'=>e= .returned (.bool true)/\Below w.heap.size w w':=by
 obtain⟨h',hk⟩:=CX E0
 let β:bS:=fun g=>if g<3 then some ⟨g,0,(fun g=>if g= 0 then nz.length else xH.length) g,dv⟩else none
 have hlt: ∀p∈yO,p.1<3:=fun p hp=>by
  simp only[yO,List.mem_cons,List.not_mem_nil,or_false]at hp
  rcases hp with rfl|rfl<;>decide
 have hv: ∀id b,view (top 3) hA id=some b-> ∃p∈yO,id=p.1/\b= .cells (p.2.map AV.str):=fun id b q=>Lv (bN (dV q)).1
 have hr:HR (top 3).floor β (view (top 3) hA) w:=by
  refine⟨fun id b q=>?_,fun i j b d L M q1 q2 q3 q4 q5=>?_⟩
  ·obtain⟨p,hp,rfl,rfl⟩:=hv id b q
   obtain⟨h1,h2⟩:=Pe hE β (p.1,p.2.map AV.str) (List.mem_map.2 ⟨p,hp,rfl⟩)
   exact⟨_,if_pos (hlt p hp),h1,h2⟩
  ·obtain⟨p,hp,rfl,_⟩:=hv i b q1
   obtain⟨q,hq,rfl,_⟩:=hv j d q2
   have e1:=(if_pos (hlt p hp)).symm.trans q3
   have e2:=(if_pos (hlt q hq)).symm.trans q4
   cases e1
   cases e2
   exact Or.inl q5
 have hgb:GB Tryz.prog.globals.size β:=fun g hg=>⟨_,if_pos (by rw[Up]at hg;exact hg)⟩
 have hwf:WF hA:=⟨fun id hid=>by
  cases hg:Tr.get hA.t id with
  |none=>rfl
  |some b=>
   obtain⟨p,hp,rfl,_⟩:=Lv hg
   have:=hlt p hp
   have h3:3<=p.1:=hid
   omega,Nat.le_refl _⟩
 refine(Lt (dr:=False) (cargs:=[]) (h0:=hA) mixed fw AO PI hk hwf hgb hr (fun id hid=>if_neg (by have h3:3<=id:=hid;omega)) (by simp[bh])).mono fun e w' ⟨β',val,h1,h2,_,h4,_⟩=>?_
 simp only[VR]at h2
 subst h2
 exact⟨h1,h4⟩
/-! the arguments -/
def Lw:Sh:= .row [.str,.str]
def Lx:Sh:= .row [.str,.bool,.arr .str,.str]
def Pg:Sh:= .row [.str,.str,.arr Lw,.arr Lx]
def Ph:Sh:= .row [.int .i64,.int .i64,.int .i64,.int .i64,.int .i64,.str,.str,.arr (.int .i64),.int .i64,.int .i64]
def Tj:Sh:= .row [.str,.str,.bool,.int .i64,.arr Lw,.str,.arr Ph]
def Gh:Sh:= .row [.row [.arr Pg],.arr Tj,.int .i64]
def Ly (d:Dt):lF:=⟨(d.f 0).s,(d.f 1).s⟩
def Lz (d:Dt):bZ:=⟨(d.f 0).s,(d.f 1).b,(d.f 2).l.map Dt.s,(d.f 3).s⟩
def Pj (d:Dt):aN:=⟨(d.f 0).s,(d.f 1).s,(d.f 2).l.map Ly,(d.f 3).l.map Lz⟩
def LA (d:Dt):bF:=⟨(d.f 0).n,(d.f 1).n,(d.f 2).n,(d.f 3).n,(d.f 4).n,(d.f 5).s,(d.f 6).s,(d.f 7).l.map Dt.n,(d.f 8).n,(d.f 9).n⟩
def LB (d:Dt):bU:=⟨(d.f 0).s,(d.f 1).s,(d.f 2).b,(d.f 3).n,(d.f 4).l.map Ly,(d.f 5).s,(d.f 6).l.map LA⟩
def l7 (d:Dt):aF:=⟨((d.f 0).f 0).l.map Pj,(d.f 1).l.map LB,(d.f 2).n⟩
theorem jq {α:Type} [Inhabited α] {e:Sh}{n:Nat}{f:α->List PV}{to:Dt->α}(hn:e.sz=n)(h: ∀d,Dq (kI e d) (f (to d)))(d:Dt):Dq (kI (.arr e) d) [pL n f (d.l.map to)]:=by
 subst hn
 refine .cons _ _ _ _ ?_ .nil
 unfold pL
 rw[List.length_map]
 exact .tr _ _ _ _ fun i hi=>by rw[cW hi];exact h _
theorem dH.rO {S:aJ}: ∀{a b:List PV} {c d:List PV},dH S a b->dH S c d->dH S (a++c) (b++d)
 |_,_,_,_,.nil,h=>h
 |_,_,_,_,.cons _ _ _ _ q1 q2,h=> .cons _ _ _ _ q1 (dH.rO q2 h)
theorem QW (d:Dt):Dq (kI .str d) (pS d.s):=dH.refl _
theorem QX (d:Dt):Dq (kI (.int .i64) d) (pI d.n):=dH.refl _
theorem LC (d:Dt):Dq (kI Lw d) (s8 (Ly d)):=dH.refl _
theorem LD (d:Dt):Dq (kI Lx d) (cb (Lz d)):= .cons _ _ _ _ (.refl _) (.cons _ _ _ _ (.refl _) (dH.rO (jq (n:=1) rfl QW (d.f 2)) (.cons _ _ _ _ (.refl _) .nil)))
theorem QY (d:Dt):Dq (kI Pg d) (gS (Pj d)):= .cons _ _ _ _ (.refl _) (.cons _ _ _ _ (.refl _) (dH.rO (jq (n:=2) rfl LC (d.f 2)) (dH.rO (jq (n:=4) rfl LD (d.f 3)) .nil)))
theorem QZ (d:Dt):Dq (kI Ph d) (dh (LA d)):= .cons _ _ _ _ (.refl _) (.cons _ _ _ _ (.refl _) (.cons _ _ _ _ (.refl _) (.cons _ _ _ _ (.refl _) (.cons _ _ _ _ (.refl _) (.cons _ _ _ _ (.refl _) (.cons _ _ _ _ (.refl _) (dH.rO (jq (n:=1) rfl QX (d.f 7)) (.cons _ _ _ _ (.refl _) (.cons _ _ _ _ (.refl _) .nil)))))))))
theorem Tk (d:Dt):Dq (kI Tj d) (eN (LB d)):= .cons _ _ _ _ (.refl _) (.cons _ _ _ _ (.refl _) (.cons _ _ _ _ (.refl _) (.cons _ _ _ _ (.refl _) (dH.rO (jq (n:=2) rfl LC (d.f 4)) (.cons _ _ _ _ (.refl _) (dH.rO (jq (n:=10) rfl QZ (d.f 6)) .nil))))))
theorem Q0 (d:Dt):Dq (kI Gh d) (bK (l7 d)):=dH.rO (dH.rO (jq (n:=4) rfl QY ((d.f 0).f 0)) .nil) (dH.rO (jq (n:=7) rfl Tk (d.f 1)) (.cons _ _ _ _ (.refl _) .nil))
def Tl:Sh:= .row [.int .i64,.int .i64]
def Pk:Sh:= .row [.row [.str,.str],Lx,.bool,.arr Tl]
def Gi:Sh:= .row [.int .i64,.arr Pk]
def Tm (d:Dt):wF:=⟨(d.f 0).n,(d.f 1).n⟩
def Pl (d:Dt):cU:=⟨((d.f 0).f 0).s,((d.f 0).f 1).s,Lz (d.f 1),(d.f 2).b,(d.f 3).l.map Tm⟩
def yu (d:Dt):ll:=⟨(d.f 0).n,(d.f 1).l.map Pl⟩
theorem Tn (d:Dt):Dq (kI Tl d) (qw (Tm d)):=dH.refl _
theorem Q1 (d:Dt):Dq (kI Pk d) (gG (Pl d)):= .cons _ _ _ _ (.refl _) (.cons _ _ _ _ (.refl _) (dH.rO (LD (d.f 1)) (.cons _ _ _ _ (.refl _) (dH.rO (jq (n:=2) rfl Tn (d.f 3)) .nil))))
theorem Q2 (d:Dt):Dq (kI Gi d) (jv (yu d)):= .cons _ _ _ _ (.refl _) (dH.rO (jq (n:=8) rfl Q1 (d.f 1)) .nil)
theorem Q3:IJ Tryz.prog 20 30 =some (Gh,3):=by kernel_rfl
theorem Q4:IJ Tryz.prog 20 24 =some (Gi,2):=by kernel_rfl
theorem AM.l {n:Nat}{d:Dt}(h:AM n d):d.l.length<=n/\ ∀x∈d.l,AM n x:=by
 cases h with
 |row l h1 h2=>exact⟨h1,h2⟩
 |arr l h1 h2=>exact⟨h1,h2⟩
 |_=>exact⟨Nat.zero_le _,fun x hx=>absurd hx (by simp[Dt.l])⟩
theorem AM.f {n:Nat}{d:Dt}(h:AM n d)(i:Nat):AM n (d.f i):=by
 have h1:=h.l.2
 unfold Dt.f
 rcases Nat.lt_or_ge i d.l.length with q|q
 ·rw[List.getD_eq_getElem?_getD,List.getElem?_eq_getElem q]
  exact h1 _ (List.getElem_mem q)
 ·rw[List.getD_eq_getElem?_getD,List.getElem?_eq_none q]
  exact .int 0
theorem To {d:Dt}(h:AM iC d): ∀i,i<(l7 d).fns.length-> ∀j,j<(el (l7 d).fns i).code.length->(el (el (l7 d).fns i).code j).args.length<=iC:=by
 intro i hi j hj
 have hi':i<(d.f 1).l.length:=by simpa[l7]using hi
 have e1:el (l7 d).fns i=LB (el (d.f 1).l i):=cW hi'
 rw[e1]at hj⊢
 have hj':j<((el (d.f 1).l i).f 6).l.length:=by simpa[LB]using hj
 have e2:el (LB (el (d.f 1).l i)).code j=LA (el ((el (d.f 1).l i).f 6).l j):=cW hj'
 rw[e2]
 have b1:=(h.f 1).l.2 _ (ba hi')
 have b2:=(b1.f 6).l.2 _ (ba hj')
 have b3:=(b2.f 7).l.1
 show(((el ((el (d.f 1).l i).f 6).l j).f 7).l.map Dt.n).length<=iC
 rw[List.length_map]
 exact b3
theorem eB.agg {w:World}{k k':Nat}{cs:List Value}{avs:List AV}{L:List En}{R:H->Prop}(r:eB w k k' cs avs L R):eB w k k' [.agg cs.toArray] [.agg avs] L R:=
 ⟨r.le,r.ids,r.nodup,r.rp,fun β hβ=>⟨⟨_,_,rfl,⟨_,rfl,by simpa using(r.vr β hβ).1⟩,rfl⟩,(r.vr β hβ).2⟩⟩
theorem IK {H:Type}{enc:TypeId×Value->H}{held:Bool}{w:World}(hE:EZ w){n1 n2:Nat}{c1 c2:List Value}{y1 y2:DataW H×List MemPlace}
    (h1:DataW.trod enc Tryz.prog w 0 (fun _=>true) held n1 24 c1=some y1) (f1:w.noneFrozen y1.2) (m1: ∀x∈DataW.weights Tryz.prog 24 y1.1,x<=reachBytes)
    (h2:DataW.trod enc Tryz.prog w 0 (fun _=>true) held n2 30 c2=some y2) (f2:w.noneFrozen y2.2) (m2: ∀x∈DataW.weights Tryz.prog 30 y2.1,x<=reachBytes):
    Calls Tryz.prog 3 #[.agg c1.toArray,.agg c2.toArray] w fun e w'=>e= .returned (.bool true)/\Below w.heap.size w w':=by
 have hM8:1000<=reachBytes/8:=by decide
 obtain⟨d1,a1,k1,L1,_,b1,r1⟩:=(qh (B:=9223372036854775807) (M:=reachBytes) (enc:=enc) (w:=w) (held:=held) hM8 20 24 Gi 2 Q4).2 n1 c1 y1 h1 f1 m1 Tryz.prog.globals.size
 obtain⟨d2,a2,k2,L2,_,b2,r2⟩:=(qh (B:=9223372036854775807) (M:=reachBytes) (enc:=enc) (w:=w) (held:=held) hM8 20 30 Gh 3 Q3).2 n2 c2 y2 h2 f2 m2 k1
 have r:=(r1.agg).append (r2.agg) (R:=fun h=>Rp 9223372036854775807 false h Gi d1 a1/\Rp 9223372036854775807 false h Gh d2 a2) (fun h q1 q2=>⟨q1,q2⟩)
 have hlt: ∀p∈yO,p.1< Tryz.prog.globals.size:=fun p hp=>by
  rw[Up]
  simp only[yO,List.mem_cons,List.not_mem_nil,or_false]at hp
  rcases hp with rfl|rfl<;>decide
 obtain⟨h0,β,hn,hwf,hcx,⟨q1,q2⟩,hv,hr,hgb,hdom,_,hgl⟩:=r.Q5 (fun g=>if g= 0 then nz.length else xH.length) (yO.map fun p=>(p.1,p.2.map AV.str)) (fun p hp=>by
  obtain⟨q,hq,rfl⟩:=List.mem_map.1 hp
  exact hlt q hq) (by
  have h:((yO.map fun p=>(p.1,p.2.map AV.str)).map Prod.fst).Nodup:=of_decide_eq_true (by kernel_rfl)
  exact List.pairwise_map.1 h) (fun β p hp=>Pe hE β p hp)
 subst hn
 have hle:=r.le
 have st:St (top h0.n) h0 (fun id=>id<h0.n) []:=St.nil hcx (Fq (fun p hp=>hgl (p.1,p.2.map AV.str) (List.mem_map.2 ⟨p,hp,rfl⟩)) fun p hp=>Nat.lt_of_lt_of_le (hlt p hp) hle) fun id q=>⟨q,eg (Nat.zero_le _)⟩
 have e1:=(Q2 d1).cv st (Rp.pv (Nat.le_refl _) (fun id q=>q) q1)
 have e2:=(Q0 d2).cv st (Rp.pv (Nat.le_refl _) (fun id q=>q) q2)
 have ra:Rs h0 (fun id=>id<h0.n) [.agg (jv (yu d1)),.agg (bK (l7 d2))] [.agg a1,.agg a2]:= .cons _ _ _ _ (.agg _ _ e1) (.cons _ _ _ _ (.agg _ _ e2) .nil)
 have hv':=hv
 simp only[List.singleton_append,bh,VR]at hv'
 obtain⟨_,_,hx,⟨c1',rfl,p1⟩,_,_,hy,⟨c2',rfl,p2⟩,hz⟩:=hv'
 cases hx
 cases hy
 have l1:c1.length=2:=by
  have:=e1.len
  have h3:a1.length=c1.length:=by simpa using p1.length
  have h4:(jv (yu d1)).length=2:=rfl
  omega
 have l2:c2.length=3:=by
  have:=e2.len
  have h3:a2.length=c2.length:=by simpa using p2.length
  have h4:(bK (l7 d2)).length=3:=rfl
  omega
 clear p1 p2 hz
 match c1,l1,c2,l2 with
 |[x0,x1],_,[z0,z1,z2],_=>
 refine Ti (n:=nA (yu d1) (l7 d2)) (fun w' hb=>?_) (fun w' hb=>?_) fun w' hb=>II w' (QV hE hb)
 ·refine(xE (oH (K:=fun v _=>v= .int .i64 (nA (yu d1) (l7 d2))) (Si (dr:=False)) tZ xI Fo rfl) hwf ⟨Nat.le_refl _,hcx.cd⟩ st ra hgb (hr.grow hb) hv hdom).mono ?_
  rintro e w'' ⟨v4,val4,β4,h4,F4,p4,S4,rfl,q1,q2,rfl,q4⟩
  cases q2
  simp only[VR]at q1
  subst q1
  exact⟨rfl,q4⟩
 ·obtain⟨v3,h3,hg3,p3,S3,F3,_,_,hr3,e3⟩:=(r9 (K:=fun v=>v= .int .i64 (nA (yu d1) (l7 d2))) (To b2) Fp rfl) (top h0.n) h0 _ _ st ra
  subst e3
  cases hr3
  refine(LF (dr:=False) mixed fw AO Fs (yQ lp (bg _) hg3) hwf hgb (hr.grow hb) hdom hv).mono fun e w'' ⟨β',val,h1,h2,_,h4,_⟩=>?_
  simp only[VR]at h2
  subst h2
  exact⟨h1,h4⟩
end Go.Proofs.YtemehfgkfidgjaaGreatDoor.Ev
namespace Go.Proofs.YtemehfgkfidgjaaGreatDoor
open Go.ChangeShapes Go.WideShapes Go.ChangeAt Go.RowKit Go.Deep
theorem own:ownKnob Tryz.prog.godebug=none:=by kernel_rfl
theorem cells_of_lits {H:Type}{enc:TypeId×Value->H}{P:Program}{w:World}{base:Nat}{sp:Nat->Bool}{held:Bool}{fuel:Nat}{t e:TypeId}{n:Nat}{cs:List Value}{zs:List Lit}(pr:Lit->Value){p:List MemPlace}
    (ht:P.underlying t=some (.array n e)) (he: ∀(m:Nat) (l:List Value) (y:DataW H×List MemPlace),DataW.trod enc P w base sp held m e l=some y-> ∃z,l=[pr z]/\y.1= .lit z) (hce:P.cellsOf e=1) (hct:P.cellsOf t=n)
    (h:DataW.trod enc P w base sp held fuel t cs=some (.agg (zs.map fun z=> .lit z),p)):cs=zs.map pr:=by
 cases fuel with
 |zero=>simp[DataW.trod]at h
 |succ fuel=>
  simp only[DataW.trod,ht,hce,hct,Nat.mul_one]at h
  split at h
  ·rename_i hl
   obtain⟨xs,hm,hx⟩:=Option.map_eq_some_iff.1 h
   have hxs:xs.map (·.1)=zs.map fun z=>(DataW.lit z:DataW H):=by
    have:=congrArg Prod.fst hx
    simpa using this
   have hxl:xs.length=n:=by simpa using Lib.mapM_length hm
   have hzl:zs.length=n:=by
    have:=congrArg List.length hxs
    simp at this
    omega
   apply List.ext_getElem?
   intro i
   by_cases hi:i<n
   ·obtain⟨b,hb,hf⟩:=Lib.mapM_at hm i i (by simp[hi])
    obtain⟨z,hc,hz⟩:=he _ _ _ hf
    have h1:cs[i]? =some (pr z):=by
     have:=congrArg (·[0]?) hc
     simpa[List.getElem?_take,List.getElem?_drop]using this
    have h2:(xs.map (·.1))[i]? =some (DataW.lit z:DataW H):=by simp[hb,hz]
    rw[hxs]at h2
    simp only[List.getElem?_map,Option.map_eq_some_iff,DataW.lit.injEq]at h2
    obtain⟨z',hz',rfl⟩:=h2
    simp[h1,hz']
   ·rw[List.getElem?_eq_none (by omega),List.getElem?_eq_none (by simp;omega)]
  ·cases h
def N9:Lit->Value
 | .string z=> .string ⟨z.toArray⟩
 | .int k n=> .int k n
 |_=> .bool false
theorem Gj {H:Type}{enc:TypeId×Value->H}{w:World}{base:Nat}{sp:Nat->Bool}{held:Bool}(m:Nat)(l:List Value)(y:DataW H×List MemPlace)(h:DataW.trod enc Tryz.prog w base sp held m 9 l=some y): ∃z,l=[N9 z]/\y.1= .lit z:=by
 obtain⟨z,hc,rfl,_⟩:=DataW.trod_string Tryz.underlying9 h
 exact⟨.string z.data.toList,by rw[hc];simp[N9],rfl⟩
theorem vU {W:World}{n:String}{g:Nat}{cs:Array Value}{ps:List MemPlace}(hg: Tryz.prog.globalNamed n=some g)(hv:W.var? Tryz.prog n=some cs)(hne:0<cs.size)
    (hm: ∀x∈MemPlace.row ⟨g,0,none⟩ cs.size,x∈ps) (hp: ∀b off,MemPlace.cell b off∈ps->(∃c t,W.heap[b]? =some (.cells c t (0,0)))/\ ∀u v,W.cell? ⟨b,off,none⟩=some (.iface u v)->Value.okWide Tryz.prog W .any 0 u v):
    ∃t,W.heap[g]? =some (.cells cs t (0,0)):=by
 obtain⟨⟨c,t,hc⟩,_⟩:=hp g 0 (hm _ (by
  unfold MemPlace.row
  rw[List.mem_map]
  exact⟨0,by simpa using hne,rfl⟩))
 unfold World.var? at hv
 rw[hg,Option.bind_some,hc]at hv
 obtain rfl:=Option.some.inj hv
 exact⟨t,hc⟩
def E2:DataW Unit->List Lit
 | .agg l=>l.filterMap fun| .lit z=>some z|_=>none
 |_=>[]
def E3:List Lit:=E2 Rows.laid_dataflow_ir_forms
def E4:List Lit:=E2 Rows.laid_dataflow_lex_keywords
theorem Q6 {W:World}(h:laidMet Tryz.prog Rows.linkChecksRow.laid W):Ev.EZ W:=by
 obtain⟨ps,h,hnd,hp⟩:=h
 obtain⟨g0,t0,cs0,fuel0,p0,q0,hg0,ht0,hv0,hd0,h,hps0⟩:=h
 obtain⟨g1,t1,cs1,fuel1,p1,q1,hg1,ht1,hv1,hd1,h,hps1⟩:=h
 have e0:g0= 0 :=Option.some.inj (hg0.symm.trans (show Tryz.prog.globalNamed "dataflow/lex.keywords" =some 0 by kernel_rfl))
 have e1:g1= 2 :=Option.some.inj (hg1.symm.trans (show Tryz.prog.globalNamed "dataflow/ir.forms" =some 2 by kernel_rfl))
 subst e0 e1
 have f0:t0= 191 :=Option.some.inj (ht0.symm.trans (show(Tryz.prog.globals[0]?).map (·.type)=some 191 by kernel_rfl))
 have f1:t1= 191 :=Option.some.inj (ht1.symm.trans (show(Tryz.prog.globals[2]?).map (·.type)=some 191 by kernel_rfl))
 subst f0 f1
 have c0:=cells_of_lits (zs:=E4) N9 Tryz.underlying191 Gj (by kernel_rfl) (by kernel_rfl) hd0
 have d0:cs0=(E4.map N9).toArray:=by
  have h2:=congrArg List.toArray c0
  rwa [Array.toArray_toList]at h2
 have c1:=cells_of_lits (zs:=E3) N9 Tryz.underlying191 Gj (by kernel_rfl) (by kernel_rfl) hd1
 have d1:cs1=(E3.map N9).toArray:=by
  have h2:=congrArg List.toArray c1
  rwa [Array.toArray_toList]at h2
 have b0:=vU hg0 hv0 (by rw[d0];exact of_decide_eq_true (by kernel_rfl)) (fun x hx=>by rw[hps0];simp[hx]) hp
 have b1:=vU hg1 hv1 (by rw[d1];exact of_decide_eq_true (by kernel_rfl)) (fun x hx=>by rw[hps0,hps1];simp[hx]) hp
 have z0:(E4.map N9).toArray=Ev.EY Ev.nz:=by kernel_rfl
 have z1:(E3.map N9).toArray=Ev.EY Ev.xH:=by kernel_rfl
 rw[d0,z0]at b0
 rw[d1,z1]at b1
 intro p hp
 simp only[Ev.yO,List.mem_cons,List.not_mem_nil,or_false]at hp
 rcases hp with rfl|rfl
 ·exact b0
 ·exact b1
end Go.Proofs.YtemehfgkfidgjaaGreatDoor
