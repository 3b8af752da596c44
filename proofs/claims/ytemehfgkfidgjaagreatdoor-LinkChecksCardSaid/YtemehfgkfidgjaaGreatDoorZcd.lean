/- LinkChecks: for every input the law returns true, and its arguments read as before (the card ties the listed package-level variables to the program's text). -/
import GoSem.ClaimSeven
import Derived.Test.YtemehfgkfidgjaaGreatDoorLwB
import Derived.Test.YtemehfgkfidgjaaGreatDoorCards
import Derived.Test.YtemehfgkfidgjaaGreatDoorTie
set_option linter.all false
namespace Go.Proofs.YtemehfgkfidgjaaGreatDoor.linkChecks
open Go
theorem yH {P:Program}{s:List TypeId}(e:P.grow s=s): ∀n,P.grown n s=s
 |0=>rfl
 |n+1=>by
  show P.grown n (P.grow s)=s
  rw[e]
  exact yH e n
theorem yI {P:Program}: ∀(k m:Nat) (s:List TypeId),P.grown (k+m) s=P.grown m (P.grown k s)
 |0,m,s=>by rw[Nat.zero_add];rfl
 |k+1,m,s=>by
  rw[Nat.succ_add]
  exact yI k m (P.grow s)
theorem OQ {P:Program}{k:Nat}{t:TypeId}{l:List TypeId}(hk:k<=P.types.size)(h1:P.grown k [t]=l)(h2:P.grow l=l):P.book t=l:=by
 unfold Program.book
 obtain⟨m,hm⟩:=Nat.le.dest hk
 rw[<-hm,yI,h1,yH h2]
def Vn:List (TypeId×List TypeId):=[(24,[24,3,22,52,48,50,4,38,9,46,68]),(3,[3]),(22,[22,52,48,50,4,38,9,46,68,3]),(52,[52,48,50,4,38,9,46,68,3]),(48,[48,9]),(50,[50,9,4,46]),(4,[4]),(38,[38,68,3]),(9,[9]),(46,[46,9]),(68,[68,3]),(30,[30,27,28,3,25,74,85,9,4,71,72,83,129,89,50,2,69,46]),(27,[27,25,85,9,71,83,129,50,4,46]),(28,[28,74,9,4,3,71,72,129,89,2,69]),(25,[25,85,9,71,83,129,50,4,46]),(74,[74,9,4,3,71,72,129,89,2,69]),(85,[85,9,71,83,129,50,4,46]),(71,[71,129,9]),(72,[72,89,3,2,9,69]),(83,[83,50,9,4,46]),(129,[129,9]),(89,[89,3,2,9,69]),(2,[2]),(69,[69,3]),(191,[191,9])]
def TK (P:Program):Bool:=Nat.ble 8 P.types.size&&Vn.all fun p=>P.grown 8 [p.1]==p.2&&P.grow p.2==p.2
theorem TL:TK Tryz.prog=true:=by kernel_rfl
theorem Mu: ∀p∈Vn,Tryz.prog.book p.1=p.2:=fun p hp=>by
 have h:=TL
 unfold TK at h
 rw[Bool.and_eq_true]at h
 have h2:=List.all_eq_true.1 h.2 p hp
 rw[Bool.and_eq_true]at h2
 exact OQ (Nat.le_of_ble_eq_true h.1) (eq_of_beq h2.1) (eq_of_beq h2.2)
def lk (v:TypeId):Option (List TypeId):=(Vn.find? fun p=>p.1==v).map (·.2)
theorem qq {v:TypeId}{l:List TypeId}(h:lk v=some l): Tryz.prog.book v=l:=by
 unfold lk at h
 rw[Option.map_eq_some_iff]at h
 obtain⟨p,h1,h2⟩:=h
 have h3:=List.find?_some h1
 have e:p.1=v:=by simpa using h3
 rw[<-e,<-h2]
 exact Mu p (List.mem_of_find?_eq_some h1)
abbrev Li:TypeId:= 24
abbrev Un:TypeId:= 30
abbrev Bo:TypeId:= 4
def TM:List TypeId:=[24,3,22,52,48,50,4,38,9,46,68]
theorem mL: Tryz.prog.book Li=TM:=qq (by kernel_rfl)
def TN:List TypeId:=[30,27,28,3,25,74,85,9,4,71,72,83,129,89,50,2,69,46]
theorem mM: Tryz.prog.book Un=TN:=qq (by kernel_rfl)
def TP:List TypeId:=[4]
theorem qt: Tryz.prog.book Bo=TP:=qq (by kernel_rfl)
theorem GR: Tryz.prog.readableRec Li=true:=by
 unfold Program.readableRec
 rw[mL]
 kernel_rfl
theorem OR: Tryz.prog.mapsRec Li=false:=by
 unfold Program.mapsRec
 rw[mL]
 kernel_rfl
theorem I7: Tryz.prog.ifacesRec Li=false:=by
 unfold Program.ifacesRec
 rw[mL]
 kernel_rfl
theorem OS: Tryz.prog.wideKeysFrom Li=false:=by
 unfold Program.wideKeysFrom
 rw[mL]
 kernel_rfl
theorem GS: Tryz.prog.readableRec Un=true:=by
 unfold Program.readableRec
 rw[mM]
 kernel_rfl
theorem OT: Tryz.prog.mapsRec Un=false:=by
 unfold Program.mapsRec
 rw[mM]
 kernel_rfl
theorem I8: Tryz.prog.ifacesRec Un=false:=by
 unfold Program.ifacesRec
 rw[mM]
 kernel_rfl
theorem OU: Tryz.prog.wideKeysFrom Un=false:=by
 unfold Program.wideKeysFrom
 rw[mM]
 kernel_rfl
theorem OV: Tryz.prog.readableRec Bo=true:=by
 unfold Program.readableRec
 rw[qt]
 kernel_rfl
theorem I9: Tryz.prog.ifacesRec Bo=false:=by
 unfold Program.ifacesRec
 rw[qt]
 kernel_rfl
theorem OW: Tryz.prog.wideKeysFrom Bo=false:=by
 unfold Program.wideKeysFrom
 rw[qt]
 kernel_rfl
theorem wA {t:TypeId}{l:List TypeId}(e: Tryz.prog.book t=l)(h:(l.all fun u=>(Tryz.prog.partsOf u).all fun v=>match lk v with|some b=>!b.contains u|none=>false)=true): Tryz.prog.loopsFrom t=false:=by
 unfold Program.loopsFrom
 rw[e,List.any_eq_false]
 intro u hu
 rw[Bool.not_eq_true,List.any_eq_false]
 intro v hv
 have h1:=List.all_eq_true.1 (List.all_eq_true.1 h u hu) v hv
 cases hq:lk v with
 |none=>rw[hq]at h1;cases h1
 |some b=>
  rw[hq]at h1
  rw[qq hq]
  simpa using h1
theorem Mv: Tryz.prog.loopsFrom Li=false:=wA mL (by kernel_rfl)
theorem Mw: Tryz.prog.loopsFrom Un=false:=wA mM (by kernel_rfl)
theorem My: Tryz.prog.loopsFrom Bo=false:=wA qt (by kernel_rfl)
theorem mN {P:Program}{t:TypeId}{l:List TypeId}(e:P.book t=l)(h:(l.any fun u=>match P.underlying u with|some (.func ..)|some (.chan ..)|some .unsafePointer=>true|_=>false)=false):P.veiledRec t=false:=by
 unfold Program.veiledRec
 rw[e]
 exact h
theorem yJ: Tryz.prog.veiledRec Li=false:=mN (l:=TM) mL (by kernel_rfl)
theorem yK: Tryz.prog.veiledRec Un=false:=mN (l:=TN) mM (by kernel_rfl)
theorem yL: Tryz.prog.veiledRec Bo=false:=mN (l:=TP) qt (by kernel_rfl)
theorem AJ {P:Program}{t:TypeId}(h:P.veiledRec t=false):P.veiledOwn t=true:=by
 unfold Program.veiledOwn
 rw[h]
 rfl
def r7:List TypeId:=[191,191]
theorem Fj:(Rows.linkChecksRow.laid.filterMap fun x=>(Tryz.prog.globalNamed x.1).bind fun g=>(Tryz.prog.globals[g]?).map (·.type))=r7:=by kernel_rfl
theorem Mz: ∀t∈r7,Tryz.prog.veiledOwn t=true:=fun t ht=>by
 simp only[r7,List.mem_cons,List.not_mem_nil,or_false,or_self]at ht
 rcases ht with rfl
 ·exact AJ (mN (l:=[191,9]) (qq (by kernel_rfl)) (by kernel_rfl))
theorem Ja {P:Program}(h:P.funcs.any Func.goes=false)(f:FuncId):P.goes f=false:=by
 have hall: ∀g:FuncId,(P.funcs[g]?).any Func.goes=false:=fun g=>by
  cases hq:P.funcs[g]? with
  |none=>rfl
  |some fn=>
   cases hb:fn.goes with
   |false=>simpa using hb
   |true=>
    have:P.funcs.any Func.goes=true:=by
     rw[<-Array.any_toList,List.any_eq_true]
     exact⟨fn,Array.mem_toList_iff.2 (Array.mem_of_getElem? hq),hb⟩
    rw[h]at this;cases this
 have e:(fun g:FuncId=>(P.funcs[g]?).any Func.goes)=fun _=>false:=funext hall
 unfold Program.goes
 rw[h,Bool.and_false,Bool.or_false,e]
 induction P.closure f with
 |nil=>rfl
 |cons x l ih=>simp
theorem OX: Tryz.prog.funcs.any Func.goes=false:=by kernel_rfl
theorem RV:false=Rows.linkChecksRow.goesBy Tryz.prog:=by
 show false=(Tryz.prog.goesFrom Rows.linkChecksRow.func||false)
 unfold Program.goesFrom
 cases Tryz.prog.funcNamed Rows.linkChecksRow.func with
 |none=>rfl
 |some f=>simp[Ja OX f]
theorem OY:false= Tryz.prog.looks []:=by kernel_rfl
theorem plain (f:FuncId)(fn:Func)(hf: Tryz.pinned.checked.prog.funcNamed Rows.linkChecksRow.func=some f)(hfn: Tryz.pinned.checked.prog.funcs[f]? =some fn):
    false= Tryz.pinned.checked.prog.looks []/\ ∀(j:Nat) t,fn.params[j]? =some t-> Tryz.pinned.checked.prog.wantsStandIn t=false:=by
 obtain rfl:f= 3 :=Option.some.inj ((show Tryz.prog.funcNamed Rows.linkChecksRow.func=some 3 by kernel_rfl).symm.trans hf)|>.symm
 obtain rfl:fn= Tryz.f3 :=(Option.some.inj (Tryz.func3.symm.trans hfn)).symm
 refine⟨OY,fun j t ht=>?_⟩
 rw[Tryz.params3]at ht
 have hm:=Array.mem_of_getElem? ht
 simp only[List.mem_toArray,List.mem_cons,List.not_mem_nil,or_false,or_self]at hm
 rcases hm with rfl|rfl
 ·exact(show Tryz.prog.wantsStandIn 24 =false by kernel_rfl)
 ·exact(show Tryz.prog.wantsStandIn 30 =false by kernel_rfl)
def RW (P:Program):Nat->List FuncId->Nat->List FuncId->Option (List FuncId)
 |0,_,_,_=>none
 |_+1,[],_,seen=>some seen.reverse
 |n+1,f::todo,m,seen=>bif Nat.testBit m f then RW P n todo m seen else RW P n ((P.funcs[f]?).elim [] P.leadsTo++todo) (m|||2^f) (f::seen)
theorem Fk {P:Program}: ∀(n k:Nat) (todo:List FuncId) (m:Nat) (seen r:List FuncId),(∀g:Nat,Nat.testBit m g=seen.contains g)->RW P n todo m seen=some r->P.closureVia (n+k) todo seen=r
 |0,k,todo,m,seen,r,_,e=>by cases e
 |n+1,k,[],m,seen,r,_,e=>by
  rw[Nat.succ_add]
  have e':some seen.reverse=some r:=e
  cases e'
  rfl
 |n+1,k,f::todo,m,seen,r,hm,e=>by
  rw[Nat.succ_add]
  have e':(bif Nat.testBit m f then RW P n todo m seen else RW P n ((P.funcs[f]?).elim [] P.leadsTo++todo) (m|||2^f) (f::seen))=some r:=e
  show(if seen.contains f then P.closureVia (n+k) todo seen else P.closureVia (n+k) ((P.funcs[f]?).elim [] P.leadsTo++todo) (f::seen))=r
  rw[<-hm f]
  cases hb:Nat.testBit m f with
  |true=>
   rw[hb]at e'
   exact Fk n k todo m seen r hm e'
  |false=>
   rw[hb]at e'
   exact Fk n k _ _ (f::seen) r (fun g=>by
    rw[Nat.testBit_or,Nat.testBit_two_pow,hm g,List.contains_cons,Bool.or_comm]
    congr 1
    by_cases q:f=g
    ·subst q;simp
    ·simp[q,Ne.symm q]) e'
def CL:List FuncId:=[3,5,11,33,82,83,84,128,85,34,86,129,202,35,87,88,76,123,12,36,89,115,130,179,178,248,203,259,260,290,289,204,261,291,210,262,52,37,90,91,131,205,132,13,40,39,38,92,93,133,206,263,292,94,134,135,95,96,137,139,136,138,141,207,69,116,14,41,140,208,142,209,50,143,144,211,15,42,97,145,212,213,16,49,48,147,71,102,159,160,119,182,188,183,253,184,229,230,185,254,255,287,186,187,189,190,72,148,146,214,43,98,99,149,215,216,264,265,293,217,266,218,219,44,45,100,150,220,221,267,222,223,268,269,294,224,225,226,227,46,101,151,152,228,153,154,231,232,270,155,156,157,158,47,17,51,18,6,19,53,103,161,162,163,233,67,104,164,105,20,54,106,165,234,64,171,245,271,236,295,110,272,296,297,312,59,107,108,166,167,235,168,237,238,176,174,239,273,240,241,274,275,298,276,277,58,299,278,22,21,55,56,109,169,242,279,170,23,57,244,243,24,7,25,60,61,62,111,63,112,113,172,173,175,246,280,26,65,114,177,247,281,300,282,301,313,314,283,302,284,303,66,8,27,68,70,117,180,249,285,304,251,286,305,315,306,307,316,317,318,308,309,310,311,250,118,181,252,28,73,120,191,121,74,122,192,193,256,194,195,257,258,288,196,197,198,199,75]
theorem RX:RW Tryz.prog 594 [3] 0 []=some CL:=by kernel_rfl
def Px (P:Program)(n:Nat):Bool:=Nat.ble n (1+(P.funcs.toList.map fun g=>(P.leadsTo g).length+1).sum)
theorem OZ:Px Tryz.prog 594=true:=by kernel_rfl
theorem TQ {P:Program}{n:Nat}{f:FuncId}{l:List FuncId}(h1:RW P n [f] 0 []=some l)(h2:Px P n=true):P.closure f=l:=by
 unfold Program.closure
 obtain⟨k,hk⟩:=Nat.le.dest (Nat.le_of_ble_eq_true (show Nat.ble n (1+(P.funcs.toList.map fun g=>(P.leadsTo g).length+1).sum)=true from h2))
 rw[<-hk]
 exact Fk n k [f] 0 [] l (fun g=>by simp) h1
theorem MC: Tryz.prog.closure 3 =CL:=TQ (P:= Tryz.prog) (n:=594) (f:= 3) (l:=CL) RX OZ
theorem Vo:(Rows.linkChecksRow.inPlace== Tryz.prog.inPlace 3)=true:=by
 unfold Program.inPlace
 rw[MC]
 kernel_rfl
theorem un: Tryz.prog.unfollowed 3 =true:=by
 unfold Program.unfollowed
 rw[MC]
 kernel_rfl
theorem Vp:(Rows.linkChecksRow.unfollowed== Tryz.prog.unfollowed 3)=true:=by
 rw[un]
 rfl
theorem Vq:(Rows.linkChecksRow.recurses== Tryz.prog.recurses 3)=true:=by
 unfold Program.recurses
 rw[un]
 rfl
theorem Vr:(Rows.linkChecksRow.named== Tryz.prog.varsNamed 3)=true:=by
 unfold Program.varsNamed
 rw[MC]
 kernel_rfl
def mO (P:Program)(fn:Func)(s:ChangeSpec)(c:OpenClaim):Bool:=c.wf (OpenSpec.ofChange s)&&laidOutB P&&mapsRowed P&&
 fn.params.all (P.readableRec ·)&&namedTie P c.named s.vars&&
 (c.stops==[])&&(P.stops==[])&&(c.knobs==[])&&(P.stopKnobs==[])&&
 (c.maps==(fn.params.toList++s.plain.varTypes P).any (P.mapsRec ·))&&(c.ifaces==(fn.params.toList++s.plain.varTypes P).any (P.ifacesRec ·))&&(c.mapsOut==P.mapsAmong fn.resultTypes.toList)&&
 (c.loops==(fn.params.toList++s.plain.varTypes P).any (P.loopsFrom ·))&&(c.wideKeys==(fn.params.toList++s.plain.varTypes P++fn.resultTypes.toList).any (P.wideKeysFrom ·))&&
 s.vars.all (P.varReadable ·)&&fn.resultTypes.all (fun t=>P.readableRec t&&decide (t<P.types.size))&&(c.ifacesOut==fn.resultTypes.toList.any (P.ifacesRec ·))&&(c.loopsOut==fn.resultTypes.toList.any (P.loopsFrom ·))&&(c.plainKeys==P.plainKeys)&&c.shortTexts.isNone&&P.stopsHeard&&P.mayEnter&&(c.lifted==P.liftsFinal)&&(P.make==some c.make)&&(c.kinds==(if c.domain.isEmpty then[]else fn.params.toList.map fun t=>match P.underlying t with|some (.int k)=>some k|_=>none))&&(c.pinned==c.pinnedBy)&&
 (c.veiled==(fn.params.toList++s.plain.varTypes P++fn.resultTypes.toList).any (P.veiledRec ·))&&c.veiledFits P fn.params.toList (fn.params.toList++s.plain.varTypes P++fn.resultTypes.toList)
theorem Jb {P:Program}{f:FuncId}{fn:Func}{s:ChangeSpec}{c:OpenClaim}(h1:(c.inPlace==P.inPlace f)=true)(h2:(c.unfollowed==P.unfollowed f)=true)(h3:(c.recurses==P.recurses f)=true)(h4:(c.named==P.varsNamed f)=true)(h:mO P fn s c=true):joinedFacts P f fn s c=true:=by
 unfold joinedFacts
 unfold mO at h
 rw[h1,h2,h3,h4]
 simp only[Bool.and_true]
 exact h
theorem RY {a b:Bool}(h1:a=true)(h2:b=true):(a&&b)=true:=by rw[h1,h2];rfl
theorem Dk {a b:Bool}(h1:a=false)(h2:b=false):(a==b)=true:=by rw[h1,h2];rfl
theorem Fl {f:TypeId->Bool}{l:List TypeId}(h: ∀t∈l,f t=false):l.any f=false:=List.any_eq_false.2 fun t ht=>by rw[h t ht];exact Bool.false_ne_true
theorem TR {f:TypeId->Bool}{a:Array TypeId}(h: ∀t∈a.toList,f t=true):a.all f=true:=by
 rw[<-Array.all_toList]
 exact List.all_eq_true.2 h
abbrev Sp:ChangeSpec:=(OpenSpec.ofChange Rows.linkChecksSpec).bare
theorem RZ: Tryz.f3.params.toList++Sp.plain.varTypes Tryz.prog=[Li,Un]:=by kernel_rfl
theorem MD: Tryz.f3.params.toList++Sp.plain.varTypes Tryz.prog++ Tryz.f3.resultTypes.toList=[Li,Un,Bo]:=by kernel_rfl
theorem TS: Tryz.f3.params.toList=[Li,Un]:=by kernel_rfl
theorem O0: Tryz.f3.resultTypes.toList=[Bo]:=by kernel_rfl
theorem two {f:TypeId->Bool}{b:Bool}(h0:f Li=b)(h1:f Un=b): ∀t∈[Li,Un],f t=b:=fun t ht=>by
 simp only[List.mem_cons,List.not_mem_nil,or_false,or_self]at ht
 rcases ht with rfl|rfl
 ·exact h0
 ·exact h1
theorem one {f:TypeId->Bool}{b:Bool}(h0:f Bo=b): ∀t∈[Bo],f t=b:=fun t ht=>by
 simp only[List.mem_cons,List.not_mem_nil,or_false,or_self]at ht
 rcases ht with rfl
 ·exact h0
theorem three {f:TypeId->Bool}{b:Bool}(h0:f Li=b)(h1:f Un=b)(h2:f Bo=b): ∀t∈[Li,Un,Bo],f t=b:=fun t ht=>by
 simp only[List.mem_cons,List.not_mem_nil,or_false,or_self]at ht
 rcases ht with rfl|rfl|rfl
 ·exact h0
 ·exact h1
 ·exact h2
theorem R0: Tryz.f3.params.all (Tryz.prog.readableRec ·)=true:=TR (by rw[TS];exact two GR GS)
theorem R3:(Rows.linkChecksRow.maps==(Tryz.f3.params.toList++Sp.plain.varTypes Tryz.prog).any (Tryz.prog.mapsRec ·))=true:=Dk rfl (by rw[RZ];exact Fl (two OR OT))
theorem ME:(Rows.linkChecksRow.ifaces==(Tryz.f3.params.toList++Sp.plain.varTypes Tryz.prog).any (Tryz.prog.ifacesRec ·))=true:=Dk rfl (by rw[RZ];exact Fl (two I7 I8))
theorem O1:(Rows.linkChecksRow.loops==(Tryz.f3.params.toList++Sp.plain.varTypes Tryz.prog).any (Tryz.prog.loopsFrom ·))=true:=Dk rfl (by rw[RZ];exact Fl (two Mv Mw))
theorem R4:(Rows.linkChecksRow.wideKeys==(Tryz.f3.params.toList++Sp.plain.varTypes Tryz.prog++ Tryz.f3.resultTypes.toList).any (Tryz.prog.wideKeysFrom ·))=true:=Dk rfl (by rw[MD];exact Fl (three OS OU OW))
theorem TT: Tryz.f3.resultTypes.all (fun t=> Tryz.prog.readableRec t&&decide (t< Tryz.prog.types.size))=true:=TR (by rw[O0];exact one (RY OV (by kernel_rfl)))
theorem TU:(Rows.linkChecksRow.ifacesOut== Tryz.f3.resultTypes.toList.any (Tryz.prog.ifacesRec ·))=true:=Dk rfl (by rw[O0];exact Fl (one I9))
theorem TV:(Rows.linkChecksRow.loopsOut== Tryz.f3.resultTypes.toList.any (Tryz.prog.loopsFrom ·))=true:=Dk rfl (by rw[O0];exact Fl (one My))
theorem TW:(Rows.linkChecksRow.veiled==(Tryz.f3.params.toList++Sp.plain.varTypes Tryz.prog++ Tryz.f3.resultTypes.toList).any (Tryz.prog.veiledRec ·))=true:=Dk rfl (by rw[MD];exact Fl (three yJ yK yL))
theorem TX:Rows.linkChecksRow.veiledFits Tryz.prog Tryz.f3.params.toList (Tryz.f3.params.toList++Sp.plain.varTypes Tryz.prog++ Tryz.f3.resultTypes.toList)=true:=by
 unfold OpenClaim.veiledFits
 rw[Fj,MD]
 refine RY (by kernel_rfl) (Bool.or_eq_true_iff.2 (Or.inl (List.all_eq_true.2 fun t ht=>?_)))
 rcases List.mem_append.1 ht with q|q
 ·exact three (f:=fun t=> Tryz.prog.veiledOwn t) (AJ yJ) (AJ yK) (AJ yL) t q
 ·exact Mz t q
theorem TY:(Rows.linkChecksRow.mapsOut== Tryz.prog.mapsAmong Tryz.f3.resultTypes.toList)=true:=Dk rfl (by rw[O0];exact Th)
theorem R5:(Rows.linkChecksRow.plainKeys== Tryz.prog.plainKeys)=true:=by
 rw[QS]
 rfl
theorem R6:mO Tryz.prog Tryz.f3 Sp Rows.linkChecksRow=true:=by
 unfold mO
 repeat'(with_reducible refine RY ?_ ?_)
 all_goals first
  |with_reducible exact R0
  |with_reducible exact R3
  |with_reducible exact ME
  |with_reducible exact O1
  |with_reducible exact R4
  |with_reducible exact TT
  |with_reducible exact TU
  |with_reducible exact TV
  |with_reducible exact TW
  |with_reducible exact TX
  |with_reducible exact laidOut
  |with_reducible exact Tg
  |with_reducible exact N8
  |with_reducible exact TY
  |with_reducible exact R5
  |kernel_rfl
end Go.Proofs.YtemehfgkfidgjaaGreatDoor.linkChecks
namespace Go.Proofs.YtemehfgkfidgjaaGreatDoor
open Go.ChangeShapes Go.WideShapes Go.ChangeAt Go.RowKit Go.Deep
section
variable {H:Type}{enc:TypeId×Value->H}{w:World}{held:Bool}
theorem ma {p q:List MemPlace}(h:w.noneFrozen q)(hs: ∀x∈p,x∈q):w.noneFrozen p:=fun b off hm=>h b off (hs _ hm)
theorem nO {P:Program}(hl:laidOutB P=true){W W':World}(hb:Below W.heap.size W W'): ∀{ts:List TypeId} {vs:List Value} {ds:List (DataW H)} {ps:List MemPlace},(∀t∈ts,P.readableRec t=true/\t<P.types.size)->
    DataW.TrodAll enc P W 0 (fun _=>true) true ts vs ds ps->(∀x∈ps,x.block<W.heap.size)->DataW.TrodAll enc P W' 0 (fun b=>decide (b<W.heap.size)) true ts vs ds ps
 |[],vs,ds,ps,_,h,_=>by cases vs<;>cases ds<;>simp_all [DataW.TrodAll]
 |t::ts,vs,ds,ps,ht,h,hlt=>by
  obtain⟨v,vs',d,ds',p,q,rfl,rfl,rfl,h1,h2⟩:=trodAll_cons h
  refine trodAll_cons_mk (Below.trod hl (ht t (by simp)).1 (ht t (by simp)).2 h1 hb (fun x hx=>hlt x (by simp[hx]))) (nO hl hb (fun t' ht'=>ht t' (by simp[ht'])) h2 (fun x hx=>hlt x (by simp[hx])))
theorem MA {fn:Func}{s:ChangeSpec}{W W':World}{args:Array Value}{ds:List (DataW H)}{before:List MemPlace}
    (hW:DataW.Whole enc Tryz.prog fn.params.toList s.vars false W args.toList ds [] before) (hv:s.vars=[]) (hres:(s.fn H (ds++[])).results=[.lit (.bool true)]) (hargs:(s.fn H (ds++[])).args=ds) (hvs:(s.fn H (ds++[])).vars=[])
    (hrt:fn.resultTypes= #[4]) (hp: ∀t∈fn.params.toList,Tryz.prog.readableRec t=true/\t< Tryz.prog.types.size) (hb:Below W.heap.size W W'):
    ∃v,Ending.returned (.bool true)= .returned v/\s.post enc Tryz.prog fn false true false false W args v W':=by
 obtain⟨p,q,hA,hV,e,hfz,hnd⟩:=hW
 have hW2:DataW.Whole enc Tryz.prog fn.params.toList s.vars false W args.toList ds [] before:=⟨p,q,hA,hV,e,hfz,hnd⟩
 have hlt: ∀x∈p,x.block<W.heap.size:=fun x hx=>hW2.lt x (by rw[e];simp[hx])
 refine⟨_,rfl,ds,[],before,[],p,[],hW2,?_,?_,?_,hb.frame _,fun h=>by cases h⟩
 ·rw[hres,hrt]
  exact trodAll_cons_mk (shut_bool Tryz.underlying4 _) trodAll_mk0
 ·rw[hargs]
  exact nO laidOut hb hp hA hlt
 ·rw[hvs,hv];rfl
theorem okWide_struct {P:Program}{W:World}{base:Nat}{t:TypeId}{fs:Array Field}{v:Value}(u:P.underlying t=some (.struct fs))(h:Value.okWide P W .any base t v): ∃c,v= .agg c/\True:=by
 unfold Value.okWide at h
 rw[u]at h
 obtain⟨c,hc,_⟩:=h
 exact⟨c,hc,trivial⟩
theorem sa {P:Program}{W:World}{base:Nat}{t0 t1:TypeId}{fs0:Array Field}{Fb:Array Field}{v0 v1:Value}(u0:P.underlying t0=some (.struct fs0))(u1:P.underlying t1=some (.struct Fb))
    (hval: ∀(j:Nat) t v,#[t0,t1][j]? =some t-> #[v0,v1][j]? =some v->Value.okWide P W .any base t v):(∃c,v0= .agg c)/\(∃c,v1= .agg c):=by
 obtain⟨c0,hc0,_⟩:=okWide_struct u0 (hval 0 t0 v0 rfl rfl)
 obtain⟨c1,hc1,_⟩:=okWide_struct u1 (hval 1 t1 v1 rfl rfl)
 exact⟨⟨c0,hc0⟩,⟨c1,hc1⟩⟩
end
def putCells (h:Array Obj)(g:Nat)(cs:Array Value):Array Obj:=h.modify g fun
 | .cells _ t frozen=> .cells cs t frozen
 |o=>o
def MB (d:DataW Unit):Array Value:=((E2 d).map N9).toArray
noncomputable def r8 (os:Os):World:=
 {World.holding Tryz.prog os ⟨#[],#[],[]⟩with heap:=putCells (putCells ((World.holding Tryz.prog os ⟨#[],#[],[]⟩).heap) 0 (MB Rows.laid_dataflow_lex_keywords)) 2 (MB Rows.laid_dataflow_ir_forms)}
end Go.Proofs.YtemehfgkfidgjaaGreatDoor
namespace Go.Proofs.YtemehfgkfidgjaaGreatDoor.linkChecks
open Go.ChangeShapes Go.WideShapes Go.ChangeAt Go.RowKit
theorem contract (H:Type)(enc:TypeId×Value->H)(W:World)(base:Nat)(args:Array Value)(ds gs:List (DataW H))(before:List MemPlace)
    (hval: ∀(j:Nat) t v,Tryz.f3.params[j]? =some t->args[j]? =some v->Value.okWide Tryz.prog W .any base t v)
    (hW:DataW.Whole enc Tryz.prog Tryz.f3.params.toList Rows.linkChecksSpec.vars false W args.toList ds gs before)
    (hsz:(DataW.weightsEach Tryz.prog (Tryz.f3.params.toList++(OpenSpec.ofChange Rows.linkChecksSpec).bare.plain.varTypes Tryz.prog) (ds++gs)).all (· <=reachBytes)=true)
    (hL:laidMetH Tryz.prog Rows.linkChecksRow.laid W):
    Calls Tryz.prog 3 args W fun e W'=> ∃v,e= .returned v/\Rows.linkChecksSpec.post enc Tryz.prog Tryz.f3 false true false false W args v W':=by
 have hE:Ev.EZ W:=Q6 hL
 have hW':=hW
 obtain⟨p,q,hA0,hV,rfl,hfz,hnd⟩:=hW
 have hA:DataW.TrodAll enc Tryz.prog W 0 (fun _=>true) true Tryz.f3.params.toList args.toList ds p:=hA0
 rw[Tryz.params3]at hA hval
 obtain⟨v0,vs0,d0,ds0,p0,q0,hargs,rfl,rfl,h0,r0⟩:=trodAll_cons hA
 obtain⟨v1,vs1,d1,ds1,p1,q1,rfl,rfl,rfl,h1,r1⟩:=trodAll_cons r0
 obtain⟨rfl,rfl,rfl⟩:=trodAll_nil r1
 obtain rfl:args= #[v0,v1]:=by cases args;simp_all
 obtain⟨rfl,rfl⟩:=trodVars_none hV
 obtain⟨⟨c0,rfl⟩,⟨c1,rfl⟩⟩:=sa (P:= Tryz.prog) (W:=W) (base:=base) (v0:=v0) (v1:=v1) Tryz.underlying24 Tryz.underlying30 (by assumption)
 clear hval
 obtain⟨f0,hf0⟩:=h0
 obtain⟨f1,hf1⟩:=h1
 have hs2:(DataW.weightsEach Tryz.prog [24,30] [d0,d1]).all (· <=reachBytes)=true:=hsz
 have hs3: ∀x∈DataW.weightsEach Tryz.prog [24,30] [d0,d1],x<=reachBytes:=fun x hx=>by simpa using List.all_eq_true.1 hs2 x hx
 have hr:=Ev.IK hE hf0 (ma hfz fun x hm=>by simp[hm]) (fun x hx=>hs3 x (Ev.eT (i:=0) rfl rfl hx)) hf1 (ma hfz fun x hm=>by simp[hm]) (fun x hx=>hs3 x (Ev.eT (i:=1) rfl rfl hx))
 have e0:(Value.cells (.agg c0)).toList.toArray=c0:=by simp[Value.cells]
 have e1:(Value.cells (.agg c1)).toList.toArray=c1:=by simp[Value.cells]
 rw[e0,e1]at hr
 refine hr.mono fun e W' ⟨he,hb⟩=>?_
 subst he
 refine MA (before:=_) hW' rfl rfl rfl rfl (by kernel_rfl) (fun t ht=>?_) hb
 rw[Tryz.params3]at ht
 simp only[List.mem_cons,List.not_mem_nil,or_false,or_self]at ht
 rcases ht with rfl|rfl
 ·exact⟨GR,of_decide_eq_true (by kernel_rfl)⟩
 ·exact⟨GS,of_decide_eq_true (by kernel_rfl)⟩
theorem MF (os:Os):laidMet Tryz.prog Rows.linkChecksRow.laid ((r8 os).forCall (fun _ _=>0) ⟨#[],#[.agg #[.int .i64 0,.slice none 0 0],.agg #[.slice none 0 0,.slice none 0 0,.int .i64 0]],[]⟩).memory:=
 laidMet_of_run' 8 (by kernel_rfl) (by kernel_rfl)
theorem reads (os:Os){H:Type}(enc:TypeId×Value->H): ∃places,DataW.whole enc Tryz.prog ((r8 os).forCall (fun _ _=>0) ⟨#[],#[.agg #[.int .i64 0,.slice none 0 0],.agg #[.slice none 0 0,.slice none 0 0,.int .i64 0]],[]⟩).memory Tryz.f3.params.toList Rows.linkChecksSpec.vars false #[.agg #[.int .i64 0,.slice none 0 0],.agg #[.slice none 0 0,.slice none 0 0,.int .i64 0]].toList 8=some ([.agg [.lit (.int .i64 0),.nil],.agg [.agg [.nil],.nil,.lit (.int .i64 0)]],[],places):=
 ⟨[],by kernel_rfl⟩
set_option maxRecDepth 100000 in
theorem lifted (os:Os)(started:os.Started)(H:Type)(enc:TypeId×Value->H)(F:Stop.Interp):
    ReturnsInHanded {} Tryz.checked os 3 .any ((OpenSpec.ofChange Rows.linkChecksSpec).preRow enc Tryz.prog Tryz.f3 Rows.linkChecksRow.domain false Rows.linkChecksRow.laid) (((OpenSpec.ofChange Rows.linkChecksSpec).at F).post enc Tryz.prog Tryz.f3 false true false false):=by
 obtain⟨places,hx⟩:=reads os enc
 refine returnsInHanded_of_row (C:= Tryz.checked) (s:=OpenSpec.ofChange Rows.linkChecksSpec) own started (by kernel_rfl) Tryz.func3
  (witness_row_at (enc:=enc) (C:= Tryz.checked) false (r8 os) #[.agg #[.int .i64 0,.slice none 0 0],.agg #[.slice none 0 0,.slice none 0 0,.int .i64 0]] rfl (by kernel_rfl) (by kernel_rfl) (by kernel_rfl)
   (OpenSpec.preRow_of_cond 8 hx (by kernel_rfl) (fun k hk=>by cases hk) (by kernel_rfl) (MF os))) ?_
 intro W base args ds gs before hval hW _ _ hsz hL _ _
 exact contract H enc W base args ds gs before hval hW hsz hL
theorem said:Rows.LinkChecksSaid:=
 OpenClaim.holds_of_cond 3 Tryz.f3 rfl rfl rfl rfl rfl rfl rfl ⟨rfl,rfl,rfl,rfl,rfl⟩ rfl rfl rfl rfl rfl (by kernel_rfl) Tryz.func3 (Jb Vo Vp Vq Vr R6)
  (of_decide_eq_true (by kernel_rfl)) (by unfold Func.isWrapper;first|(rw[if_pos (by decide+kernel)];kernel_rfl)|(rw[if_neg (by decide+kernel)];exact⟨rfl,rfl⟩))
  (fun os started H enc _ F=>by rw[OpenClaim.pre_eq_preRow];exact lifted os started H enc F)
theorem card:Rows.LinkChecksCardSaid:=
 Claim7.holds_tied_plain_at .later [] _ _ _ _ said (fun _ h=>by cases h) (by kernel_rfl) (fun _ h=>by cases h) linkChecks_row_tie rfl ⟨rfl,rfl⟩ (by kernel_rfl) rfl plain RV
end Go.Proofs.YtemehfgkfidgjaaGreatDoor.linkChecks
