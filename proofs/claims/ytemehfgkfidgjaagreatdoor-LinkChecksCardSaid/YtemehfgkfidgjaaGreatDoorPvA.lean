/- CoverStates, part 13 -/
import Derived.Test.YtemehfgkfidgjaaGreatDoorSyF
set_option linter.all false
namespace Go.Proofs.YtemehfgkfidgjaaGreatDoor.Ev
open Go
section
@[reducible] def KT (t:Nat):Type:=match t with
 |0=>List Nat
 |1=>Int
 |_=>Int×Int
instance VH:(t:Nat)->DecidableEq (KT t)
 |0=>inferInstanceAs (DecidableEq (List Nat))
 |1=>inferInstanceAs (DecidableEq Int)
 |_+2=>inferInstanceAs (DecidableEq (Int×Int))
def mF:(t:Nat)->KT t->AV
 |0,k=> .str k
 |1,k=> .int .i64 k
 |_+2,k=> .agg [.int .i64 k.1,.int .i64 k.2]
inductive PV where
 |bool (b:Bool)
 |int (k:IntKind) (n:Int)
 |str (s:List Nat)
 |eG
 |aE
 |dt
 |jb
 |ptr (p id off:Nat)
 |gu (p id i off e:Nat)
 |own (p:Nat) (id:Option Nat) (n e:Nat)
 |IS (p id e:Nat)
 |gC (p id:Nat)
 |fp (row:List PV) (off:Nat)
 |tr (e n:Nat) (rows:Nat->List PV)
 |nC (t:Nat) (f:KT t->Option PV)
 |fn (f:Nat) (caps:List PV)
 |agg (vs:List PV)
 |bn (vs:List PV)
 deriving Inhabited
inductive PB where
 |cells (vs:List PV)
 |arr (e n:Nat) (rows:Nat->List PV)
 |map (t:Nat) (f:KT t->Option PV)
 |dA (l:List (Int×PV×Nat)) (ck:Nat)
 |iter (mid since:Nat) (seen:List Nat) (last:Nat)
 |D1 (t:Nat) (f:KT t->Option PV) (n:Nat) (o:Option (KT t))
 |dead
 deriving Inhabited
abbrev aJ:=List (Nat×Option Nat×PB)
def aC:aJ->Nat->Option (Option Nat×PB)
 |[],_=>none
 |(k,v)::l,t=>bif Nat.beq k t then some v else aC l t
theorem aH {k p:Nat}{v:Option Nat×PB}{S:aJ}:aC ((k,v)::S) p=if k=p then some v else aC S p:=by
 simp only[aC]
 cases hb:Nat.beq k p with
 |true=>rw[if_pos (Nat.eq_of_beq_eq_true hb)];rfl
 |false=>
  rw[if_neg (fun q=>by subst q;simp at hb)];rfl
abbrev aK:=List (Nat×PV)
def Nd {κ:Type}(l:List (κ×AV×Nat))(ck:Nat):Prop:=(l.map Prod.fst).Nodup/\(l.map fun p=>p.2.2).Nodup/\ ∀p∈l,p.2.2<ck
mutual
inductive R (h:H)(F:Nat->Prop):PV->AV->Prop
 |bool (b:Bool):R h F (.bool b) (.bool b)
 |int (k:IntKind) (n:Int):R h F (.int k n) (.int k n)
 |str (s:List Nat):R h F (.str s) (.str s)
 |eG:R h F .eG .eG
 |aE:R h F .aE .aE
 |dt:R h F .dt .dt
 |jb:R h F .jb .jb
 |ptr (p id off:Nat):R h F (.ptr p id off) (.ptr id off)
 |gu (p id i off e:Nat):R h F (.gu p id i off e) (.ptr id (i*e+off))
 |own (p id n e:Nat) (cap:Option Nat):n<=9223372036854775807->R h F (.own p (some id) n e) (.sl id 0 n e cap)
 |hY (p e:Nat):R h F (.own p none 0 e) .aE
 |IS (p id e:Nat):R h F (.IS p id e) (.sl id 0 0 e (some 0))
 |gC (p id:Nat):R h F (.gC p id) (.mp id)
 |fp (row:List PV) (off id base:Nat) (vs:List AV):F id->h.get id=some (.cells vs)->base+row.length<=vs.length->Rs h F row ((vs.drop base).take row.length)->R h F (.fp row off) (.ptr id (base+off))
 |tX (e:Nat) (rows:Nat->List PV) (av:AV):(av= .aE\/(∃oa cp,av= .raw oa 0 cp)\/ ∃id off cap vs,av= .sl id off 0 e cap/\F id/\h.get id=some (.cells vs)/\off<=vs.length)->R h F (.tr e 0 rows) av
 |tr (e n:Nat) (rows:Nat->List PV) (id off:Nat) (cap:Option Nat) (vs:List AV):0<n/\n<=9223372036854775807->F id->h.get id=some (.cells vs)->off+n*e<=vs.length->(∀i,i<n->(rows i).length=e)->(∀i,i<n->Rs h F (rows i) ((vs.drop (off+i*e)).take e))->R h F (.tr e n rows) (.sl id off n e cap)
 |nC (t:Nat) (f:KT t->Option PV) (id:Nat) (l:List (KT t×AV×Nat)) (clock:Nat):F id->h.get id=some (.map (lj (mF t) l) clock)->Nd l clock->(∀k,eY k l=none↔f k=none)->(∀k i v,eY k l=some (i,v)->R h F ((f k).getD .eG) v)->R h F (.nC t f) (.mp id)
 |fn (f:Nat) (ps:List PV) (azs:List AV):Rs h F ps azs->R h F (.fn f ps) (.fn f azs)
 |agg (ps:List PV) (azs:List AV):Rs h F ps azs->R h F (.agg ps) (.agg azs)
 |bn (ps:List PV) (azs:List AV):Rs h F ps azs->R h F (.bn ps) (.bn azs)
inductive Rs (h:H)(F:Nat->Prop):List PV->List AV->Prop
 |nil:Rs h F [] []
 |cons (p:PV) (a:AV) (ps:List PV) (azs:List AV):R h F p a->Rs h F ps azs->Rs h F (p::ps) (a::azs)
end
section
variable {h h':H}{F F':Nat->Prop}
theorem R.mono (hm: ∀id,F id->F' id/\h'.get id=h.get id){p:PV}{a:AV}(q:R h F p a):R h' F' p a:=
 R.rec (motive_1:=fun p a _=>R h' F' p a) (motive_2:=fun ps azs _=>Rs h' F' ps azs)
  .bool .int .str .eG .aE .dt .jb .ptr .gu .own .hY .IS .gC
  (fun row off id base vs h1 h2 h3 _ ih=> .fp row off id base vs (hm id h1).1 ((hm id h1).2.trans h2) h3 ih)
  (fun e rows av h1=> .tX e rows av (by
   rcases h1 with q|q|⟨id,off,cap,vs,q1,q2,q3,q4⟩
   ·exact Or.inl q
   ·exact Or.inr (Or.inl q)
   ·exact Or.inr (Or.inr ⟨id,off,cap,vs,q1,(hm id q2).1,(hm id q2).2.trans q3,q4⟩)))
  (fun e n rows id off cap vs h0 h1 h2 h3 h4 _ ih=> .tr e n rows id off cap vs h0 (hm id h1).1 ((hm id h1).2.trans h2) h3 h4 ih)
  (fun t f id l clock h1 h2 hn h3 _ ih=> .nC t f id l clock (hm id h1).1 ((hm id h1).2.trans h2) hn h3 ih)
  (fun f ps azs _ ih=> .fn f ps azs ih) (fun ps azs _ ih=> .agg ps azs ih) (fun ps azs _ ih=> .bn ps azs ih)
  .nil (fun p a ps azs _ _ i1 i2=> .cons p a ps azs i1 i2) q
theorem Rs.mono (hm: ∀id,F id->F' id/\h'.get id=h.get id): ∀{ps:List PV} {azs:List AV},Rs h F ps azs->Rs h' F' ps azs
 |_,_,.nil=> .nil
 |_,_,.cons p a ps azs q1 q2=> .cons p a ps azs (q1.mono hm) (Rs.mono hm q2)
theorem Rs.len: ∀{ps:List PV} {azs:List AV},Rs h F ps azs->azs.length=ps.length
 |_,_,.nil=>rfl
 |_,_,.cons p a ps azs q1 q2=>by simp[Rs.len q2]
theorem Rs.get: ∀{ps:List PV} {azs:List AV},Rs h F ps azs-> ∀{i:Nat} {p:PV},ps[i]? =some p-> ∃a,azs[i]? =some a/\R h F p a
 |_,_,.nil,i,p,e=>by simp at e
 |_,_,.cons p a ps azs q1 q2,0,x,e=>by simp at e;subst e;exact⟨a,rfl,q1⟩
 |_,_,.cons p a ps azs q1 q2,i+1,x,e=>by simpa using Rs.get q2 (by simpa using e)
theorem Rs.drop: ∀{ps:List PV} {azs:List AV} (n:Nat),Rs h F ps azs->Rs h F (ps.drop n) (azs.drop n)
 |_,_,0,q=>q
 |_,_,n+1,.nil=> .nil
 |_,_,n+1,.cons p a ps azs q1 q2=>Rs.drop n q2
theorem Rs.take: ∀{ps:List PV} {azs:List AV} (n:Nat),Rs h F ps azs->Rs h F (ps.take n) (azs.take n)
 |_,_,0,q=> .nil
 |_,_,n+1,.nil=> .nil
 |_,_,n+1,.cons p a ps azs q1 q2=> .cons p a _ _ q1 (Rs.take n q2)
theorem Rs.app {ps qs:List PV}{azs bs:List AV}(q:Rs h F ps azs)(q':Rs h F qs bs):Rs h F (ps++qs) (azs++bs):=by
 induction ps generalizing azs with
 |nil=>cases q;exact q'
 |cons p ps ih=>cases q with|cons _ a _ azs q1 q2=>exact .cons _ _ _ _ q1 (ih q2)
theorem Rs.of: ∀{ps:List PV} {azs:List AV},azs.length=ps.length->(∀(i:Nat) (p:PV) (a:AV),ps[i]? =some p->azs[i]? =some a->R h F p a)->Rs h F ps azs
 |[],[],_,_=> .nil
 |[],_::_,e,_=>by simp at e
 |_::_,[],e,_=>by simp at e
 |p::ps,a::azs,e,q=> .cons _ _ _ _ (q 0 p a rfl rfl) (Rs.of (by simpa using e) fun i p a e1 e2=>q (i+1) p a (by simpa using e1) (by simpa using e2))
def PV.cells:PV->List PV
 | .agg vs=>vs
 |v=>[v]
theorem R.cells {p:PV}{a:AV}(q:R h F p a):Rs h F p.cells a.cells:=by
 cases q with
 |agg ps azs q=>exact q
 |tX e rows av q=>
  rcases q with rfl|⟨oa,cp,rfl⟩|⟨id,off,cap,vs,rfl,q1,q2,q3⟩
  ·exact .cons _ _ _ _ (.tX e rows _ (Or.inl rfl)) .nil
  ·exact .cons _ _ _ _ (.tX e rows _ (Or.inr (Or.inl ⟨oa,cp,rfl⟩))) .nil
  ·exact .cons _ _ _ _ (.tX e rows _ (Or.inr (Or.inr ⟨id,off,cap,vs,rfl,q1,q2,q3⟩))) .nil
 |_=>exact .cons _ _ _ _ (by constructor<;>assumption) .nil
theorem R.Cj {p:PV}{a:AV}(q:R h F p a):Ev.Cj a=true:=by
 cases q with
 |tX e rows av q=>rcases q with rfl|⟨oa,cp,rfl⟩|⟨id,off,cap,vs,rfl,q1,q2,q3⟩<;>rfl
 |_=>rfl
def PV.one:PV->Bool
 | .agg _| .bn _=>false
 |_=>true
def PV.cy:List PV->Bool
 |[]=>true
 |p::ps=>bif p.one then PV.cy ps else false
theorem R.one {p:PV}{a:AV}(q:R h F p a)(ho:p.one=true):Ev.one a=true:=by
 cases q with
 |tX e rows av q=>rcases q with rfl|⟨oa,cp,rfl⟩|⟨id,off,cap,vs,rfl,q1,q2,q3⟩<;>rfl
 |agg ps azs q=>cases ho
 |bn ps azs q=>cases ho
 |_=>rfl
theorem Rs.cy: ∀{ps:List PV} {azs:List AV},Rs h F ps azs->PV.cy ps=true->Ev.cy azs=true
 |_,_,.nil,_=>rfl
 |_,_,.cons p a ps azs q1 q2,ho=>by
  unfold PV.cy at ho
  cases hp:p.one with
  |false=>rw[hp]at ho;cases ho
  |true=>
   rw[hp]at ho
   simp only[Ev.cy,q1.one hp]
   exact Rs.cy q2 ho
end
/-! constants -/
mutual
def dO:AV->Option PV
 | .bool b=>some (.bool b)
 | .int k n=>some (.int k n)
 | .str s=>some (.str s)
 | .eG=>some .eG
 | .aE=>some .aE
 | .dt=>some .dt
 | .jb=>some .jb
 | .fn f cs=>match ek cs with
  |some ps=>some (.fn f ps)
  |none=>none
 | .agg vs=>match ek vs with
  |some ps=>some (.agg ps)
  |none=>none
 | .bn vs=>match ek vs with
  |some ps=>some (.bn ps)
  |none=>none
 |_=>none
def ek:List AV->Option (List PV)
 |[]=>some []
 |v::vs=>match dO v,ek vs with
  |some p,some ps=>some (p::ps)
  |_,_=>none
end
mutual
theorem rW (h:H)(F:Nat->Prop): ∀(a:AV) (p:PV),dO a=some p->R h F p a
 | .bool b,p,e=>by simp only[dO]at e;cases e;exact .bool b
 | .int k n,p,e=>by simp only[dO]at e;cases e;exact .int k n
 | .str s,p,e=>by simp only[dO]at e;cases e;exact .str s
 | .eG,p,e=>by simp only[dO]at e;cases e;exact .eG
 | .aE,p,e=>by simp only[dO]at e;cases e;exact .aE
 | .dt,p,e=>by simp only[dO]at e;cases e;exact .dt
 | .jb,p,e=>by simp only[dO]at e;cases e;exact .jb
 | .fn f cs,p,e=>by
  simp only[dO]at e
  split at e
  ·rename_i ps hp;cases e;exact .fn f _ _ (jl h F cs ps hp)
  ·cases e
 | .agg cs,p,e=>by
  simp only[dO]at e
  split at e
  ·rename_i ps hp;cases e;exact .agg _ _ (jl h F cs ps hp)
  ·cases e
 | .bn cs,p,e=>by
  simp only[dO]at e
  split at e
  ·rename_i ps hp;cases e;exact .bn _ _ (jl h F cs ps hp)
  ·cases e
 | .ptr _ _,p,e=>by simp[dO]at e
 | .sl _ _ _ _ _,p,e=>by simp[dO]at e
 | .mp _,p,e=>by simp[dO]at e
 | .Nc _ _ _,p,e=>by simp[dO]at e
 | .sT,p,e=>by simp[dO]at e
 | .iface _ _,p,e=>by simp[dO]at e
 | .Dn _,p,e=>by simp[dO]at e
 | .raw _ _ _,p,e=>by simp[dO]at e
 | .var _,p,e=>by simp[dO]at e
 | .top,p,e=>by simp[dO]at e
theorem jl (h:H)(F:Nat->Prop): ∀(azs:List AV) (ps:List PV),ek azs=some ps->Rs h F ps azs
 |[],ps,e=>by simp only[ek]at e;cases e;exact .nil
 |a::azs,ps,e=>by
  simp only[ek]at e
  split at e
  ·rename_i p qs h1 h2;cases e;exact .cons _ _ _ _ (rW h F a p h1) (jl h F azs qs h2)
  ·cases e
end
/-! what sI hold -/
class Gb where
 gl:Nat->Option (List PV)
variable [Gb]
def ki (h:H)(F:Nat->Prop):Prop:= ∀g row,Gb.gl g=some row->F g/\ ∃vs,h.get g=some (.cells vs)/\Rs h F row vs
theorem ki.mono {h h':H}{F F':Nat->Prop}(k:ki h F)(hm: ∀id,F id->F' id/\h'.get id=h.get id):ki h' F':=fun g row e=>by
 obtain⟨h1,vs,h2,h3⟩:=k g row e
 exact⟨(hm g h1).1,vs,(hm g h1).2.trans h2,h3.mono hm⟩
def fh:aK->Nat->Option PV
 |[],_=>none
 |(k,v)::l,t=>bif Nat.beq k t then some v else fh l t
def bx (G:aK):XV->Option PV
 | .tmp t=>fh G t
 | .const v=>dO v
 | .Cg g=>match Gb.gl g with
  |some row=>some (.fp row 0)
  |none=>none
def tA (G:aK):List XV->Option (List PV)
 |[]=>some []
 |x::xs=>match bx G x,tA G xs with
  |some v,some vs=>some (v::vs)
  |_,_=>none
structure RE (h:H)(F:Nat->Prop)(G:aK)(env:bo):Prop where
 at_: ∀t p,fh G t=some p-> ∃a,look env t=some a/\R h F p a
 gl:ki h F
theorem RE.ev {h:H}{F:Nat->Prop}{G:aK}{env:bo}(r:RE h F G env){x:XV}{p:PV}(e:bx G x=some p): ∃a,dP env x=some a/\R h F p a:=by
 cases x with
 |tmp t=>exact r.at_ t p e
 |const v=>exact⟨v,rfl,rW h F v p e⟩
 |Cg g=>
  simp only[bx]at e
  split at e
  ·rename_i row hg
   cases e
   obtain⟨h1,vs,h2,h3⟩:=r.gl g row hg
   exact⟨_,rfl,.fp row 0 g 0 vs h1 h2 (by rw[h3.len];omega) (by rw[List.drop_zero,<-h3.len,List.take_length];exact h3)⟩
  ·cases e
theorem RE.LU {h:H}{F:Nat->Prop}{G:aK}{env:bo}(r:RE h F G env): ∀{xs:List XV} {ps:List PV},tA G xs=some ps-> ∃azs,Fe env xs=some azs/\Rs h F ps azs
 |[],ps,e=>by cases e;exact⟨[],rfl,.nil⟩
 |x::xs,ps,e=>by
  simp only[tA]at e
  split at e
  ·rename_i p qs h1 h2
   cases e
   obtain⟨a,e1,r1⟩:=r.ev h1
   obtain⟨azs,e2,r2⟩:=RE.LU r h2
   exact⟨a::azs,by simp only[Fe,e1,e2],.cons _ _ _ _ r1 r2⟩
  ·cases e
theorem RE.put {h:H}{F:Nat->Prop}{G:aK}{env:bo}(r:RE h F G env){d:Nat}{p:PV}{a:AV}(q:R h F p a):RE h F ((d,p)::G) ((d,a)::env):=⟨fun t u e=>by
 simp only[fh]at e
 simp only[look]
 cases hb:Nat.beq d t with
 |true=>rw[hb]at e;cases e;exact⟨a,rfl,q⟩
 |false=>rw[hb]at e;exact r.at_ t u e,r.gl⟩
theorem RE.mono {h h':H}{F F':Nat->Prop}{G:aK}{env:bo}(r:RE h F G env)(hm: ∀id,F id->F' id/\h'.get id=h.get id):RE h' F' G env:=⟨fun t p e=>by
 obtain⟨a,e1,r1⟩:=r.at_ t p e
 exact⟨a,e1,r1.mono hm⟩,r.gl.mono hm⟩
/-! the store -/
inductive RB (h:H)(F:Nat->Prop):PB->AB->Prop
 |cells (ps:List PV) (azs:List AV):Rs h F ps azs->RB h F (.cells ps) (.cells azs)
 |arr (e n:Nat) (rows:Nat->List PV) (azs:List AV):n*e<=azs.length->(∀i,i<n->(rows i).length=e)->(∀i,i<n->Rs h F (rows i) ((azs.drop (i*e)).take e))->RB h F (.arr e n rows) (.cells azs)
 |map (t:Nat) (f:KT t->Option PV) (l:List (KT t×AV×Nat)) (clock:Nat):Nd l clock->(∀k,eY k l=none↔f k=none)->(∀k i v,eY k l=some (i,v)->R h F ((f k).getD .eG) v)->RB h F (.map t f) (.map (lj (mF t) l) clock)
 |dA (l:List (Int×PV×Nat)) (la:List (Int×AV×Nat)) (ck:Nat):Nd la ck->la.map (fun e=>(e.1,e.2.2))=l.map (fun e=>(e.1,e.2.2))->Rs h F (l.map fun e=>e.2.1) (la.map fun e=>e.2.1)->RB h F (.dA l ck) (.map (lj (mF 1) la) ck)
 |iter (mid since last:Nat) (seen:List Nat):RB h F (.iter mid since seen last) (.iter (some mid) since seen last)
 |D1 (t:Nat) (f:KT t->Option PV) (n:Nat) (o:Option (KT t)) (mid ck:Nat) (seen:List Nat) (l:List (KT t×AV×Nat)):F mid->h.get mid=some (.map (lj (mF t) l) ck)->Nd l ck->(∀k,eY k l=none↔f k=none)->(∀k i v,eY k l=some (i,v)->R h F ((f k).getD .eG) v)->n=(l.filter fun e=>!seen.contains e.2.2).length->(∀k,o=some k-> ∃a st,(k,a,st)∈l/\seen.getLast? =some st)->RB h F (.D1 t f n o) (.iter (some mid) ck seen ck)
theorem RB.mono {h h':H}{F F':Nat->Prop}(hm: ∀id,F id->F' id/\h'.get id=h.get id){b:PB}{a:AB}(q:RB h F b a):RB h' F' b a:=by
 cases q with
 |cells ps azs q=>exact .cells _ _ (q.mono hm)
 |arr e n rows azs q1 q2 q3=>exact .arr _ _ _ _ q1 q2 fun i hi=>(q3 i hi).mono hm
 |map t f l clock q0 q1 q2=>exact .map _ _ _ _ q0 q1 fun k i v e=>(q2 k i v e).mono hm
 |dA l la ck q0 q1 q2=>exact .dA _ _ _ q0 q1 (q2.mono hm)
 |iter mid since last seen=>exact .iter _ _ _ _
 |D1 t f n o mid ck seen l q1 q2 q3 q4 q5 q6 q7=>exact .D1 _ _ _ _ _ _ _ _ (hm mid q1).1 ((hm mid q1).2.trans q2) q3 q4 (fun k i v e=>(q5 k i v e).mono hm) q6 q7
def Live (S:aJ)(id:Nat):Prop:= ∃(p:Nat) (b:PB),aC S p=some (some id,b)/\b≠ .dead
structure St (c:C)(h:H)(F:Nat->Prop)(S:aJ):Prop where
 cx:Cx c h
 gl:ki h F
 fr: ∀id,F id->id<h.n/\seen c.cd id=true
 own: ∀(p id:Nat) (b:PB),aC S p=some (some id,b)->b≠ .dead->id<h.n/\c.floor<=id/\seen c.cd id=true/\ ¬F id/\ ∃ab,h.get id=some ab/\RB h F b ab
 inj: ∀(p q id:Nat) (b d:PB),aC S p=some (some id,b)->aC S q=some (some id,d)->b≠ .dead->d≠ .dead->p=q
structure Ext (h:H)(F:Nat->Prop)(S:aJ)(h':H)(F':Nat->Prop)(S':aJ):Prop where
 le:h.n<=h'.n
 sub: ∀id,F id->F' id
 same: ∀id,id<h.n-> ¬Live S id->h'.get id=h.get id
 rU: ∀id,F' id->F id\/h.n<=id\/Live S id
 rV: ∀id,Live S' id->h.n<=id\/Live S id
theorem Ext.refl (h:H)(F:Nat->Prop)(S:aJ):Ext h F S h F S:=⟨Nat.le_refl _,fun _ q=>q,fun _ _ _=>rfl,fun _ q=>Or.inl q,fun _ q=>Or.inr q⟩
theorem Ext.trans {h h1 h2:H}{F F1 F2:Nat->Prop}{S S1 S2:aJ}(a:Ext h F S h1 F1 S1)(b:Ext h1 F1 S1 h2 F2 S2):Ext h F S h2 F2 S2:=by
 refine⟨Nat.le_trans a.le b.le,fun id q=>b.sub id (a.sub id q),fun id hid hl=>?_,fun id q=>?_,fun id q=>?_⟩
 ·refine(b.same id (Nat.lt_of_lt_of_le hid a.le) fun q=>?_).trans (a.same id hid hl)
  rcases a.rV id q with x|x
  ·omega
  ·exact hl x
 ·rcases b.rU id q with x|x|x
  ·exact a.rU id x
  ·exact Or.inr (Or.inl (Nat.le_trans a.le x))
  ·exact Or.inr (a.rV id x)
 ·rcases b.rV id q with x|x
  ·exact Or.inl (Nat.le_trans a.le x)
  ·exact a.rV id x
theorem St.keep {c:C}{h:H}{F:Nat->Prop}{S:aJ}(s:St c h F S){h':H}{F':Nat->Prop}{S':aJ}(x:Ext h F S h' F' S'): ∀id,F id->F' id/\h'.get id=h.get id:=fun id q=>by
 refine⟨x.sub id q,x.same id (s.fr id q).1 ?_⟩
 rintro⟨p,b,h1,h2⟩
 exact(s.own p id b h1 h2).2.2.2.1 q
theorem St.at_ {c:C}{h:H}{F:Nat->Prop}{S:aJ}(s:St c h F S){p id:Nat}{b:PB}(e:aC S p=some (some id,b))(hb:b≠ .dead):c.floor<=id/\seen c.cd id=true/\id<h.n/\ ∃ab,h.get id=some ab/\RB h F b ab:=by
 obtain⟨h1,h2,h3,_,h4⟩:=s.own p id b e hb
 exact⟨h2,h3,h1,h4⟩
end
section
variable [Gb]
def SO.Uj:SO->Option XV
 | .ax x=>some x
 | .ao _ x=>some x
 |_=>none
section
variable (P:Program)(X:cj)(M:Mf)
structure PO (d:Nat)(op:SO)(G:aK)(S:aJ)(K:PV->aJ->Prop):Prop where
 run: ∀c h F env,St c h F S->RE h F G env->WO P X M c op env h (fun v h'=> ∃p S' F',Ext h F S h' F' S'/\St c h' F' S'/\R h' F' p v/\K p S')
structure kM (op:SO)(G:aK)(K:PV->Prop):Prop where
 run: ∀c h F env,RE h F G env-> ∀K':AV->H->Prop,(∀p a,R h F p a->K p->K' a h)->WO P X M c op env h K'
structure IU (d:Nat)(op:SO)(G:aK)(K:(Nat->PV)->PB->Prop):Prop where
 run: ∀c h F env,RE h F G env-> ∀K':AV->H->Prop,(∀f b ab a,RB h F b ab->(∀h',R h' F (f h.n) a)->b≠ .dead->K f b->K' a (h.new ab))->WO P X M c op env h K'
structure zx (op:SO)(G:aK)(S:aJ)(K:PV->Prop):Prop where
 run: ∀h F env,RE h F G env->(∀p id b,aC S p=some (some id,b)->b≠ .dead-> ∃ab,h.get id=some ab/\RB h F b ab)-> ∃x A off vs,SO.Uj op=some x/\dP env x=some (.ptr A off)/\h.get A=some (.cells vs)/\(F A\/Live S A)/\ ∀c,seen c.cd A=true-> ∀K':AV->H->Prop,(∀p a,R h F p a->K p->K' a h)->WO P X M c op env h K'
def sc (f:Nat)(args:List PV)(S:aJ)(K:PV->aJ->Prop):Prop:= ∀c h F azs,St c h F S->Rs h F args azs->Gv P X M c f azs h (fun v h'=> ∃p S' F',Ext h F S h' F' S'/\St c h' F' S'/\R h' F' p v/\K p S')
def PF (f:Nat)(args:List PV)(K:PV->Prop):Prop:=sc P X M f args [] fun p _=>K p
end
theorem St.nil {c:C}{h:H}{F:Nat->Prop}(hc:Cx c h)(hg:ki h F)(hf: ∀id,F id->id<h.n/\seen c.cd id=true):St c h F []:=⟨hc,hg,hf,fun p id b e _=>(by cases e),fun p q id b d e _ _ _=>(by cases e)⟩
theorem bQ {id:Nat}: ¬Live [] id:=fun⟨p,b,e,_⟩=>by cases e
section
variable {P:Program}{X:cj}{M:Mf}{d:Nat}{G:aK}{S:aJ}{K:PV->aJ->Prop}{op:SO}
theorem PO.mono {K':PV->aJ->Prop}(w:PO P X M d op G S K)(hk: ∀p S,K p S->K' p S):PO P X M d op G S K':=⟨fun c h F env s r=>(w.run c h F env s r).mono fun v h' ⟨p,S',F',a1,a2,a3,a4⟩=>⟨p,S',F',a1,a2,a3,hk _ _ a4⟩⟩
theorem sc.mono {f:Nat}{args:List PV}{K':PV->aJ->Prop}(w:sc P X M f args S K)(hk: ∀p S,K p S->K' p S):sc P X M f args S K':=fun c h F azs s r=>(w c h F azs s r).mono fun v h' ⟨p,S',F',a1,a2,a3,a4⟩=>⟨p,S',F',a1,a2,a3,hk _ _ a4⟩
theorem PF.mono {f:Nat}{args:List PV}{K K':PV->Prop}(w:PF P X M f args K)(hk: ∀p,K p->K' p):PF P X M f args K':=sc.mono w fun p _ q=>hk p q
theorem ez {K:PV->Prop}{p:PV}(e: ∀c h F env,RE h F G env-> ∀K:AV->H->Prop,(∀a,R h F p a->K a h)->WO P X M c op env h K)(hk:K p):kM P X M op G K:=⟨fun c h F env r K' k=>e c h F env r _ fun a q=>k p a q hk⟩
theorem mK {K:PV->Prop}{p:PV}(e: ∀h F env,RE h F G env->(∀p id b,aC S p=some (some id,b)->b≠ .dead-> ∃ab,h.get id=some ab/\RB h F b ab)-> ∃x A off vs,SO.Uj op=some x/\dP env x=some (.ptr A off)/\h.get A=some (.cells vs)/\(F A\/Live S A)/\ ∀c,seen c.cd A=true-> ∀K':AV->H->Prop,(∀a,R h F p a->K' a h)->WO P X M c op env h K')(hk:K p):zx P X M op G S K:=⟨fun h F env r s=>by
 obtain⟨x,A,off,vs,h1,h2,h3,h4,h5⟩:=e h F env r s
 exact⟨x,A,off,vs,h1,h2,h3,h4,fun c hc K' k=>h5 c hc K' fun a q=>k p a q hk⟩⟩
def qn:List PV->Nat->Option PV
 |[],_=>none
 |x::_,0=>some x
 |_::l,n+1=>qn l n
theorem kO: ∀(l:List PV) (n:Nat),qn l n=l[n]?
 |[],n=>by simp[qn]
 |x::l,0=>by simp[qn]
 |x::l,n+1=>by simp[qn,kO l n]
def L4 (op:SO)(G:aK):Option PV:=match op with
 | .mv x=>bx G x
 | .aq o x=>match bx G x with
  |some (.ptr p id off)=>some (.ptr p id (off+o))
  |some (.gu p id i off e)=>some (.gu p id i (off+o) e)
  |some (.fp row off)=>some (.fp row (off+o))
  |_=>none
 | .cu x=>match bx G x with
  |some (.ptr p id off)=>some (.ptr p id off)
  |some (.gu p id i off e)=>some (.gu p id i off e)
  |some (.fp row off)=>some (.fp row off)
  |some (.fn f cs)=>some (.fn f cs)
  |_=>none
 | .not x=>match bx G x with
  |some (.bool b)=>some (.bool (!b))
  |_=>none
 | .bu x i=>match bx G x with
  |some (.bn vs)=>qn vs i
  |_=>none
 | .Rc o x=>match bx G x with
  |some (.agg vs)=>qn vs o
  |_=>none
 | .aM x=>match bx G x with
  |some .aE=>some (.int .i64 0)
  |_=>none
 | .jV x=>match bx G x with
  |some (.str s)=>some (.int .i64 (s.length:Int))
  |_=>none
 | .qY f cs=>match tA G cs with
  |some vs=>some (.fn f vs)
  |none=>none
 | .pick b x y=>match bx G b with
  |some (.bool true)=>bx G x
  |some (.bool false)=>bx G y
  |_=>none
 | .same x=>match bx G x with
  |some (.str s)=>some (.str s)
  |_=>none
 |_=>none
theorem IV {p:PV}(e:L4 op G=some p){c:C}{h:H}{F:Nat->Prop}{env:bo}(r:RE h F G env){K:AV->H->Prop}(k: ∀a,R h F p a->K a h):WO P X M c op env h K:=by
 unfold L4 at e
 split at e
 ·obtain⟨a,e1,q⟩:=r.ev e
  exact Tx e1 (k a q)
 ·split at e
  ·rename_i hx;obtain⟨a,e1,q⟩:=r.ev hx;cases q;cases e;exact wc e1 (k _ (.ptr _ _ _))
  ·rename_i hx;obtain⟨a,e1,q⟩:=r.ev hx;cases q;cases e
   refine wc e1 ?_
   rw[Nat.add_assoc];exact k _ (.gu _ _ _ _ _)
  ·rename_i hx;obtain⟨a,e1,q⟩:=r.ev hx;cases e
   cases q with
   |fp row off id base vs h1 h2 h3 h4=>
    refine wc e1 ?_
    rw[Nat.add_assoc];exact k _ (.fp _ _ id base vs h1 h2 h3 h4)
  ·cases e
 ·split at e
  ·rename_i hx;obtain⟨a,e1,q⟩:=r.ev hx;cases e;cases q;exact Ay e1 (k _ (.ptr _ _ _))
  ·rename_i hx;obtain⟨a,e1,q⟩:=r.ev hx;cases e;cases q;exact Ay e1 (k _ (.gu _ _ _ _ _))
  ·rename_i hx;obtain⟨a,e1,q⟩:=r.ev hx;cases e
   cases q with
   |fp row off id base vs h1 h2 h3 h4=>exact Ay e1 (k _ (.fp _ _ id base vs h1 h2 h3 h4))
  ·rename_i hx;obtain⟨a,e1,q⟩:=r.ev hx;cases e
   cases q with
   |fn f ps azs q=>exact L5 e1 (k _ (.fn _ _ azs q))
  ·cases e
 ·split at e
  ·rename_i hx;obtain⟨a,e1,q⟩:=r.ev hx;cases e;cases q;exact Re e1 (k _ (.bool _))
  ·cases e
 ·split at e
  ·rename_i hx;obtain⟨a,e1,q⟩:=r.ev hx
   cases q with
   |bn ps azs q=>
    rw[kO]at e
    obtain⟨b,e2,q2⟩:=q.get e
    exact Om e1 e2 (k _ q2)
  ·cases e
 ·split at e
  ·rename_i hx;obtain⟨a,e1,q⟩:=r.ev hx
   cases q with
   |agg ps azs q=>
    rw[kO]at e
    obtain⟨b,e2,q2⟩:=q.get e
    exact On e1 e2 (k _ q2)
  ·cases e
 ·split at e
  ·rename_i hx;obtain⟨a,e1,q⟩:=r.ev hx;cases e;cases q;exact we e1 (k _ (.int _ _))
  ·cases e
 ·split at e
  ·rename_i hx;obtain⟨a,e1,q⟩:=r.ev hx;cases e;cases q;exact Oo e1 (k _ (.int _ _))
  ·cases e
 ·split at e
  ·rename_i hx;obtain⟨azs,e1,q⟩:=r.LU hx;cases e;exact Oq e1 (k _ (.fn _ _ _ q))
  ·cases e
 ·split at e
  ·rename_i hb;obtain⟨b,e0,q0⟩:=r.ev hb;cases q0
   obtain⟨a,e1,q⟩:=r.ev e
   exact IW e0 e1 (k a q)
  ·rename_i hb;obtain⟨b,e0,q0⟩:=r.ev hb;cases q0
   obtain⟨a,e1,q⟩:=r.ev e
   exact IX e0 e1 (k a q)
  ·cases e
 ·split at e
  ·rename_i hx;obtain⟨a,e1,q⟩:=r.ev hx;cases e;cases q
   exact bd (fun sl hs call k=>by simp only[SO.den,Cl,hs.ev e1]) (k _ (.str _))
  ·cases e
 ·cases e
variable {K0:PV->Prop}
theorem af {p:PV}(hk:K0 p)(e:L4 op G=some p:=by exact rfl):kM P X M op G K0:=ez (fun c h F env r K k=>IV e r k) hk
def Ty (G:aK)(x:XV):Option Nat:=match bx G x with
 |some (.tr _ n _)=>some n
 |some (.own _ _ n _)=>some n
 |_=>none
theorem ak {x:XV}{n:Nat}(hk:n<=9223372036854775807->K0 (.int .i64 (n:Int)))(e:Ty G x=some n:=by exact rfl):kM P X M (.aM x) G K0:=⟨fun c h F env r K' k=>by
 unfold Ty at e
 split at e
 ·rename_i hx;obtain⟨a,e1,q⟩:=r.ev hx;cases e
  cases q with
  |tX e rows av q=>
   have z:=k _ _ (.int .i64 _) (hk (Nat.zero_le _))
   rcases q with rfl|⟨oa,cp,rfl⟩|⟨id,off,cap,vs,rfl,q1,q2,q3⟩
   ·exact we e1 z
   ·exact L6 e1 z
   ·exact Az e1 z
  |tr _ _ _ id off cap vs h0 h1 h2 h3 h4 h5=>exact Az e1 (k _ _ (.int _ _) (hk h0.2))
 ·rename_i hx;obtain⟨a,e1,q⟩:=r.ev hx;cases e
  cases q with
  |own _ id _ _ cap hb=>exact Az e1 (k _ _ (.int _ _) (hk hb))
  |hY=>exact we e1 (k _ _ (.int _ _) (hk (Nat.zero_le _)))
 ·cases e⟩
/-! parts of structs -/
def wP (off:Nat)(news l:List PV):List PV:=l.take off++(news++l.drop (off+news.length))
def l9 (G:aK):List (Nat×Nat×XV)->List PV->Option (List PV)
 |[],l=>some l
 |q::ps,l=>match bx G q.2.2 with
  |some v=>bif Nat.beq v.cells.length q.2.1&&Nat.ble (q.1+v.cells.length) l.length then l9 G ps (wP q.1 v.cells l)else none
  |none=>none
theorem Rs.dM {h:H}{F:Nat->Prop}{ps qs:List PV}{azs bs:List AV}(q:Rs h F ps azs)(q':Rs h F qs bs)(off:Nat):Rs h F (wP off qs ps) (dM off bs azs):=by
 unfold wP Ev.dM
 rw[List.append_assoc,<-q'.len]
 exact(q.take off).app (q'.app (q.drop _))
theorem tW {h:H}{F:Nat->Prop}{env:bo}(r:RE h F G env): ∀(ps:List (Nat×Nat×XV)) (l l':List PV) (azs:List AV),l9 G ps l=some l'->Rs h F l azs-> ∃as',oD env ps azs=some as'/\Rs h F l' as'
 |[],l,l',azs,e,q=>by cases e;exact⟨azs,rfl,q⟩
 |p::ps,l,l',azs,e,q=>by
  simp only[l9]at e
  split at e
  ·rename_i v hv
   obtain⟨a,e1,q1⟩:=r.ev hv
   have hc:=q1.cells
   cases hb:(Nat.beq v.cells.length p.2.1&&Nat.ble (p.1+v.cells.length) l.length)with
   |false=>rw[hb]at e;cases e
   |true=>
    rw[hb]at e
    obtain⟨h1,h2⟩:=(Bool.and_eq_true _ _).mp hb
    have h1:=Nat.eq_of_beq_eq_true h1
    have h2:=Nat.le_of_ble_eq_true h2
    obtain⟨as',e2,q2⟩:=tW r ps _ l' _ e (q.dM hc p.1)
    refine⟨as',?_,q2⟩
    have hb2:(Nat.beq (gI a.cells) p.2.1&&Ev.Cj a)=true:=by
     rw[cX,hc.len,h1,q1.Cj];simp
    simp only[oD,e1,hb2,cond]
    rw[iX _ _ _ _ (by rw[hc.len,q.len];exact h2)]
    exact e2
  ·cases e
theorem aU {z:List AV}{ps:List (Nat×Nat×XV)}{zs l:List PV}(hk:K0 (.agg l))(hz:ek z=some zs:=by exact rfl)(hp:l9 G ps zs=some l:=by exact rfl):kM P X M (.build z ps) G K0:=
 ez (p:= .agg l) (fun c h F env r K k=>by
  obtain⟨azs,e1,q⟩:=tW r ps zs l z hp (jl h F z zs hz)
  exact L7 e1 (k _ (.agg _ _ q))) hk
/-! numbers -/
theorem aA {x y:XV}{a b:Int}(hk:K0 (.int .i64 (a+b)))(hx:bx G x=some (.int .i64 a):=by exact rfl)(hy:bx G y=some (.int .i64 b):=by exact rfl)(h1: -9223372036854775808<=a+b:=by omega)(h2:a+b<=9223372036854775807:=by omega):kM P X M (.ints .add x y) G K0:=
 ez (p:= .int .i64 (a+b)) (fun c h F env r K k=>by
  obtain⟨u,e1,q1⟩:=r.ev hx
  obtain⟨v,e2,q2⟩:=r.ev hy
  cases q1;cases q2
  exact Rf e1 e2 h1 h2 (k _ (.int _ _))) hk
theorem lq {x y:XV}{a b:Int}(hk:K0 (.int .i64 (a-b)))(hx:bx G x=some (.int .i64 a):=by exact rfl)(hy:bx G y=some (.int .i64 b):=by exact rfl)(h1: -9223372036854775808<=a-b:=by omega)(h2:a-b<=9223372036854775807:=by omega):kM P X M (.ints .sub x y) G K0:=
 ez (p:= .int .i64 (a-b)) (fun c h F env r K k=>by
  obtain⟨u,e1,q1⟩:=r.ev hx
  obtain⟨v,e2,q2⟩:=r.ev hy
  cases q1;cases q2
  exact Rg e1 e2 h1 h2 (k _ (.int _ _))) hk
def Tz (o:SO)(G:aK):Option (Prop×Bool×Bool):=match o with
 | .ints f x y=>match bx G x,bx G y with
  |some (.int p a),some (.int q b)=>bif eD p q then match f with
   | .lss=>some (a<b,true,false)
   | .gtr=>some (b<a,true,false)
   | .geq=>some (b<=a,true,false)
   | .leq=>some (a<=b,true,false)
   |_=>none
   else none
  |_,_=>none
 | .eql (.b .int) neg x y=>match bx G x,bx G y with
  |some (.int p a),some (.int q b)=>bif eD p q then some (a=b,bne true neg,bne false neg)else none
  |_,_=>none
 | .eql (.b .str) neg x y=>match bx G x,bx G y with
  |some (.str a),some (.str b)=>some (a=b,bne true neg,bne false neg)
  |_,_=>none
 | .eql (.b .bool) neg x y=>match bx G x,bx G y with
  |some (.bool a),some (.bool b)=>some (a=b,bne true neg,bne false neg)
  |_,_=>none
 | .M8 f x y=>match bx G x,bx G y with
  |some (.str a),some (.str b)=>some (f.den a b=true,true,false)
  |_,_=>none
 |_=>none
theorem aw {p:Prop}{b1 b2:Bool}(ht:p->K0 (.bool b1))(hf: ¬p->K0 (.bool b2))(e:Tz op G=some (p,b1,b2):=by exact rfl):kM P X M op G K0:=⟨fun c h F env r K' k=>by
 have kt:p->K' (.bool b1) h:=fun x=>k _ _ (.bool b1) (ht x)
 have kf: ¬p->K' (.bool b2) h:=fun x=>k _ _ (.bool b2) (hf x)
 unfold Tz at e
 split at e
 ·split at e
  ·rename_i f x y _ _ p' a q b hx hy
   obtain⟨u,e1,q1⟩:=r.ev hx
   obtain⟨v,e2,q2⟩:=r.ev hy
   cases q1;cases q2
   cases hk:eD p' q with
   |false=>rw[hk]at e;cases e
   |true=>
    rw[hk]at e
    have:=ij hk
    subst this
    split at e
    ·cases e;exact Rh e1 e2 kt kf
    ·cases e;exact Ri e1 e2 kt kf
    ·cases e;exact Rj e1 e2 kt kf
    ·cases e;exact Rk e1 e2 kt kf
    ·cases e
  ·cases e
 ·split at e
  ·rename_i hx hy
   obtain⟨u,e1,q1⟩:=r.ev hx
   obtain⟨v,e2,q2⟩:=r.ev hy
   cases q1;cases q2
   rename_i p' a q b
   cases hk:eD p' q with
   |false=>rw[hk]at e;cases e
   |true=>
    rw[hk]at e
    have:=ij hk
    subst this
    cases e;exact Rl e1 e2 kt kf
  ·cases e
 ·split at e
  ·rename_i hx hy
   obtain⟨u,e1,q1⟩:=r.ev hx
   obtain⟨v,e2,q2⟩:=r.ev hy
   cases q1;cases q2
   cases e;exact Rm e1 e2 kt kf
  ·cases e
 ·split at e
  ·rename_i neg x y _ _ a b hx hy
   obtain⟨u,e1,q1⟩:=r.ev hx
   obtain⟨v,e2,q2⟩:=r.ev hy
   cases q1;cases q2
   cases e
   by_cases hab:a=b
   ·exact oB (b:=true) e1 e2 (by subst hab;cases a<;>rfl) (kt hab)
   ·exact oB (b:=false) e1 e2 (by cases a<;>cases b<;>first|rfl|exact absurd rfl hab) (kf hab)
  ·cases e
 ·split at e
  ·rename_i f x y _ _ a b hx hy
   obtain⟨u,e1,q1⟩:=r.ev hx
   obtain⟨v,e2,q2⟩:=r.ev hy
   cases q1;cases q2
   cases e
   cases hb:f.den a b with
   |true=>exact bd (fun sl hs call k=>by simp only[SO.den,sA,hs.ev e1,hs.ev e2,hb,eH,bR]) (kt hb)
   |false=>exact bd (fun sl hs call k=>by simp only[SO.den,sA,hs.ev e1,hs.ev e2,hb,eH,bR]) (kf (by rw[hb];simp))
  ·cases e
 ·cases e⟩
end
end
end Go.Proofs.YtemehfgkfidgjaaGreatDoor.Ev
