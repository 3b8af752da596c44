/- CoverStates, part 18 -/
import Derived.Test.YtemehfgkfidgjaaGreatDoorPvI
import Derived.Lib.SlicesCompact
set_option linter.all false
namespace Go.Proofs.YtemehfgkfidgjaaGreatDoor.Ev
open Go Go.Proofs
variable [Gb]
def vW:List AV->Option (List Int)
 |[]=>some []
 | .int .i64 n::l=>match vW l with
  |some m=>some (n::m)
  |none=>none
 |_::_=>none
def rP (c:C)(h:H)(id n:Nat):Option (List AV×List Int):=match cr c h id with
 |some (.cells vs)=>bif Nat.ble n vs.length&&(Nat.blt 0 n&&Nat.blt n 4611686018427387904)then match vW (vs.take n)with
  |some l=>some (vs,l)
  |none=>none
  else none
 |_=>none
def fW (l:List Int):List Int:=l.mergeSort fun x y=>decide (x<=y)
def gT (f:Nat):Mf:=fun g args c h=>bif Nat.beq g f then match args with
 |[.aE]=>some (.bn [],h)
 |[.sl id 0 n 1 _]=>match rP c h id n with
  |some (vs,l)=>pJ c h id (.cells ((fW l).map (.int .i64)++vs.drop n)) fun h'=>some (.bn [],h')
  |none=>none
 |_=>none
 else none
def gU (f:Nat):Mf:=fun g args c h=>bif Nat.beq g f then match args with
 |[.aE]=>some (.aE,h)
 |[.sl id 0 n 1 cap]=>match rP c h id n with
  |some (vs,l)=>pJ c h id (.cells ((Lib.compact l++List.replicate (l.length-(Lib.compact l).length) 0).map (.int .i64)++vs.drop n)) fun h'=>some (.sl id 0 (Lib.compact l).length 1 cap,h')
  |none=>none
 |_=>none
 else none
theorem xL {f g:Nat}(hne:Nat.beq g f=false)(args:List AV)(c:C)(h:H):gT f g args c h=none:=by unfold gT;rw[hne];rfl
theorem xK {f g:Nat}(hne:Nat.beq g f=false)(args:List AV)(c:C)(h:H):gU f g args c h=none:=by unfold gU;rw[hne];rfl
def M6 (a b:Mf):Mf:=fun f args c h=>match a f args c h with
 |some r=>some r
 |none=>b f args c h
theorem Kb {a b:Mf}{f:Nat}{args:List AV}{c:C}{h:H}(ha:a f args c h=none)(hb:b f args c h=none):M6 a b f args c h=none:=by unfold M6;rw[ha];exact hb
theorem xJ {a b:Mf}{f:Nat}{args:List AV}{c:C}{h:H}(ha:a f args c h=none):M6 a b f args c h=b f args c h:=by unfold M6;rw[ha]
theorem Jp {a b:Mf}{f:Nat}{args:List AV}{c:C}{h:H}{r:AV×H}(ha:a f args c h=some r):M6 a b f args c h=some r:=by unfold M6;rw[ha]
theorem jD {P:Program}{X:cj}{M:Mf}{c:C}{h h':H}{f:Nat}{args:List AV}{v:AV}{K:AV->H->Prop}(e:M f args c h=some (v,h'))(hK:K v h'):Gv P X M c f args h K:=by
 refine⟨v,h',⟨1,fun n hn=>?_⟩,hK⟩
 cases n with
 |zero=>omega
 |succ n=>
  show(match M f args c h with|some r=>lh.call r.1 r.2|none=>jk (ev (cC P) (bJ P X) M n) c args h (bJ P X f))=_
  rw[e]
theorem yz: ∀l:List Int,vW (l.map (AV.int .i64))=some l
 |[]=>rfl
 |s::l=>by rw[List.map_cons];unfold vW;rw[yz l]
theorem yA {h:H}{F:Nat->Prop}: ∀(l:List Int) (azs:List AV),l.length<=azs.length->(∀i,i<l.length->Rs h F (pI (el l i)) ((azs.drop (i*1)).take 1))->azs.take l.length=l.map (AV.int .i64)
 |[],azs,_,_=>rfl
 |x::l,[],hl,_=>by simp at hl
 |x::l,a::azs,hl,hr=>by
  have h0:=hr 0 (by simp)
  have:a= .int .i64 x:=by
   cases h0 with
   |cons _ _ _ _ q1 q2=>cases q1;rfl
  rw[List.length_cons,List.take_succ_cons,List.map_cons,this,yA l azs (by simpa using hl) fun i hi=>by
   have:=hr (i+1) (by simpa using hi)
   simpa[el]using this]
theorem Gz {h:H}{F:Nat->Prop}(l:List Int)(r:List AV):RB h F (aL 1 pI l) (.cells (l.map (AV.int .i64)++r)):=by
 refine .arr _ _ _ _ (by simp) (fun i hi=>rfl) fun i hi=>?_
 have e:((l.map (AV.int .i64)++r).drop (i*1)).take 1=[.int .i64 (el l i)]:=by
  rw[Nat.mul_one]
  have hlt:i<(l.map (AV.int .i64)++r).length:=by simp;omega
  rw[List.drop_eq_getElem_cons hlt,List.take_succ_cons,List.take_zero]
  congr 1
  rw[List.getElem_append_left (by simpa using hi),List.getElem_map]
  simp[el,List.getD_eq_getElem?_getD,hi]
 rw[e]
 exact .cons _ _ _ _ (.int _ _) .nil
section
variable {P:Program}{X:cj}{M:Mf}{S:aJ}{K:PV->aJ->Prop}
theorem ints_at {c:C}{h:H}{F:Nat->Prop}(st:St c h F S){p id:Nat}{l:List Int}(hS:aC S p=some (some id,aL 1 pI l))(hn:l.length<4611686018427387904)(h0:0<l.length):c.floor<=id/\seen c.cd id=true/\ ∃azs,rP c h id l.length=some (azs,l)/\h.get id=some (.cells azs):=by
 obtain⟨g1,g2,g3,ab,g4,g5⟩:=st.at_ hS (fun q=>by cases q)
 cases g5 with
 |arr _ _ _ azs q1 q2 q3=>
  refine⟨g1,g2,azs,?_,g4⟩
  unfold rP
  rw[bW g2,g4]
  have e:=yA l azs (by omega) q3
  have b:(Nat.ble l.length azs.length&&(Nat.blt 0 l.length&&Nat.blt l.length 4611686018427387904))=true:=by
   simp only[Bool.and_eq_true,Nat.ble_eq,Nat.blt_eq]
   omega
  simp only[b,cond_true,e,yz]
theorem qJ {sf p:Nat}{aT:Option Nat}{l:List Int}(hM: ∀azs c h,M sf azs c h=gT sf sf azs c h)(hn:l.length<4611686018427387904)(hz:l=[]->aT=none)(k0:l=[]->K (.bn []) S)(k1:l≠[]->K (.bn []) ((p,aT,aL 1 pI (fW l))::S))(hS:aC S p=some (aT,aL 1 pI l):=by exact rfl):sc P X M sf [oL p aT 1 l] S K:=fun c h F azs st r=>by
 have b1:Nat.beq sf sf=true:=by simp
 cases r with
 |cons _ _ _ _ r1 r=>
 cases r
 unfold oL at r1
 by_cases hl:l=[]
 ·have:=hz hl
  subst this
  rw[hl,List.length_nil]at r1
  cases r1 with
  |hY=>
   have eM:M sf [.aE] c h=some (.bn [],h):=by rw[hM];unfold gT;rw[b1];rfl
   exact jD eM ⟨_,S,F,Ext.refl _ _ _,st,.bn _ _ .nil,k0 hl⟩
 ·have h0:0<l.length:=List.length_pos_iff.2 hl
  generalize hnn:l.length=n at r1
  cases r1 with
  |hY=>omega
  |own _ id _ _ cap hb=>
   subst hnn
   obtain⟨g1,g2,azs,e1,e2⟩:=ints_at st hS hn h0
   have eM:M sf [.sl id 0 l.length 1 cap] c h=some (.bn [],h.put id (.cells ((fW l).map (AV.int .i64)++azs.drop l.length))):=by
    rw[hM];unfold gT;rw[b1]
    simp only[cond_true,e1]
    rw[kK g1 g2]
   obtain⟨s1,x1⟩:=st.put hS (fun q=>by cases q) (Gz (h:=h) (F:=F) (fW l) (azs.drop l.length))
   exact jD eM ⟨_,_,F,x1,s1,.bn _ _ .nil,k1 hl⟩
theorem uj (l:List Int):(Lib.compact l).length<=l.length:=by
 unfold Lib.compact Lib.compactUpTo
 rw[List.length_map]
 exact Nat.le_trans (List.length_filter_le _ _) (by simp)
theorem jE {sf p:Nat}{aT:Option Nat}{l:List Int}(hM: ∀azs c h,M sf azs c h=gU sf sf azs c h)(hn:l.length<4611686018427387904)(hz:l=[]->aT=none)(k0:l=[]->K .aE S)(k1:l≠[]->K (oL p aT 1 (Lib.compact l)) ((p,aT,aL 1 pI (Lib.compact l))::S))(hS:aC S p=some (aT,aL 1 pI l):=by exact rfl):sc P X M sf [oL p aT 1 l] S K:=fun c h F azs st r=>by
 have b1:Nat.beq sf sf=true:=by simp
 cases r with
 |cons _ _ _ _ r1 r=>
 cases r
 unfold oL at r1
 by_cases hl:l=[]
 ·have:=hz hl
  subst this
  rw[hl,List.length_nil]at r1
  cases r1 with
  |hY=>
   have eM:M sf [.aE] c h=some (.aE,h):=by rw[hM];unfold gU;rw[b1];rfl
   exact jD eM ⟨_,S,F,Ext.refl _ _ _,st,.aE,k0 hl⟩
 ·have h0:0<l.length:=List.length_pos_iff.2 hl
  generalize hnn:l.length=n at r1
  cases r1 with
  |hY=>omega
  |own _ id _ _ cap hb=>
   subst hnn
   obtain⟨g1,g2,azs,e1,e2⟩:=ints_at st hS hn h0
   have eM:M sf [.sl id 0 l.length 1 cap] c h=some (.sl id 0 (Lib.compact l).length 1 cap,h.put id (.cells ((Lib.compact l++List.replicate (l.length-(Lib.compact l).length) 0).map (AV.int .i64)++azs.drop l.length))):=by
    rw[hM];unfold gU;rw[b1]
    simp only[cond_true,e1]
    rw[kK g1 g2]
   have e:(Lib.compact l++List.replicate (l.length-(Lib.compact l).length) 0).map (AV.int .i64)++azs.drop l.length=(Lib.compact l).map (AV.int .i64)++((List.replicate (l.length-(Lib.compact l).length) 0).map (AV.int .i64)++azs.drop l.length):=by rw[List.map_append,List.append_assoc]
   rw[e]at eM
   obtain⟨s1,x1⟩:=st.put hS (fun q=>by cases q) (Gz (h:=h) (F:=F) (Lib.compact l) ((List.replicate (l.length-(Lib.compact l).length) 0).map (AV.int .i64)++azs.drop l.length))
   have:=uj l
   exact jD eM ⟨_,_,F,x1,s1,.own _ _ _ _ _ (by omega),k1 hl⟩
end
end Go.Proofs.YtemehfgkfidgjaaGreatDoor.Ev
