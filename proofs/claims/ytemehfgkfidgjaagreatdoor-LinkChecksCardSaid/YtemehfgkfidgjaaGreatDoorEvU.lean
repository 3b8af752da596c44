/- CoverStates, part 7 -/
import Derived.Test.YtemehfgkfidgjaaGreatDoorEvR
import Derived.Laws.BytesString
import Derived.Lib.Strings
set_option linter.all false
namespace Go.Proofs.YtemehfgkfidgjaaGreatDoor.Ev
open Go
variable {dr:Prop}
section
variable {P:Program}{ng:Nat}{o:Oper}{c:C}{call:dS}{sl:Tr AV}{h:H}{k:dE}{r:Tr AV×H}
def Gd (op:BinOp)(neg:Bool):Prop:=(op= .eql/\neg=false)\/(op= .neq/\neg=true)
theorem mE {op:BinOp}{neg q:Bool}{t t':TypeId}{y:Operand}{n:Value}{xy:XV}(ho:o.op= .binOp op t y (.const n) t')(hop:Gd op neg)(hy:cV y=some xy)(hw:WF h)
    (hrun: ∀β (w:World) u,VR β (bG sl xy) u->(∀op' a a',(eqGuard op' t a a' u n).run P w= .ok () w)/\(binOp .eql t u n).run P w= .ok (.bool q) w/\(binOp .neq t u n).run P w= .ok (.bool (!q)) w):oF dr P ng o c sl h (.bool (bne q neg)) h:=by
 refine aV hw fun β a w hr hopr=>?_
 obtain⟨h1,h2,h3⟩:=hrun β w (a.eval y) (hopr y (by simp[ho,Op.operands]) xy hy)
 have e:a.eval (.const n)=n:=rfl
 rcases hop with⟨rfl,rfl⟩|⟨rfl,rfl⟩
 ·exact⟨.bool q,by simp[execOp,ho,e,h1,h2],by cases q<;>simp[VR]⟩
 ·exact⟨.bool (!q),by simp[execOp,ho,e,h1,h3],by cases q<;>simp[VR]⟩
theorem j8 {t:TypeId}{u n:Value}{q:Bool}(w:World)(hg: ∀op' a a',(eqGuard op' t a a' u n).run P w= .ok () w)(hin: ∀d,(Op.equalIn (d+1) t u n).run P w= .ok q w)
    (h1:binOp .eql t u n=(do pure (.bool (<-Op.equal t u n)))) (h2:binOp .neq t u n=(do pure (.bool (!(<-Op.equal t u n))))):
    (∀op' a a',(eqGuard op' t a a' u n).run P w= .ok () w)/\(binOp .eql t u n).run P w= .ok (.bool q) w/\(binOp .neq t u n).run P w= .ok (.bool (!q)) w:=by
 have hin':(Op.equal t u n).run P w= .ok q w:=hin 9999
 exact⟨hg,by rw[h1];simp[hin'],by rw[h2];simp[hin']⟩
theorem NQ {op:BinOp}{neg:Bool}{t t' e0:TypeId}{y:Operand}{xy:XV}(ho:o.op= .binOp op t y (.const (.pointer none)) t')(hop:Gd op neg)(ht:P.underlying t=some (.pointer e0))(hy:cV y=some xy)(hw:WF h)(e:FV neg xy c call sl h k=some r):cM dr P ng o c sl h k r:=by
 unfold FV at e
 split at e
 ·rename_i hv
  refine⟨_,h,e,?_⟩
  have:=mE (dr:=dr) (P:=P) (ng:=ng) (c:=c) (sl:=sl) (q:=true) ho hop hy hw fun β w u hu=>by
   rw[hv]at hu;simp only[VR]at hu;subst hu
   exact j8 w (fun op' a a'=>by cases op'<;>simp[eqGuard]) (fun d=>by simp[Op.equalIn,run_underlying ht]) rfl rfl
  rcases hop with⟨_,rfl⟩|⟨_,rfl⟩<;>exact this
 ·rename_i id off hv
  refine⟨_,h,e,?_⟩
  have:=mE (dr:=dr) (P:=P) (ng:=ng) (c:=c) (sl:=sl) (q:=false) ho hop hy hw fun β w u hu=>by
   rw[hv]at hu;simp only[VR]at hu
   obtain⟨L,_,rfl⟩:=hu
   exact j8 w (fun op' a a'=>by cases op'<;>simp[eqGuard]) (fun d=>by simp[Op.equalIn,run_underlying ht]) rfl rfl
  rcases hop with⟨_,rfl⟩|⟨_,rfl⟩<;>exact this
 ·cases e
theorem NR {op:BinOp}{neg:Bool}{t t' e0:TypeId}{y:Operand}{xy:XV}(ho:o.op= .binOp op t y (.const (.slice none 0 0)) t')(hop:Gd op neg)(ht:P.underlying t=some (.slice e0))(hy:cV y=some xy)(hw:WF h)(e:pP neg xy c call sl h k=some r):cM dr P ng o c sl h k r:=by
 unfold pP at e
 split at e
 ·rename_i hv
  refine⟨_,h,e,?_⟩
  have:=mE (dr:=dr) (P:=P) (ng:=ng) (c:=c) (sl:=sl) (q:=true) ho hop hy hw fun β w u hu=>by
   rw[hv]at hu;simp only[VR]at hu;subst hu
   exact j8 w (fun op' a a'=>by cases op'<;>simp[eqGuard]) (fun d=>by simp[Op.equalIn,run_underlying ht]) rfl rfl
  rcases hop with⟨_,rfl⟩|⟨_,rfl⟩<;>exact this
 ·rename_i hv
  refine⟨_,h,e,?_⟩
  have:=mE (dr:=dr) (P:=P) (ng:=ng) (c:=c) (sl:=sl) (q:=false) ho hop hy hw fun β w u hu=>by
   rw[hv]at hu;simp only[VR]at hu
   obtain⟨L,oo,cp,_,rfl,_⟩:=hu
   exact j8 w (fun op' a a'=>by cases op'<;>simp[eqGuard]) (fun d=>by simp[Op.equalIn,run_underlying ht]) rfl rfl
  rcases hop with⟨_,rfl⟩|⟨_,rfl⟩<;>exact this
 ·rename_i hv
  refine⟨_,h,e,?_⟩
  have:=mE (dr:=dr) (P:=P) (ng:=ng) (c:=c) (sl:=sl) (q:=true) ho hop hy hw fun β w u hu=>by
   rw[hv]at hu;simp only[VR]at hu;subst hu
   exact j8 w (fun op' a a'=>by cases op'<;>simp[eqGuard]) (fun d=>by simp[Op.equalIn,run_underlying ht]) rfl rfl
  rcases hop with⟨_,rfl⟩|⟨_,rfl⟩<;>exact this
 ·rename_i hv
  refine⟨_,h,e,?_⟩
  have:=mE (dr:=dr) (P:=P) (ng:=ng) (c:=c) (sl:=sl) (q:=false) ho hop hy hw fun β w u hu=>by
   rw[hv]at hu;simp only[VR]at hu;subst hu
   exact j8 w (fun op' a a'=>by cases op'<;>simp[eqGuard]) (fun d=>by simp[Op.equalIn,run_underlying ht]) rfl rfl
  rcases hop with⟨_,rfl⟩|⟨_,rfl⟩<;>exact this
 ·cases e
theorem get_map {w:World}{b:Nat}{es:Array MapEntry}{clock:Nat}(hb:w.heap[b]? =some (.map es clock)):(getObj b).run P w= .ok (.map es clock) w:=by simp[getObj,Sem.run,hb]
theorem tS {w:World}{b:Nat}{es:Array MapEntry}{clock:Nat}(o':Obj)(hb:w.heap[b]? =some (.map es clock)):(setObj b o').run P w= .ok () {w with heap:=w.heap.setIfInBounds b o'}:=by simp[setObj,Sem.run,hb]
/-! one operand -/
theorem QL {t:TypeId}{y:Operand}{x:XV}(ho:o.op= .unOp .not t y)(hx:cV y=some x)(hw:WF h)(e:Kv x c call sl h k=some r):cM dr P ng o c sl h k r:=by
 unfold Kv at e
 split at e
 ·rename_i b hv
  exact⟨_,h,eW e,NB ho hx hv hw⟩
 ·cases e
theorem QM {t:TypeId}{y:Operand}{x:XV}(ho:o.op= .unOp .neg t y)(hx:cV y=some x)(hw:WF h)(e:Qs x c call sl h k=some r):cM dr P ng o c sl h k r:=by
 unfold Qs at e
 split at e
 ·rename_i p n hv
  have h2:=yi e
  refine⟨.int p (p.wrap (-n)),h,h2,aV hw fun β a w hr hop=>?_⟩
  have k1:=hop y (by simp[ho,Op.operands]) x hx
  rw[hv]at k1;simp only[VR]at k1
  exact⟨.int p (p.wrap (-n)),by simp[execOp,ho,Op.unary,Op.intArith,k1],by simp[VR]⟩
 ·cases e
theorem Lb {s d:TypeId}{k0 p:IntKind}{y:Operand}{x:XV}(ho:o.op= .convert s d y)(hs:P.underlying s=some (.int k0))(hd:P.underlying d=some (.int p))(hx:cV y=some x)(hw:WF h)(e:zZ p x c call sl h k=some r):cM dr P ng o c sl h k r:=by
 unfold zZ at e
 split at e
 ·rename_i q n hv
  have h2:=yi e
  refine⟨_,h,h2,aV hw fun β a w hr hop=>?_⟩
  have k1:=hop y (by simp[ho,Op.operands]) x hx
  rw[hv]at k1;simp only[VR]at k1
  exact⟨.int p (p.wrap n),by simp[execOp,ho,convert,run_underlying hs,run_underlying hd,Conv.intToInt,k1],by simp[VR]⟩
 ·cases e
theorem NS {s d:TypeId}{y:Operand}{x:XV}(ho:o.op= .convert s d y)(hs:P.underlying s=some .string)(hd:P.underlying d=some .string)(hx:cV y=some x)(hw:WF h)(e:Cl x c call sl h k=some r):cM dr P ng o c sl h k r:=by
 unfold Cl at e
 split at e
 ·rename_i q hv
  refine⟨_,h,e,aV hw fun β a w hr hop=>?_⟩
  have k1:=hop y (by simp[ho,Op.operands]) x hx
  rw[hv]at k1
  have k2:=k1
  simp only[VR]at k1
  obtain⟨b,hb,_⟩:=k1
  exact⟨a.eval y,by simp[execOp,ho,convert,run_underlying hs,run_underlying hd,hb],k2⟩
 ·cases e
/-! slices -/
theorem Lc {t e0:TypeId}{y:Operand}{lo hi:Option Operand}{xy:XV}{xl xh:Option XV}{esz:Nat}(ho:o.op= .slice t y lo hi none)(hy:cV y=some xy)(hl:rD lo=some xl)(hh:rD hi=some xh)(ht:P.underlying t=some (.slice e0))(hs:tw P e0=some esz)(hw:WF h)
    (e:lQ esz xy xl xh c call sl h k=some r):cM dr P ng o c sl h k r:=by
 unfold lQ at e
 split at e
 ·rename_i hv
  split at e
  ·rename_i h2 h3
   refine⟨_,h,e,aV hw fun β a w hr hop=>?_⟩
   have k1:=hop y (by simp[ho,Op.operands]) xy hy
   rw[hv]at k1;simp only[VR]at k1
   have b1:=rG (β:=β) (a:=a) hl (fun z hz q hq=>hop z (by subst hz;simp[ho,Op.operands]) q hq) h2
   have b2:=rG (β:=β) (a:=a) hh (fun z hz q hq=>hop z (by subst hz;simp[ho,Op.operands]) q hq) h3
   refine⟨.slice none 0 0,?_,by simp[VR]⟩
   rcases b1 with⟨rfl,_⟩|⟨z1,q1,rfl,e1⟩<;>rcases b2 with⟨rfl,_⟩|⟨z2,q2,rfl,e2⟩<;>
    simp[execOp,ho,Instr.sliceAt,Instr.slice,Instr.sliceBounds,Instr.sliceBound,asIntOf,run_underlying ht,k1,iU hs, *]
  ·cases e
 ·rename_i id off n es cap hv
  split at e
  ·rename_i l u h2 h3
   cases hb:(Nat.ble l u&&Nat.ble u n&&Nat.beq es esz)with
   |false=>rw[hb]at e;cases e
   |true=>
    rw[hb]at e
    simp only[Bool.and_eq_true]at hb
    have c1:=Nat.le_of_ble_eq_true hb.1.1
    have c2:=Nat.le_of_ble_eq_true hb.1.2
    have c3:es=esz:=Nat.eq_of_beq_eq_true hb.2
    subst c3
    simp only[cond,aZ]at e
    have d:=Ie (dr:=dr) (P:=P) (ng:=ng) (c:=c) ho hy hl hh ht hs hv h2 h3 c1 c2 hw
    cases cap with
    |none=>exact⟨_,h,e,d⟩
    |some cp=>
     simp only[aZ]at e
     exact⟨_,h,e,d⟩
  ·cases e
 ·cases e
theorem Ir {t:TypeId}{y:Operand}{lo hi:Option Operand}{xy:XV}{xl xh:Option XV}(ho:o.op= .slice t y lo hi none)(hy:cV y=some xy)(hl:rD lo=some xl)(hh:rD hi=some xh)(ht:P.underlying t=some .string)(hw:WF h)
    (e:pR xy xl xh c call sl h k=some r):cM dr P ng o c sl h k r:=by
 unfold pR at e
 split at e
 ·rename_i s hv
  split at e
  ·rename_i l u h2 h3
   cases hb:(Nat.ble l u&&Nat.ble u (gI s))with
   |false=>rw[hb]at e;cases e
   |true=>
    rw[hb]at e
    simp only[Bool.and_eq_true]at hb
    have c1:=Nat.le_of_ble_eq_true hb.1
    have c2:=Nat.le_of_ble_eq_true hb.2
    rw[cX]at c2 h3
    simp only[cond]at e
    obtain⟨_,e⟩:=gx e
    obtain⟨_,e⟩:=gy e
    refine⟨_,h,e,aV hw fun β a w hr hop=>?_⟩
    have k1:=hop y (by simp[ho,Op.operands]) xy hy
    rw[hv]at k1;simp only[VR]at k1
    obtain⟨b,hbv,hbs⟩:=k1
    have hsz:s.length=b.size:=by rw[<-hbs];simp
    have b1:=rG (β:=β) (a:=a) hl (fun z hz q hq=>hop z (by subst hz;simp[ho,Op.operands]) q hq) h2
    have b2:=rG (β:=β) (a:=a) hh (fun z hz q hq=>hop z (by subst hz;simp[ho,Op.operands]) q hq) h3
    refine⟨.string (b.extract l u),?_,?_⟩
    ·have g1:l<=u:=c1
     have g2:u<=b.size:=by omega
     have g3:((l:Nat):Int)<=((u:Nat):Int):=by omega
     have g4:((u:Nat):Int)<=((b.size:Nat):Int):=by omega
     have g5:s.length=b.size:=hsz
     have g6: ¬b.size<l:=by omega
     have g7: ¬u<l:=by omega
     have g8: ¬b.size<u:=by omega
     have g9: ¬((b.size:Nat):Int)<((l:Nat):Int):=by omega
     rcases b1 with⟨rfl,q1⟩|⟨z1,q1,rfl,e1⟩<;>rcases b2 with⟨rfl,q2⟩|⟨z2,q2,rfl,e2⟩<;>
      simp[execOp,ho,Instr.sliceAt,Instr.slice,Instr.sliceBounds,Instr.sliceBound,asIntOf,run_underlying ht, *]
    ·simp only[VR]
     refine⟨_,rfl,?_⟩
     rw[Lib.extract_data,<-hbs]
     simp[List.map_take,List.map_drop]
  ·cases e
 ·cases e
/-! len -/
theorem NT {y:Operand}{x:XV}{t:TypeId}(ho:isLen o y t)(hx:cV y=some x)(ht:P.underlying t=some .string)(hw:WF h)(e:Cq x c call sl h k=some r):cM dr P ng o c sl h k r:=by
 unfold Cq at e
 split at e
 ·rename_i s hv
  rw[aZ,cX]at e
  exact⟨_,h,e,CE ho hx ht hv hw⟩
 ·cases e
theorem NU {y:Operand}{x:XV}{t e0:TypeId}(ho:isLen o y t)(hx:cV y=some x)(ht:P.underlying t=some (.slice e0))(hw:WF h)(e:vx x c call sl h k=some r):cM dr P ng o c sl h k r:=by
 unfold vx at e
 split at e
 ·rename_i hv
  exact⟨_,h,e,Ah ho hx ht hv hw⟩
 ·rename_i hv
  exact⟨_,h,e,EJ ho hx ht hv hw⟩
 ·rename_i hv
  exact⟨_,h,e,CD ho hx ht hv hw⟩
 ·cases e
theorem ER.len {β:bS}: ∀{xs:List (AV×AV×Nat)} {es:List MapEntry},ER β xs es->xs.length=es.length
 |[],es,h=>by have:es=[]:=h;subst this;rfl
 |x::xs,es,⟨e,es',h1,_,_,_,h5⟩=>by subst h1;simp[ER.len h5]
theorem NV {y:Operand}{x:XV}{t e0 e1:TypeId}(ho:isLen o y t)(hx:cV y=some x)(ht:P.underlying t=some (.map e0 e1))(hw:WF h)(e:FW x c call sl h k=some r):cM dr P ng o c sl h k r:=by
 unfold FW at e
 split at e
 ·rename_i hv
  refine⟨_,h,e,aV hw fun β a w hr hop=>?_⟩
  have h1:=hop y (by unfold isLen at ho;simp[ho,Op.operands,Call.operands]) x hx
  rw[hv]at h1;simp only[VR]at h1
  exact⟨.int .i64 (0:Nat),mA ho a w (by simp[Builtin.len_,h1,run_underlying ht,goInt]),by simp[VR]⟩
 ·rename_i id hv
  split at e
  ·rename_i es clock hg
   rw[aZ,cX]at e
   refine⟨_,h,e,aV hw fun β a w hr hop=>?_⟩
   have h1:=hop y (by unfold isLen at ho;simp[ho,Op.operands,Call.operands]) x hx
   rw[hv]at h1;simp only[VR]at h1
   obtain⟨L,hL,hu⟩:=h1
   obtain⟨L',q1,_,ces,q2,q3⟩:=hr.at_ id _ (eK hg)
   rw[hL]at q1;cases q1
   have hl:es.length=ces.size:=by rw[q3.len];simp
   exact⟨.int .i64 ces.size,mA ho a w (by simp[Builtin.len_,hu,run_underlying ht,get_map q2,goInt]),by simp[VR,hl]⟩
  ·cases e
 ·cases e
end
end Go.Proofs.YtemehfgkfidgjaaGreatDoor.Ev
