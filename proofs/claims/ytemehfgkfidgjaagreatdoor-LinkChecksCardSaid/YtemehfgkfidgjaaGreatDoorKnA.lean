/- CoverStates, part 38 -/
import Derived.Test.YtemehfgkfidgjaaGreatDoorCvS
import Derived.Test.YtemehfgkfidgjaaGreatDoorMoA
import Derived.Test.YtemehfgkfidgjaaGreatDoorNdA
import Derived.Test.YtemehfgkfidgjaaGreatDoorShelf
import Derived.Lib.Bytealg
set_option linter.all false
namespace Go.Proofs.YtemehfgkfidgjaaGreatDoor.Ev
open Go Go.RowKit Go.Shelf Go.Proofs
theorem mixed: Tryz.prog.follows .mixedOrders=true:=by kernel_rfl
theorem fw: ∀(f:Nat) (fn:Func),Tryz.prog.funcs[f]? =some fn->(fn.name== "runtime.NumGoroutine")=false:=by
 have h: Tryz.prog.funcs.toList.all (fun fn=>!(fn.name== "runtime.NumGoroutine"))=true:=by kernel_rfl
 intro f fn hf
 have hm:fn∈ Tryz.prog.funcs.toList:=by
  obtain⟨hlt,rfl⟩:=Array.getElem?_eq_some_iff.1 hf
  simp
 have:=List.all_eq_true.1 h fn hm
 simpa using this
theorem Lu {s:ByteArray}{k:Nat}{b:UInt8}(h:s.data.toList[k]? =some b):s[k]! =b:=by
 have h1:s.data[k]? =some b:=by simpa using h
 obtain⟨hlt,he⟩:=Array.getElem?_eq_some_iff.1 h1
 have hlt':k<s.size:=hlt
 rw[getElem!_pos s k hlt']
 exact he
theorem yt {s:ByteArray}{c:Nat}(hc:c<=255): ∀(l:List UInt8) (i:Nat),(∀j,l[j]? =s.data.toList[i+j]?)->qV c (l.map UInt8.toNat) i=match(List.range' i l.length).find? (fun k=>s[k]! ==c.toUInt8)with|some k=>(k:Int)|none=> -1
 |[],i,_=>rfl
 |b::l,i,h=>by
  have h0:=h 0
  simp only[List.getElem?_cons_zero,Nat.add_zero]at h0
  have hb:=Lu h0.symm
  have ih:=yt hc l (i+1) (fun j=>by have:=h (j+1);simp only[List.getElem?_cons_succ]at this;rw[this];congr 1;omega)
  simp only[List.map_cons,qV,List.length_cons,List.range'_succ,List.find?_cons]
  have hcn:c.toUInt8.toNat=c:=by simp[Nat.toUInt8,UInt8.toNat_ofNat'];omega
  cases hq:Nat.beq b.toNat c with
  |true=>
   have e:=Nat.eq_of_beq_eq_true hq
   have:(s[i]! ==c.toUInt8)=true:=by
    rw[hb,beq_iff_eq]
    exact UInt8.toNat_inj.1 (by rw[hcn];exact e)
   rw[this];rfl
  |false=>
   have:(s[i]! ==c.toUInt8)=false:=by
    rw[hb,beq_eq_false_iff_ne]
    intro q
    rw[q,hcn]at hq
    simp at hq
   rw[this];exact ih
theorem vT: ∀(l m:List UInt8),gR (l.map UInt8.toNat) (m.map UInt8.toNat)=Lib.compareBytes l m
 |[],[]=>rfl
 |[],_::_=>rfl
 |_::_,[]=>rfl
 |a::l,b::m=>by
  simp only[List.map_cons,gR,Lib.compareBytes]
  cases hq:Nat.beq a.toNat b.toNat with
  |true=>
   have e:=UInt8.toNat_inj.1 (Nat.eq_of_beq_eq_true hq)
   subst e
   have h: ¬a<a:=by rw[UInt8.lt_iff_toNat_lt];omega
   simp only[cond]
   rw[if_neg h,if_neg h]
   exact vT l m
  |false=>
   have e:a.toNat≠b.toNat:=fun q=>by rw[q]at hq;simp at hq
   simp only[cond]
   cases hl:Nat.blt a.toNat b.toNat with
   |true=>
    rw[Nat.blt_eq]at hl
    rw[if_pos (UInt8.lt_iff_toNat_lt.2 hl)]
   |false=>
    have: ¬a.toNat<b.toNat:=fun q=>by rw[<-Nat.blt_eq,hl]at q;cases q
    rw[if_neg (fun q=>this (UInt8.lt_iff_toNat_lt.1 q)),if_pos (UInt8.lt_iff_toNat_lt.2 (by omega))]
theorem AO:yg Tryz.prog X0:=by
 intro f g hf args v hg β cargs w hv
 unfold X0 yf at hf
 cases hb:Nat.beq 292 f with
 |false=>
  rw[hb]at hf
  simp only[cond,yf]at hf
  cases hb2:Nat.beq 202 f with
  |false=>rw[hb2]at hf;cases hf
  |true=>
   rw[hb2]at hf
   simp only[cond,Option.some.injEq]at hf
   have e:=Nat.eq_of_beq_eq_true hb2
   subst e hf
   unfold UC at hg
   split at hg
   ·rename_i a b
    simp only[Option.some.injEq]at hg
    subst hg
    simp only[bh,VR]at hv
    obtain⟨u,us,rfl,⟨x,rfl,rfl⟩,u2,us2,rfl,⟨y,rfl,rfl⟩,rfl⟩:=hv
    refine⟨.int .i64 (Lib.compareBytes x.data.toList y.data.toList),?_,?_⟩
    ·rw[run_callFunc_extern (fn:= Tryz.f202) (e:=Extern.BytealgCompare.compare) Tryz.func202 (by kernel_rfl) (by kernel_rfl) (by kernel_rfl) (by kernel_rfl)]
     have:=Lib.run_compareString (P:= Tryz.prog) x y w
     rw[show((Value.string x::[Value.string y]).toArray:Array Value)= #[.string x,.string y]from rfl,this]
     rfl
    ·simp only[VR]
     rw[vT]
   ·cases hg
 |true=>
  rw[hb]at hf
  simp only[cond,Option.some.injEq]at hf
  have e:=Nat.eq_of_beq_eq_true hb
  subst e hf
  unfold UB at hg
  split at hg
  ·rename_i s c
   cases hc:Nat.ble c 255 with
   |false=>rw[hc]at hg;cases hg
   |true=>
    rw[hc]at hg
    simp only[cond,fg,Option.some.injEq]at hg
    subst hg
    simp only[bh,VR]at hv
    obtain⟨u,us,rfl,⟨b,rfl,rfl⟩,u2,us2,rfl,rfl,rfl⟩:=hv
    have hc':=Nat.le_of_ble_eq_true hc
    refine⟨.int .i64 (firstIdx b c.toUInt8),?_,?_⟩
    ·rw[run_callFunc_extern (fn:= Tryz.f292) (e:=Extern.BytealgIndexByte.indexByte) Tryz.func292 (by kernel_rfl) (by kernel_rfl) (by kernel_rfl) (by kernel_rfl)]
     have:=run_indexByte_string (P:= Tryz.prog) b (Int.ofNat c) w
     rw[show((Value.string b::[Value.int .u8 (Int.ofNat c)]).toArray:Array Value)= #[.string b,.int .u8 (Int.ofNat c)]from rfl,this]
     rfl
    ·have:=yt (s:=b) hc' b.data.toList 0 (by simp)
     simp only[VR]
     rw[this]
     unfold firstIdx
     rw[List.range_eq_range']
     have hl:b.data.toList.length=b.size:=by simp
     rw[hl]
     cases(List.range' 0 b.size).find? (fun k=>b[k]! ==c.toUInt8)<;>rfl
  ·cases hg
/-! strings.Builder -/
theorem QT {dr:Prop}{P:Program}{ng:Nat}{a b:Mf}(ha:da dr P ng a)(hb:da dr P ng b):da dr P ng (M6 a b):=fun f args c h v h' e hc hw=>by
 unfold M6 at e
 cases q:a f args c h with
 |some r=>rw[q]at e;cases e;exact ha f args c h _ _ q hc hw
 |none=>rw[q]at e;exact hb f args c h _ _ e hc hw
theorem Fs {dr:Prop}:da dr Tryz.prog Tryz.prog.globals.size Mx:=
 QT (IE ⟨_,Tryz.func71,by kernel_rfl,by kernel_rfl⟩ (fun w=> Tryz.slices_Sort_int_none none 0 w) fun blk off cap zs w h1 h2 h3=> Tryz.slices_Sort_int blk off cap zs w h1 h2 h3)
  (IF ⟨_,Tryz.func72,by kernel_rfl,by kernel_rfl⟩ (fun w=> Tryz.slices_Compact_int_empty none 0 w) fun blk off cap zs w h1 h2 h3=> Tryz.slices_Compact_int blk off cap zs w h1 h2 h3)
theorem Si {dr:Prop}:Sd dr Tryz.prog Tryz.prog.globals.size X0 Mx:=⟨mixed,Py _ _,Nat.le_refl _,fw,AO,Fs⟩
end Go.Proofs.YtemehfgkfidgjaaGreatDoor.Ev
