/- CoverStates, part 10 -/
import Derived.Test.YtemehfgkfidgjaaGreatDoorEvW
set_option linter.all false
namespace Go.Proofs.YtemehfgkfidgjaaGreatDoor.Ev
section
open Go
variable {dr:Prop}
section
variable {P:Program}{ng:Nat}{o:Oper}{c:C}{call:dS}{sl:Tr AV}{h:H}{k:dE}{r:Tr AV×H}
theorem Pd {y:Operand}{x:XV}(ho:o.op= .move y\/o.op= .assign y)(hx:cV y=some x)(hw:WF h)(e:Ud x c call sl h k=some r):cM dr P ng o c sl h k r:=⟨_,h,e,KB ho hx hw⟩
theorem NY {b y z:Operand}{xb xy xz:XV}(ho:o.op= .pick b y z)(hb:cV b=some xb)(hy:cV y=some xy)(hz:cV z=some xz)(hw:WF h)(e:ya xb xy xz c call sl h k=some r):cM dr P ng o c sl h k r:=by
 unfold ya at e
 split at e
 ·rename_i hv;exact⟨_,h,e,Cy (t:=true) ho hb hy hz hv hw⟩
 ·rename_i hv;exact⟨_,h,e,Cy (t:=false) ho hb hy hz hv hw⟩
 ·cases e
theorem QQ {t:TypeId}{y:Operand}{x:XV}(ho:o.op= .box t y)(hx:cV y=some x)(hw:WF h)(e:Ck x c call sl h k=some r):cM dr P ng o c sl h k r:=by
 unfold Ck at e
 cases fX:Cj (bG sl x)with
 |false=>rw[fX]at e;cases e
 |true=>
  rw[fX,cond_true]at e
  obtain⟨hlt,e⟩:=dF e
  exact⟨_,_,e,NA ho hx fX hw hlt⟩
theorem Lj {t:TypeId}{z:AV}(ho:o.op= .alloc t)(hz:ig P t=some z)(hw:WF h)(e:Ck (.const z) c call sl h k=some r):cM dr P ng o c sl h k r:=by
 unfold Ck at e
 cases fX:Cj (bG sl (.const z))with
 |false=>rw[fX]at e;cases e
 |true=>
  rw[fX,cond_true]at e
  obtain⟨hlt,e⟩:=dF e
  obtain⟨i,zv,i1,i2,i3⟩:=eX hz
  exact⟨_,_,e,HX ho i1 i2 i3 fX hw hlt⟩
theorem Lk {t:TypeId}{y:Operand}{x:XV}(ho:o.op= .load t y)(hx:cV y=some x)(ht:EF P t=some none)(hw:WF h)(e:vo x c call sl h k=some r):cM dr P ng o c sl h k r:=by
 unfold vo at e
 split at e
 ·rename_i id off hv
  obtain⟨vs,hg,e⟩:=fO e
  split at e
  ·rename_i v hn
   rw[gA]at hn
   exact⟨_,h,e,HY ho hx ht hv hg hn hw⟩
  ·cases e
 ·cases e
theorem Ll {t:TypeId}{y:Operand}{x:XV}{n:Nat}(ho:o.op= .load t y)(hx:cV y=some x)(ht:EF P t=some (some n))(hw:WF h)(e:vp n x c call sl h k=some r):cM dr P ng o c sl h k r:=by
 unfold vp at e
 split at e
 ·rename_i id off hv
  obtain⟨vs,hg,e⟩:=fO e
  obtain⟨d1,e⟩:=gx e
  obtain⟨d2,e⟩:=gy e
  exact⟨_,h,e,HZ ho hx ht hv hg (by simp at d2;omega) hw⟩
 ·cases e
theorem Lm {t:TypeId}{y z:Operand}{x xz:XV}{n:Nat}(ho:o.op= .store t y z)(hx:cV y=some x)(hz:cV z=some xz)(ht:tw P t=some n)(hw:WF h)(e:vq n x xz c call sl h k=some r):cM dr P ng o c sl h k r:=by
 unfold vq at e
 split at e
 ·rename_i id off hv
  obtain⟨vs,hg,e⟩:=fO e
  cases hb:(Nat.beq (gI (bG sl xz).cells) n&&cy (bG sl xz).cells)with
  |false=>rw[hb]at e;cases e
  |true=>
   rw[hb]at e
   simp only[Bool.and_eq_true]at hb
   have hl:=Nat.eq_of_beq_eq_true hb.1
   rw[cX]at hl
   simp only[cond]at e
   obtain⟨h1,e⟩:=fR e
   obtain⟨h2,_,e⟩:=dQ e
   exact⟨_,_,e,H4 ho hx hz ht hv hg hl hb.2 om h2 hw⟩
 ·cases e
theorem NZ {y:Operand}{x:XV}(ho:o.op= .nilCheck y)(hx:cV y=some x)(hw:WF h)(e:yb x c call sl h k=some r):cM dr P ng o c sl h k r:=by
 unfold yb at e
 split at e
 ·rename_i hv;exact⟨_,h,e,Ag ho hx hv hw⟩
 ·rename_i hv;exact⟨_,h,e,CB ho hx hv hw⟩
 ·cases e
theorem Ln {s:TypeId}{y:Operand}{x:XV}{j m:Nat}{fs:Array Field}{f:Field}(ho:o.op= .fieldAddr s y j)(hx:cV y=some x)(hs:P.underlying s=some (.struct fs))(hf:fs[j]? =some f)(hm:tw P f.type=some (m+1))(hw:WF h)
    (e:vu f.offset x c call sl h k=some r):cM dr P ng o c sl h k r:=by
 unfold vu at e
 split at e
 ·rename_i id off hv
  rw[aZ]at e
  exact⟨_,h,e,H8 ho hx hs hf hm hv hw⟩
 ·cases e
theorem N0 {s:TypeId}{y:Operand}{x:XV}{j:Nat}{fs:Array Field}{f:Field}(ho:o.op= .field s y j)(hx:cV y=some x)(hs:P.underlying s=some (.struct fs))(hf:fs[j]? =some f)(ht:EF P f.type=some none)(hw:WF h)
    (e:Cm f.offset x c call sl h k=some r):cM dr P ng o c sl h k r:=by
 unfold Cm at e
 split at e
 ·rename_i vs hv
  split at e
  ·rename_i v hn
   rw[gA]at hn
   exact⟨_,h,e,KG ho hx hs hf ht hv hn hw⟩
  ·cases e
 ·cases e
theorem vS {v:AV}{n:Nat}(hv:asNat v=some n): ∃p,v= .int p (.ofNat n):=by
 unfold asNat at hv
 split at hv
 ·cases hv;exact⟨_,rfl⟩
 ·cases hv
theorem Lo {t e0:TypeId}{y z:Operand}{xy xz:XV}{esz:Nat}(ho:o.op= .indexAddr t y z)(hy:cV y=some xy)(hz:cV z=some xz)(ht:P.underlying t=some (.slice e0))(hs:tw P e0=some esz)(hw:WF h)
    (e:vv esz xy xz c call sl h k=some r):cM dr P ng o c sl h k r:=by
 unfold vv at e
 split at e
 ·rename_i id off n es cap i h1 h2
  obtain⟨p,h2⟩:=vS h2
  cases hb:Nat.blt i n with
  |false=>rw[hb]at e;cases e
  |true=>
   rw[hb]at e
   simp only[cond,aZ]at e
   exact⟨_,h,e,H9 ho hy hz ht hs h1 h2 (by simpa[Nat.blt_eq]using hb) hw⟩
 ·cases e
theorem N4 {t:TypeId}{y z:Operand}{xy xz:XV}(ho:o.op= .index t y z)(hy:cV y=some xy)(hz:cV z=some xz)(ht:P.underlying t=some .string)(hw:WF h)(e:Cn xy xz c call sl h k=some r):cM dr P ng o c sl h k r:=by
 unfold Cn at e
 split at e
 ·rename_i s i h1 h2
  obtain⟨p,h2⟩:=vS h2
  split at e
  ·rename_i b hn
   rw[gA]at hn
   exact⟨_,h,e,KH ho hy hz ht h1 h2 hn hw⟩
  ·cases e
 ·cases e
theorem N5 {y:Operand}{x:XV}{i:Nat}(ho:o.op= .extract y i)(hx:cV y=some x)(hw:WF h)(e:Co x i c call sl h k=some r):cM dr P ng o c sl h k r:=by
 unfold Co at e
 split at e
 ·rename_i vs hv
  split at e
  ·rename_i v hn
   rw[gA]at hn
   exact⟨_,h,e,KD ho hx hv hn hw⟩
  ·cases e
 ·cases e
theorem N6 {f:Nat}{ys:Array Operand}{xs:List XV}(ho:o.op= .makeFunc (.func f) #[] ys)(hx:ys.toList.mapM cV=some xs)(hw:WF h)(e:Cp f xs c call sl h k=some r):cM dr P ng o c sl h k r:=by
 unfold Cp at e
 rw[kD]at e
 exact⟨_,h,e,KI ho hx hw⟩
theorem Lp {t:TypeId}{hnt:Option Operand}(ho:o.op= .makeMap t hnt)(hh:hnt=none\/(∃q n e0 e1,hnt=some (.const (.int q n))/\P.underlying t=some (.map e0 e1)))(hw:WF h)(e:vw c call sl h k=some r):cM dr P ng o c sl h k r:=by
 unfold vw at e
 obtain⟨hlt,e⟩:=dF e
 refine⟨_,_,e,ef hw hlt,fun β a w hgb hr hop hfr K Q hK=>?_⟩
 have hn:=hfr h.n (Nat.le_refl _) (by simp)
 unfold Oper.wp
 have hrun:(execOp a.eval o).run P w= .ok (.value (.map (some w.heap.size))) {w with heap:=w.heap.push (.map #[] 0)}:=by
  rcases hh with rfl|⟨q,n,e0,e1,rfl,ht⟩
  ·simp[execOp,ho,Instr.makeMap]
  ·simp[execOp,ho,Instr.makeMap,Act.eval,run_underlying ht,asInt,asIntOf]
 rw[hrun]
 refine hK _ _ _ (fj (L:=⟨w.heap.size,0,0,dv⟩) hr hlt hn rfl ⟨#[],by simp,by simp[ER]⟩) ?_
 simp only[VR]
 exact⟨_,cB _ _ _,rfl⟩
theorem Lq {op:BinOp}{neg:Bool}{t t':TypeId}{y z:Operand}{x:XO}(ho:o.op= .binOp op t y z t')(hn:Gd op neg)(hx:Ny P neg t y z=some x)(hw:WF h)(e:x c call sl h k=some r):cM dr P ng o c sl h k r:=by
 unfold Ny at hx
 split at hx
 ·rename_i ht
  simp only[Option.map_eq_some_iff]at hx
  obtain⟨xy,h1,rfl⟩:=hx
  exact NQ ho hn ht h1 hw e
 ·rename_i ht
  simp only[Option.map_eq_some_iff]at hx
  obtain⟨xy,h1,rfl⟩:=hx
  exact NR ho hn ht h1 hw e
 ·simp only[Option.bind_eq_bind,Option.bind_eq_some_iff,Option.pure_def,Option.some.injEq]at hx
  obtain⟨eq,h1,xy,h2,xz,h3,rfl⟩:=hx
  exact QK ho hn h2 h3 hw (QJ h1) e
theorem QR {op:BinOp}{t t':TypeId}{y z:Operand}{x:XO}(ho:o.op= .binOp op t y z t')(hx:Qw P op t y z=some x)(hw:WF h)(e:x c call sl h k=some r):cM dr P ng o c sl h k r:=by
 unfold Qw at hx
 split at hx
 ·exact Lq (neg:=false) ho (Or.inl ⟨rfl,rfl⟩) hx hw e
 ·exact Lq (neg:=true) ho (Or.inr ⟨rfl,rfl⟩) hx hw e
 all_goals first|(cases hx;done)|skip
 all_goals
  simp only[Option.bind_eq_bind,Option.bind_eq_some_iff,Option.pure_def,Option.some.injEq]at hx
  obtain⟨xy,h2,xz,h3,rfl⟩:=hx
 all_goals first
  |exact fS ho h2 h3 ⟨by simp,by simp⟩ hw K2 e
  |exact fS ho h2 h3 ⟨by simp,by simp⟩ hw K3 e
  |exact fS ho h2 h3 ⟨by simp,by simp⟩ hw K4 e
  |exact fS ho h2 h3 ⟨by simp,by simp⟩ hw K5 e
  |exact fS ho h2 h3 ⟨by simp,by simp⟩ hw K6 e
  |exact fS ho h2 h3 ⟨by simp,by simp⟩ hw K7 e
  |exact fS ho h2 h3 ⟨by simp,by simp⟩ hw K8 e
  |exact fS ho h2 h3 ⟨by simp,by simp⟩ hw K9 e
  |exact fS ho h2 h3 ⟨by simp,by simp⟩ hw La e
  |exact QG ho h2 h3 hw e
  |exact Am ho h2 h3 hw NN e
  |exact Am ho h2 h3 hw NO e
  |exact Am ho h2 h3 hw NP e
  |exact fS ho h2 h3 ⟨by simp,by simp⟩ hw KP e
  |exact fS ho h2 h3 ⟨by simp,by simp⟩ hw KQ e
theorem Te {α:Type}{a:Array α}{x:α}(h:a.toList=[x]):a= #[x]:=by apply Array.ext';simpa using h
theorem Lr {α:Type}{a:Array α}{x y:α}(h:a.toList=[x,y]):a= #[x,y]:=by apply Array.ext';simpa using h
theorem Ls {q:Call}{x:XO}(ho:o.op= .call q)(hx:Kz P q=some x)(hw:WF h)(hc:kz o=true->Ctx c h)(hC:fN dr P ng call)(e:x c call sl h k=some r):Ge dr P ng o c sl h k r:=by
 have nod: ∀q,o.op≠ .defer q:=fun q=>by rw[ho];exact fun e=>by cases e
 obtain⟨cal,args,ts⟩:=q
 unfold Kz at hx
 simp only at hx
 split at hx
 ·split at hx
  ·rename_i y t h1 h2
   have ho':isLen o y t:=by unfold isLen;rw[ho,Te h1,Te h2]
   split at hx
   ·rename_i ht
    simp only[Option.map_eq_some_iff]at hx
    obtain⟨xy,h3,rfl⟩:=hx
    exact(NT ho' h3 ht hw e).ja nod
   ·rename_i ht
    simp only[Option.map_eq_some_iff]at hx
    obtain⟨xy,h3,rfl⟩:=hx
    exact(NU ho' h3 ht hw e).ja nod
   ·rename_i ht
    simp only[Option.map_eq_some_iff]at hx
    obtain⟨xy,h3,rfl⟩:=hx
    exact(NV ho' h3 ht hw e).ja nod
   ·cases hx
  ·cases hx
 ·split at hx
  ·rename_i y z t t2 h1 h2
   have ho':isApp o y z t t2:=by unfold isApp;rw[ho,Lr h1,Lr h2]
   split at hx
   ·rename_i ht ht2
    simp only[Option.bind_eq_bind,Option.bind_eq_some_iff,Option.pure_def,Option.some.injEq]at hx
    obtain⟨s,h3,sb,h6,xy,h4,xz,h5,rfl⟩:=hx
    exact(IC ho' ht ht2 h3 h6 h4 h5 hw e).ja nod
   ·cases hx
  ·cases hx
 ·split at hx
  ·rename_i y z h1
   have ho':Il o .min y z ts:=by unfold Il;rw[ho,Lr h1]
   simp only[Option.bind_eq_bind,Option.bind_eq_some_iff,Option.pure_def,Option.some.injEq]at hx
   obtain⟨xy,h4,xz,h5,rfl⟩:=hx
   exact(QB ho' h4 h5 hw e).ja nod
  ·cases hx
 ·split at hx
  ·rename_i y z t t2 h1 h2
   have ho':o.op= .call {callee:= .builtin .delete,args:= #[y,z],argTypes:= #[t,t2]}:=by rw[ho,Lr h1,Lr h2]
   split at hx
   ·rename_i q e0 ht
    simp only[Option.bind_eq_bind,Option.bind_eq_some_iff,Option.pure_def,Option.some.injEq]at hx
    obtain⟨eq,h0,a,h3,b,h4,rfl⟩:=hx
    exact(Iz ho' ht (tT h0) h3 h4 hw e).ja nod
   ·cases hx
  ·cases hx
 ·rename_i f
  simp only[Option.bind_eq_bind,Option.bind_eq_some_iff,Option.pure_def,Option.some.injEq]at hx
  obtain⟨xf,h3,xs,h4,rfl⟩:=hx
  exact NW ho h3 h4 hw (hc (by simp[kz,ho])) hC e
 ·cases hx
theorem Ap {t:TypeId}{fs:Array Field}{i:TypeInfo}{zv:Value}{places:List (Nat×Nat)}(hu:P.underlying t=some (.struct fs))(hi:P.info? t=some i)(hz:i.zero=some zv)(hp:fs.toList.mapM (fun f=>(P.info? f.type).map fun i=>(f.offset,i.size))=some places)
    (qs:List (Nat×Value)) (cells:Array Value) (hf:Instr.fill (fun i=>places.toArray[i]?) zv.cells qs=some cells):P.built t qs=some cells:=by
 unfold Program.built
 rw[hi,hu]
 simp only[hz,hp]
 exact hf
theorem CW {t e0:TypeId}{n s:Nat}{i:TypeInfo}{zv:Value}(hu:P.underlying t=some (.array n e0))(hi:P.info? t=some i)(hz:i.zero=some zv)(hs:tw P e0=some s)
    (qs:List (Nat×Value)) (cells:Array Value) (hf:Instr.fill (fun i=>some (i*s,s)) zv.cells qs=some cells):P.built t qs=some cells:=by
 unfold tw at hs
 simp only[Option.map_eq_some_iff]at hs
 obtain⟨ie,h1,rfl⟩:=hs
 unfold Program.built
 rw[hi,hu]
 simp only[hz,h1]
 exact hf
theorem Tf (hx: ∃x,cO P o=some x/\x c call sl h k=some r)(hw:WF h)(hc:kz o=true->Ctx c h)(hC:fN dr P ng call):Ge dr P ng o c sl h k r:=by
 obtain⟨x,hx,e⟩:=hx
 unfold cO at hx
 split at hx
 ·rename_i y ho
  simp only[Option.map_eq_some_iff]at hx
  obtain⟨a,h1,rfl⟩:=hx
  exact(Pd (Or.inl ho) h1 hw e).ja (fun q=>by rw[ho];exact fun e=>by cases e)
 ·rename_i y ho
  simp only[Option.map_eq_some_iff]at hx
  obtain⟨a,h1,rfl⟩:=hx
  exact(Pd (Or.inr ho) h1 hw e).ja (fun q=>by rw[ho];exact fun e=>by cases e)
 ·rename_i ho
  simp only[Option.bind_eq_bind,Option.bind_eq_some_iff,Option.pure_def,Option.some.injEq]at hx
  obtain⟨a,h1,b,h2,d,h3,rfl⟩:=hx
  exact(NY ho h1 h2 h3 hw e).ja (fun q=>by rw[ho];exact fun e=>by cases e)
 ·rename_i ho
  simp only[Option.bind_eq_bind,Option.bind_eq_some_iff,Option.pure_def,Option.some.injEq]at hx
  obtain⟨z,h1,rfl⟩:=hx
  exact(Lj ho h1 hw e).ja (fun q=>by rw[ho];exact fun e=>by cases e)
 ·rename_i ho
  simp only[Option.map_eq_some_iff]at hx
  obtain⟨a,h1,rfl⟩:=hx
  exact(QQ ho h1 hw e).ja (fun q=>by rw[ho];exact fun e=>by cases e)
 ·rename_i t ps ho
  split at hx
  ·rename_i fs hu
   simp only[Option.bind_eq_bind,Option.bind_eq_some_iff,Option.pure_def,Option.some.injEq]at hx
   obtain⟨z,h1,places,h2,xs,h3,rfl⟩:=hx
   obtain⟨i,zv,i1,i2,i3⟩:=eX h1
   exact(CN ho h3 i3 (j9 h1) (Ap hu i1 i2 h2) hw e).ja (fun q=>by rw[ho];exact fun e=>by cases e)
  ·rename_i n e0 hu
   simp only[Option.bind_eq_bind,Option.bind_eq_some_iff,Option.pure_def,Option.some.injEq]at hx
   obtain⟨z,h1,s,h2,xs,h3,rfl⟩:=hx
   obtain⟨i,zv,i1,i2,i3⟩:=eX h1
   exact(CN ho h3 i3 (j9 h1) (CW hu i1 i2 h2) hw e).ja (fun q=>by rw[ho];exact fun e=>by cases e)
  ·cases hx
 ·rename_i t n ps ho
  split at hx
  ·rename_i e0 hu
   simp only[Option.bind_eq_bind,Option.bind_eq_some_iff]at hx
   obtain⟨s,h1,z,h2,xs,h3,h4⟩:=hx
   split at h4
   ·rename_i hh
    simp only[Option.pure_def,Option.some.injEq]at h4
    subst h4
    exact(Iv ho hu h1 h2 h3 hh.1 hh.2 hw e).ja (fun q=>by rw[ho];exact fun e=>by cases e)
   ·cases h4
  ·cases hx
 ·rename_i t y ho
  split at hx
  ·rename_i ht
   simp only[Option.map_eq_some_iff]at hx
   obtain⟨a,h1,rfl⟩:=hx
   exact(Lk ho h1 ht hw e).ja (fun q=>by rw[ho];exact fun e=>by cases e)
  ·rename_i n ht
   simp only[Option.map_eq_some_iff]at hx
   obtain⟨a,h1,rfl⟩:=hx
   exact(Ll ho h1 ht hw e).ja (fun q=>by rw[ho];exact fun e=>by cases e)
  ·cases hx
 ·rename_i ho
  simp only[Option.bind_eq_bind,Option.bind_eq_some_iff,Option.pure_def,Option.some.injEq]at hx
  obtain⟨n,h1,a,h2,b,h3,rfl⟩:=hx
  exact(Lm ho h2 h3 h1 hw e).ja (fun q=>by rw[ho];exact fun e=>by cases e)
 ·rename_i ho
  simp only[Option.map_eq_some_iff]at hx
  obtain⟨a,h1,rfl⟩:=hx
  exact(NZ ho h1 hw e).ja (fun q=>by rw[ho];exact fun e=>by cases e)
 ·rename_i ho
  exact(QR ho hx hw e).ja (fun q=>by rw[ho];exact fun e=>by cases e)
 ·rename_i ho
  simp only[Option.map_eq_some_iff]at hx
  obtain⟨a,h1,rfl⟩:=hx
  exact(QL ho h1 hw e).ja (fun q=>by rw[ho];exact fun e=>by cases e)
 ·rename_i ho
  simp only[Option.map_eq_some_iff]at hx
  obtain⟨a,h1,rfl⟩:=hx
  exact(QM ho h1 hw e).ja (fun q=>by rw[ho];exact fun e=>by cases e)
 ·rename_i s d y ho
  split at hx
  ·rename_i hs hd
   simp only[Option.map_eq_some_iff]at hx
   obtain⟨a,h1,rfl⟩:=hx
   exact(Lb ho hs hd h1 hw e).ja (fun q=>by rw[ho];exact fun e=>by cases e)
  ·rename_i hs hd
   simp only[Option.map_eq_some_iff]at hx
   obtain⟨a,h1,rfl⟩:=hx
   exact(NS ho hs hd h1 hw e).ja (fun q=>by rw[ho];exact fun e=>by cases e)
  ·cases hx
 ·rename_i f first caps ho
  split at hx
  ·rename_i hh
   simp only[Option.bind_eq_bind,Option.bind_eq_some_iff,Option.pure_def,Option.some.injEq]at hx
   obtain⟨xs,h1,rfl⟩:=hx
   have:first= #[]:=by simpa using hh
   subst this
   exact(N6 ho h1 hw e).ja (fun q=>by rw[ho];exact fun e=>by cases e)
  ·cases hx
 ·rename_i t y ho
  split at hx
  ·cases hx
  ·rename_i d hnd hu
   simp only[Option.map_eq_some_iff]at hx
   obtain⟨a,h1,rfl⟩:=hx
   exact(NX ho hu (fun ms q=>hnd ms q) h1 hw e).ja (fun q=>by rw[ho];exact fun e=>by cases e)
  ·cases hx
 ·rename_i y s t ho
  split at hx
  ·cases hx
  ·rename_i d hnd hu
   simp only[Option.bind_eq_bind,Option.bind_eq_some_iff,Option.pure_def,Option.some.injEq]at hx
   obtain⟨z,h1,a,h2,rfl⟩:=hx
   exact(ID ho hu (fun ms q=>hnd ms q) h1 h2 hw e).ja (fun q=>by rw[ho];exact fun e=>by cases e)
  ·cases hx
 ·rename_i t ho
  cases hx
  exact(Lp ho (Or.inl rfl) hw e).ja (fun q=>by rw[ho];exact fun e=>by cases e)
 ·rename_i t y ho
  split at hx
  ·rename_i hu
   simp only[Option.map_eq_some_iff]at hx
   obtain⟨a,h1,rfl⟩:=hx
   exact(Io ho hu h1 hw e).ja (fun q=>by rw[ho];exact fun e=>by cases e)
  ·cases hx
 ·rename_i t y ho
  split at hx
  ·rename_i hu
   simp only[Option.map_eq_some_iff]at hx
   obtain⟨a,h1,rfl⟩:=hx
   exact(KR ho hu h1 hw e).ja (fun q=>by rw[ho];exact fun e=>by cases e)
  ·cases hx
 ·rename_i y ho
  simp only[Option.map_eq_some_iff]at hx
  obtain⟨a,h1,rfl⟩:=hx
  exact(NI ho h1 hw e).ja (fun q=>by rw[ho];exact fun e=>by cases e)
 ·rename_i y ho
  simp only[Option.map_eq_some_iff]at hx
  obtain⟨a,h1,rfl⟩:=hx
  exact(KV ho h1 hw e).ja (fun q=>by rw[ho];exact fun e=>by cases e)
 ·rename_i t y1 y2 ho
  split at hx
  ·rename_i e0 hu
   simp only[Option.bind_eq_bind,Option.bind_eq_some_iff]at hx
   obtain⟨s,h1,z,h2,h4⟩:=hx
   split at h4
   ·rename_i hh
    simp only[Option.bind_eq_some_iff,Option.pure_def,Option.some.injEq]at h4
    obtain⟨a,h5,b,h6,rfl⟩:=h4
    exact(EU ho hu h1 h2 hh h5 h6 hw e).ja (fun q=>by rw[ho];exact fun e=>by cases e)
   ·cases h4
  ·cases hx
 ·rename_i t y lo hi ho
  split at hx
  ·rename_i hu
   simp only[Option.bind_eq_bind,Option.bind_eq_some_iff,Option.pure_def,Option.some.injEq]at hx
   obtain⟨a,h1,b,h2,d,h3,rfl⟩:=hx
   exact(Ir ho h1 h2 h3 hu hw e).ja (fun q=>by rw[ho];exact fun e=>by cases e)
  ·rename_i e0 hu
   simp only[Option.bind_eq_bind,Option.bind_eq_some_iff,Option.pure_def,Option.some.injEq]at hx
   obtain⟨s,h0,a,h1,b,h2,d,h3,rfl⟩:=hx
   exact(Lc ho h1 h2 h3 hu h0 hw e).ja (fun q=>by rw[ho];exact fun e=>by cases e)
  ·cases hx
 ·rename_i s y j ho
  split at hx
  ·rename_i fs hu
   split at hx
   ·rename_i f hf
    split at hx
    ·rename_i m hm
     simp only[Option.map_eq_some_iff]at hx
     obtain⟨a,h1,rfl⟩:=hx
     exact(Ln ho h1 hu hf hm hw e).ja (fun q=>by rw[ho];exact fun e=>by cases e)
    ·cases hx
   ·cases hx
  ·cases hx
 ·rename_i s y j ho
  split at hx
  ·rename_i fs hu
   simp only[Option.bind_eq_bind,Option.bind_eq_some_iff]at hx
   obtain⟨f,hf,hx⟩:=hx
   split at hx
   ·rename_i hm
    simp only[Option.map_eq_some_iff]at hx
    obtain⟨a,h1,rfl⟩:=hx
    exact(N0 ho h1 hu hf hm hw e).ja (fun q=>by rw[ho];exact fun e=>by cases e)
   ·cases hx
  ·cases hx
 ·rename_i t y z ho
  split at hx
  ·rename_i e0 hu
   simp only[Option.bind_eq_bind,Option.bind_eq_some_iff,Option.pure_def,Option.some.injEq]at hx
   obtain⟨s,h0,a,h1,b,h2,rfl⟩:=hx
   exact(Lo ho h1 h2 hu h0 hw e).ja (fun q=>by rw[ho];exact fun e=>by cases e)
  ·rename_i n e0 hu
   simp only[Option.bind_eq_bind,Option.bind_eq_some_iff,Option.pure_def,Option.some.injEq]at hx
   obtain⟨s,h0,a,h1,b,h2,rfl⟩:=hx
   exact(Im ho h1 h2 hu h0 hw e).ja (fun q=>by rw[ho];exact fun e=>by cases e)
  ·cases hx
 ·rename_i t y z ho
  split at hx
  ·rename_i hu
   simp only[Option.bind_eq_bind,Option.bind_eq_some_iff,Option.pure_def,Option.some.injEq]at hx
   obtain⟨a,h1,b,h2,rfl⟩:=hx
   exact(N4 ho h1 h2 hu hw e).ja (fun q=>by rw[ho];exact fun e=>by cases e)
  ·rename_i n e0 hu
   split at hx
   ·rename_i ha hs
    simp only[Option.bind_eq_bind,Option.bind_eq_some_iff,Option.pure_def,Option.some.injEq]at hx
    obtain⟨a,h1,b,h2,rfl⟩:=hx
    exact(NH ho h1 h2 hu ha hs hw e).ja (fun q=>by rw[ho];exact fun e=>by cases e)
   ·cases hx
  ·cases hx
 ·rename_i t y z ok ho
  split at hx
  ·rename_i q e0 hu
   simp only[Option.bind_eq_bind,Option.bind_eq_some_iff,Option.pure_def,Option.some.injEq]at hx
   obtain⟨eq,h0,zz,h1,a,h2,b,h3,rfl⟩:=hx
   exact(Ix ho hu (tT h0) h1 h2 h3 hw e).ja (fun q=>by rw[ho];exact fun e=>by cases e)
  ·cases hx
 ·rename_i t m0 k0 v0 ho
  split at hx
  ·rename_i q e0 hu
   simp only[Option.bind_eq_bind,Option.bind_eq_some_iff,Option.pure_def,Option.some.injEq]at hx
   obtain⟨eq,h0,a,h1,b,h2,d,h3,rfl⟩:=hx
   exact(CV (Or.inl ho) hu (tT h0) h1 h2 h3 hw e).ja (fun q=>by rw[ho];exact fun e=>by cases e)
  ·cases hx
 ·rename_i t m0 k0 v0 ho
  split at hx
  ·rename_i q e0 hu
   simp only[Option.bind_eq_bind,Option.bind_eq_some_iff,Option.pure_def,Option.some.injEq]at hx
   obtain⟨eq,h0,a,h1,b,h2,d,h3,rfl⟩:=hx
   exact(CV (Or.inr ho) hu (tT h0) h1 h2 h3 hw e).ja (fun q=>by rw[ho];exact fun e=>by cases e)
  ·cases hx
 ·rename_i ho
  simp only[Option.bind_eq_bind,Option.bind_eq_some_iff,Option.pure_def,Option.some.injEq]at hx
  obtain⟨a,h1,rfl⟩:=hx
  exact(N5 ho h1 hw e).ja (fun q=>by rw[ho];exact fun e=>by cases e)
 ·rename_i q ho
  exact Ls ho hx hw hc hC e
 ·cases hx
theorem Py (P:Program)(ng:Nat):Cz dr P ng:=fun o x hx c call sl h k r hc hw hC e=>Tf ⟨x,hx,e⟩ hw hc hC
end
end
section
open Go Go.RowKit
variable {dr:Prop}
def top (n:Nat):C:=⟨n,[(0,gQ)]⟩
theorem Lt {P:Program}{X:cj}{M:Mf}(hmx:P.follows .mixedOrders=true)(hNG: ∀(f:Nat) (fn:Func),P.funcs[f]? =some fn->(fn.name== "runtime.NumGoroutine")=false)(hX:yg P X)(hM:da dr P P.globals.size M){fuel f:Nat}{args:List AV}{v:AV}{h0 h':H}
    (hev:ev (cC P) (bJ P X) M fuel (top h0.n) (.call (.Jc f) args) h0= .call v h') (hwf:WF h0) {β:bS} {w:World} (hgb:GB P.globals.size β) (hr:HR (top h0.n).floor β (view (top h0.n) h0) w) (hdom: ∀id,h0.n<=id->β id=none) {cargs:List Value} (hv:bh β args cargs):
    Calls P f cargs.toArray w fun e w'=> ∃β' val,e= .returned val/\VR β' v val/\Sub β β'/\Below w.heap.size w w'/\(dr->w.drawn<=w'.drawn):=by
 have hC:=(oG (ng:=P.globals.size) hmx (Py P _) (Nat.le_refl _) hNG hX hM fuel).2
 have hctx:Ctx (top h0.n) h0:=⟨Nat.le_refl _,fun id _=>by
  show seen [(0,gQ)] id=true
  simp only[seen]
  have:Nat.ble 0 id=true:=by simp
  rw[this]
  exact CJ (id:=id) (b:=gQ) (Or.inl rfl)⟩
 have hfd:kQ dr P P.globals.size f args (top h0.n) h0 v h':=hC (.Jc f) args (top h0.n) h0 v h' hctx hwf (by unfold eC;rw[hev])
 obtain⟨hst,_,hd⟩:=hfd
 refine hd β w cargs hgb hr hv (fun id h1 _=>hdom id h1) _ fun β' val w' hP hvr=>⟨β',val,rfl,hvr,hP.sub,⟨hP.os,hP.tape.1,hP.output,hP.size,fun B hB=>hP.frame B hB fun id b L hid hg _=>?_⟩,hP.tape.2⟩
 have h1:=db hwf (bN (dV hg)).1
 have h2:h0.n<=id:=hid
 omega
def isTrue:lh->Bool
 | .call (.bool true) _=>true
 |_=>false
theorem CX {x:lh}(h:isTrue x=true): ∃h',x= .call (.bool true) h':=by
 unfold isTrue at h
 split at h
 ·exact⟨_,rfl⟩
 ·cases h
end
end Go.Proofs.YtemehfgkfidgjaaGreatDoor.Ev
