/- CoverStates, part 43 -/
import Derived.Test.YtemehfgkfidgjaaGreatDoorProg
import Derived.ProofKit
import Derived.Lib.QuietBelow
import Derived.Lib.Hide
set_option linter.all false
namespace Go.Proofs.YtemehfgkfidgjaaGreatDoor
open Go Go.RowKit
theorem tz {P:Program}{id:Nat}{Q:Exit->Act->World->Prop}{a:Act}{w:World}{l:List Oper}(hm:P.follows .mixedOrders=true)(hB:Region.lexB .any l.toArray=true)
    (h:wpQuiet P l.toArray (fun w'=> ∃p:Regrown,w'=Sort.grow (redrawn w p.d) p.os) (fun a'=> ∀w',Below w.heap.size w w'->Q .normal a' w') l a):(Code.region id l.toArray true).wp P Q a w:=
 wp_region_quiet (C:=fun w'=> ∃p:Regrown,w'=Sort.grow (redrawn w p.d) p.os) hm hB ⟨⟨w.drawn+1,#[]⟩,by rw[Sort.grow_empty];rfl⟩ (by
  have e:(fun a'=> ∀w',Below w.heap.size w w'->Q .normal a' w')=(fun a'=> ∀w',(∃p:Regrown,w'=Sort.grow (redrawn w p.d) p.os)->Q .normal a' w'):=by
   funext a'
   apply propext
   constructor
   ·intro h w' hw
    obtain⟨p,rfl⟩:=hw
    exact h _ (below_regrown w p.d p.os)
   ·intro h w' hw
    exact h w' (regrown_of_below hw)
  rw[e]at h
  simpa using h)
theorem IG (w:World)(x y:Array Value)(t s:TypeId)(i:Nat):(World.mk ((w.heap.push (.cells x t)).push (.cells y s)) w.tape w.drawn w.os w.output).cell? ⟨w.heap.size,i,none⟩=x[i]? /\(World.mk ((w.heap.push (.cells x t)).push (.cells y s)) w.tape w.drawn w.os w.output).cell? ⟨w.heap.size+1,i,none⟩=y[i]? :=by
 have e1:((w.heap.push (Obj.cells x t)).push (Obj.cells y s))[w.heap.size]? =some (.cells x t):=by rw[Array.getElem?_push,if_neg (by simp),Array.getElem?_push,if_pos rfl]
 have e2:((w.heap.push (Obj.cells x t)).push (Obj.cells y s))[w.heap.size+1]? =some (.cells y s):=by rw[Array.getElem?_push,if_pos (by simp)]
 constructor
 ·unfold World.cell?
  simp only[e1];rfl
 ·unfold World.cell?
  simp only[e2];rfl
theorem IH (w:World)(x y:Obj):Below w.heap.size w (World.mk ((w.heap.push x).push y) w.tape w.drawn w.os w.output):=
 ⟨rfl,rfl,rfl,by simp;omega,fun k hk=>by
  show((w.heap.push x).push y)[k]? =w.heap[k]?
  rw[Array.getElem?_push,if_neg (by simp;omega),Array.getElem?_push,if_neg (by omega)]⟩
set_option maxHeartbeats 1000000 in
theorem Ti {a0 a1 b0 b1 b2:Value}{n:Int}{w:World}
    (H1: ∀w',Below w.heap.size w w'->Calls Tryz.prog 5 #[.agg #[a0,a1],.agg #[b0,b1,b2]] w' fun e w''=>e= .returned (.int .i64 n)/\Below w'.heap.size w' w'')
    (H2: ∀w',Below w.heap.size w w'->Calls Tryz.prog 6 #[.agg #[a0,a1],.agg #[b0,b1,b2]] w' fun e w''=>e= .returned (.int .i64 n)/\Below w'.heap.size w' w'')
    (H3: ∀w',Below w.heap.size w w'->Calls Tryz.prog 7 #[] w' fun e w''=>e= .returned (.bool true)/\Below w'.heap.size w' w''):
    Calls Tryz.prog 3 #[.agg #[a0,a1],.agg #[b0,b1,b2]] w fun e w'=>e= .returned (.bool true)/\Below w.heap.size w w':=by
 go_enter Tryz.func3,Tryz.ntmps3
 go_wp2_with fail
 generalize hW:(World.mk ((w.alloc (Obj.cells #[a0,a1] 24)).heap.push (Obj.cells #[b0,b1,b2] 30)) w.tape w.drawn (w.alloc (Obj.cells #[a0,a1] 24)).os (w.alloc (Obj.cells #[a0,a1] 24)).output)=W
 have c:=IG w #[a0,a1] #[b0,b1,b2] 24 30
 have hB:Below w.heap.size w W:=by subst hW;exact IH _ _ _
 have k0:W.cell? ⟨w.heap.size,0,none⟩=some a0:=by subst hW;exact(c 0).1
 have k1:W.cell? ⟨w.heap.size,1,none⟩=some a1:=by subst hW;exact(c 1).1
 have l0:W.cell? ⟨w.heap.size+1,0,none⟩=some b0:=by subst hW;exact(c 0).2
 have l1:W.cell? ⟨w.heap.size+1,1,none⟩=some b1:=by subst hW;exact(c 1).2
 have l2:W.cell? ⟨w.heap.size+1,2,none⟩=some b2:=by subst hW;exact(c 2).2
 have kk0:=cell_regrown k0
 have kk1:=cell_regrown k1
 have ll0:=cell_regrown l0
 have ll1:=cell_regrown l1
 have ll2:=cell_regrown l2
 have hR: ∀d os,Below w.heap.size w (Sort.grow (redrawn W d) os):=fun d os=>hB.trans ((below_regrown W d os).mono hB.size)
 clear hW c
 refine tz (by kernel_rfl) (by kernel_rfl) ?_
 repeat(quiet_step (first|exact Calls.regrown_of (H1 _ (hR _ _))|exact Calls.regrown_of (H2 _ (hR _ _))|exact Calls.regrown_of (H3 _ (hR _ _))))
 refine wpQuiet_nil ?_
 clear kk0 kk1 ll0 ll1 ll2 hR H1 H2 H3 k0 k1 l0 l1 l2
 intro wq hq
 have hF:Below w.heap.size w wq:=hB.trans (hq.mono hB.size)
 clear hq hB
 go_wp2_with fail
 refine bodyPost_ret (v:= .bool true) (by simp[results,Tryz.results3,go_sem]) rfl ⟨rfl,hF⟩
end Go.Proofs.YtemehfgkfidgjaaGreatDoor
