/- CoverStates, part 39 -/
import Derived.Test.YtemehfgkfidgjaaGreatDoorProg
import Derived.ProofKit
import Derived.Lib.QuietBelow
import Derived.Lib.Hide
set_option linter.all false
namespace Go.Proofs.YtemehfgkfidgjaaGreatDoor
open Go Go.RowKit
theorem kJ (w:World)(x y:Array Value)(t s:TypeId)(i:Nat):(World.mk ((w.heap.push (.cells x t)).push (.cells y s)) w.tape w.drawn w.os w.output).cell? ⟨w.heap.size,i,none⟩=x[i]? /\(World.mk ((w.heap.push (.cells x t)).push (.cells y s)) w.tape w.drawn w.os w.output).cell? ⟨w.heap.size+1,i,none⟩=y[i]? :=by
 have e1:((w.heap.push (Obj.cells x t)).push (Obj.cells y s))[w.heap.size]? =some (.cells x t):=by rw[Array.getElem?_push,if_neg (by simp),Array.getElem?_push,if_pos rfl]
 have e2:((w.heap.push (Obj.cells x t)).push (Obj.cells y s))[w.heap.size+1]? =some (.cells y s):=by rw[Array.getElem?_push,if_pos (by simp)]
 constructor
 ·unfold World.cell?
  simp only[e1];rfl
 ·unfold World.cell?
  simp only[e2];rfl
set_option maxHeartbeats 1000000 in
theorem Oa {a0 a1 a2 a3 a4 a5 a6 a7 b0 b1 b2 b3 b4 b5 b6 b7:Value}{n:Int}{w:World}
    (H1: ∀w',Below w.heap.size w w'->Calls Tryz.prog 34 #[.agg #[a0,a1],.agg #[b0,b1]] w' fun e w''=>e= .returned (.int .i64 n)/\Below w'.heap.size w' w''/\w'.drawn<=w''.drawn):
    Calls Tryz.prog 47 #[.agg #[a0,a1,a2,a3,a4,a5,a6,a7],.agg #[b0,b1,b2,b3,b4,b5,b6,b7]] w fun e w'=>e= .returned (.int .i64 n)/\Below w.heap.size w w'/\w.drawn<=w'.drawn:=by
 go_enter Tryz.func47,Tryz.ntmps47
 have ka0:(World.mk ((w.alloc (Obj.cells #[a0,a1,a2,a3,a4,a5,a6,a7] 52)).heap.push (Obj.cells #[b0,b1,b2,b3,b4,b5,b6,b7] 52)) w.tape w.drawn (w.alloc (Obj.cells #[a0,a1,a2,a3,a4,a5,a6,a7] 52)).os (w.alloc (Obj.cells #[a0,a1,a2,a3,a4,a5,a6,a7] 52)).output).cell? ⟨w.heap.size,0,none⟩=some a0:=(kJ w #[a0,a1,a2,a3,a4,a5,a6,a7] #[b0,b1,b2,b3,b4,b5,b6,b7] 52 52 0).1
 have ka1:(World.mk ((w.alloc (Obj.cells #[a0,a1,a2,a3,a4,a5,a6,a7] 52)).heap.push (Obj.cells #[b0,b1,b2,b3,b4,b5,b6,b7] 52)) w.tape w.drawn (w.alloc (Obj.cells #[a0,a1,a2,a3,a4,a5,a6,a7] 52)).os (w.alloc (Obj.cells #[a0,a1,a2,a3,a4,a5,a6,a7] 52)).output).cell? ⟨w.heap.size,1,none⟩=some a1:=(kJ w #[a0,a1,a2,a3,a4,a5,a6,a7] #[b0,b1,b2,b3,b4,b5,b6,b7] 52 52 1).1
 have kb0:(World.mk ((w.alloc (Obj.cells #[a0,a1,a2,a3,a4,a5,a6,a7] 52)).heap.push (Obj.cells #[b0,b1,b2,b3,b4,b5,b6,b7] 52)) w.tape w.drawn (w.alloc (Obj.cells #[a0,a1,a2,a3,a4,a5,a6,a7] 52)).os (w.alloc (Obj.cells #[a0,a1,a2,a3,a4,a5,a6,a7] 52)).output).cell? ⟨w.heap.size+1,0,none⟩=some b0:=(kJ w #[a0,a1,a2,a3,a4,a5,a6,a7] #[b0,b1,b2,b3,b4,b5,b6,b7] 52 52 0).2
 have kb1:(World.mk ((w.alloc (Obj.cells #[a0,a1,a2,a3,a4,a5,a6,a7] 52)).heap.push (Obj.cells #[b0,b1,b2,b3,b4,b5,b6,b7] 52)) w.tape w.drawn (w.alloc (Obj.cells #[a0,a1,a2,a3,a4,a5,a6,a7] 52)).os (w.alloc (Obj.cells #[a0,a1,a2,a3,a4,a5,a6,a7] 52)).output).cell? ⟨w.heap.size+1,1,none⟩=some b1:=(kJ w #[a0,a1,a2,a3,a4,a5,a6,a7] #[b0,b1,b2,b3,b4,b5,b6,b7] 52 52 1).2
 have hB:Below w.heap.size w (World.mk ((w.alloc (Obj.cells #[a0,a1,a2,a3,a4,a5,a6,a7] 52)).heap.push (Obj.cells #[b0,b1,b2,b3,b4,b5,b6,b7] 52)) w.tape w.drawn (w.alloc (Obj.cells #[a0,a1,a2,a3,a4,a5,a6,a7] 52)).os (w.alloc (Obj.cells #[a0,a1,a2,a3,a4,a5,a6,a7] 52)).output):=⟨rfl,rfl,rfl,by show w.heap.size<=((w.heap.push _).push _).size;simp;omega,fun k hk=>by
  show((w.heap.push _).push _)[k]? =w.heap[k]?
  rw[Array.getElem?_push,if_neg (by simp;omega),Array.getElem?_push,if_neg (by omega)]⟩
 go_wp2_with fail
 have h1:=H1 _ hB
 have hD:w.drawn<=(World.mk ((w.alloc (Obj.cells #[a0,a1,a2,a3,a4,a5,a6,a7] 52)).heap.push (Obj.cells #[b0,b1,b2,b3,b4,b5,b6,b7] 52)) w.tape w.drawn (w.alloc (Obj.cells #[a0,a1,a2,a3,a4,a5,a6,a7] 52)).os (w.alloc (Obj.cells #[a0,a1,a2,a3,a4,a5,a6,a7] 52)).output).drawn:=Nat.le_refl _
 clear H1 ka0 ka1 kb0 kb1
 generalize (World.mk ((w.alloc (Obj.cells #[a0,a1,a2,a3,a4,a5,a6,a7] 52)).heap.push (Obj.cells #[b0,b1,b2,b3,b4,b5,b6,b7] 52)) w.tape w.drawn (w.alloc (Obj.cells #[a0,a1,a2,a3,a4,a5,a6,a7] 52)).os (w.alloc (Obj.cells #[a0,a1,a2,a3,a4,a5,a6,a7] 52)).output)=W at hB h1 hD⊢
 refine h1.mono ?_
 rintro e w' ⟨rfl,hb,hd⟩
 go_wp2_with fail
 refine bodyPost_ret (v:= .int .i64 n) (by simp[results,Tryz.results47,go_sem]) rfl ⟨rfl,hB.trans (hb.mono hB.size),Nat.le_trans hD hd⟩
end Go.Proofs.YtemehfgkfidgjaaGreatDoor
