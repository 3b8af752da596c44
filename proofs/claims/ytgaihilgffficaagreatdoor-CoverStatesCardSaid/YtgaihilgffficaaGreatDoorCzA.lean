/- CoverStates, part 39 -/
import Derived.Test.YtgaihilgffficaaGreatDoorCyC
import Derived.Sort.MapsRangeIn
import Derived.LoopIn
import Derived.Maps.AppendAt
set_option linter.all false
set_option maxHeartbeats 4000000
namespace Go.Proofs.YtgaihilgffficaaGreatDoor.Ev
section
open Go
variable [Gb]
theorem s7 {a : Int} {K : PV → Prop} (k : K (.bool false)) : PF Tryz.prog X0 PU 117 [.int .i64 a] K := by
 have hnt : (6 : Nat) ≤ 1000000 := by decide
 refine Ak lp (fun _ _ _ => rfl) (by simp) hnt ?_
 repeat' (first | refine Qa ?_ | (refine Ba ?_ ?_ <;> try exact Za) | intro hc)
 exact E1 k
theorem pR {a b : Int} {K : PV → Prop} (k : K (.int .i64 (kQ a b))) : PF Tryz.prog X0 PU 61 [.int .i64 a, .int .i64 b] K := by
 have hnt : (20 : Nat) ≤ 1000000 := by decide
 refine Ak jE (fun _ _ _ => rfl) (by simp) hnt ?_
 unfold kQ at k
 repeat' (first | refine Qa ?_ | (refine Ba ?_ ?_ <;> try exact Za) | refine aq (ao (s7 ?_)) | intro hc)
 all_goals replace k := Ik k
 all_goals exact E1 k
theorem yI {l : List Int} {K : PV → Prop} (k : K (.int .i64 (JO l))) : PF Tryz.prog X0 PU 60 [pL 1 pI l] K := by
 have hnt : (18 : Nat) ≤ 1000000 := by decide
 refine Ak pw (fun _ _ _ => rfl) (by simp) hnt ?_
 unfold JO at k
 repeat' (first | refine Qa ?_ | (refine Ba ?_ ?_ <;> try exact Za) | intro hc)
 refine aJ (fun j : Nat => [(0, pL 1 pI l), (3, .int .i64 0), (6, pL 1 pI l), (7, .int .i64 (l.length : Nat)), (8, .int .i64 j)]) (fun _ => []) (fun j => j ≤ l.length ∧ ∀ i, i < j → el l i = 0) (fun j => l.length - j) 0 ⟨Nat.zero_le _, fh⟩ .su (.nil) ?_
 rintro j ⟨hj, hb⟩
 repeat' (first | refine Qa ?_ | (refine Ba ?_ ?_ <;> try exact Za) | intro hc)
 ·refine ⟨j + 1, by dsimp only; omega, ⟨om, fun i hi => ?_⟩, .su, (.nil)⟩
  by_cases q : i = j
  ·subst q; assumption
  ·exact hb i om
 ·rw [gY (g := fun x : Int => if x = 0 then none else some x) (l := l) (j := j) (y := el l j) (by omega) (if_neg (by assumption)) fun i hi => if_pos (hb i hi)] at k
  exact E1 k
 ·rw [iB (g := fun x : Int => if x = 0 then none else some x) fun i hi => if_pos (hb i (by omega))] at k
  exact E1 k
theorem lO {a b : nP} {K : PV → Prop} (k : K (.int .i64 (Kl a b))) : PF Tryz.prog X0 PU 25 [.agg (AG a), .agg (AG b)] K := by
 have hnt : (22 : Nat) ≤ 1000000 := by decide
 refine Ak gC (fun _ _ _ => rfl) (by simp) hnt ?_
 unfold Kl at k
 repeat' (first | refine Qb ?_ | (refine aj ?_; intro b) | refine aG ?_ | refine pd ?_ | refine dW (aM (pR ?_)) | (refine bw ?_; intro bs) | (refine dW (il (.cons _ _ _ _ (SW rfl) .nil) (yI ⟨rfl, ?_⟩))))
 exact E1 k
end
section
open Go Go.RowKit Go.Proofs
open Go.ChangeMaps (setBlock)
abbrev Ky := Int × Int × Int
def jR (k : Ky) : List Value := [.int .i64 k.1, .int .i64 k.2.1, .int .i64 k.2.2]
abbrev jS (k : Ky) : Value := .agg #[.int .i64 k.1, .int .i64 k.2.1, .int .i64 k.2.2]
def Ns : Value → Ky
 | .agg cs => match cs.toList with
  | [.int _ a, .int _ b, .int _ c] => (a, b, c)
  | _ => (0, 0, 0)
 | _ => (0, 0, 0)
theorem HI (k : Ky) : Ns (jS k) = k := rfl
def Ks (es : Array MapEntry) (seen : Array Nat) (ss : List Ky) : Prop := ∃ l : List MapEntry, l.Perm (es.toList.filter fun e => seen.contains e.born) ∧ l.map (·.key) = ss.map jS
theorem Fl (es : Array MapEntry) : Ks es #[] [] := ⟨[], by simp, rfl⟩
theorem AQ : ∀ {l : List MapEntry} {seen : Array Nat} {e : MapEntry}, (l.map (·.born)).Nodup → e ∈ l → e.born ∉ seen → (l.filter fun x => (seen.push e.born).contains x.born).Perm (e :: l.filter fun x => seen.contains x.born)
 | [], seen, e, _, h, _ => by cases h
 | y :: l, seen, e, hn, h, hs => by
  rw [List.map_cons, List.nodup_cons] at hn
  rcases List.mem_cons.1 h with rfl | h
  ·rw [List.filter_cons_of_pos (by simp), List.filter_cons_of_neg (by simpa using hs)]
   refine List.Perm.cons _ (List.Perm.of_eq (List.filter_congr fun x hx => ?_))
   have : x.born ≠ e.born := fun q => hn.1 (by rw [← q]; exact List.mem_map.2 ⟨x, hx, rfl⟩)
   simp [this]
  ·have ih := AQ hn.2 h hs
   have hne : y.born ≠ e.born := fun q => hn.1 (by rw [q]; exact List.mem_map.2 ⟨e, h, rfl⟩)
   by_cases q : y.born ∈ seen
   ·rw [List.filter_cons_of_pos (by simp [q]), List.filter_cons_of_pos (by simpa using q)]
    exact (ih.cons y).trans (List.Perm.swap e y _)
   ·rw [List.filter_cons_of_neg (by simp [q, hne]), List.filter_cons_of_neg (by simpa using q)]
    exact ih
theorem yJ {p : MapEntry → Bool} : ∀ (l : List MapEntry), (l.filter p).length + (l.filter fun x => !p x).length = l.length
 | [] => rfl
 | y :: l => by
  have ih := yJ (p := p) l
  cases q : p y <;> simp [List.filter_cons, q] <;> omega
section
variable {es : Array MapEntry} {seen : Array Nat} {ss ks : List Ky} {e : MapEntry}
theorem mem_left (h : e ∈ (leftOf es seen).toList) : e ∈ es.toList ∧ e.born ∉ seen := by
 unfold leftOf at h
 simp at h
 exact ⟨by simpa using h.1, by simpa using h.2⟩
theorem pT : (leftOf es seen).size = (es.toList.filter fun e => !seen.contains e.born).length := by
 unfold leftOf
 rw [← Array.length_toList, Array.toList_filter]
theorem Ks.len (h : Ks es seen ss) : ss.length + (leftOf es seen).size = es.size := by
 obtain ⟨l, h1, h2⟩ := h
 have h3 := congrArg List.length h2
 rw [List.length_map, List.length_map] at h3
 rw [← h3, h1.length_eq, pT, yJ]
 simp
theorem Ks.step (h : Ks es seen ss) (hn : (es.toList.map (·.born)).Nodup) (he : e ∈ (leftOf es seen).toList) {x : Ky} (hx : e.key = jS x) : Ks es (seen.push e.born) (ss ++ [x]) := by
 obtain ⟨l, h1, h2⟩ := h
 obtain ⟨m1, m2⟩ := mem_left he
 refine ⟨l ++ [e], ?_, by simp [h2, hx]⟩
 refine List.Perm.trans ?_ (AQ hn m1 m2).symm
 exact (List.perm_append_comm (l₁ := l) (l₂ := [e])).trans (h1.cons e)
theorem Ks.all (h : Ks es seen ss) (hk : es.toList.map (·.key) = ks.map jS) (h0 : (leftOf es seen).size = 0) : ss.Perm ks := by
 obtain ⟨l, h1, h2⟩ := h
 have h3 : (es.toList.filter fun e => seen.contains e.born) = es.toList := by
  have h4 := yJ (p := fun e => seen.contains e.born) es.toList
  rw [pT] at h0
  exact List.length_filter_eq_length_iff.1 om |> fun q => List.filter_eq_self.2 q
 rw [h3] at h1
 have h5 := (h1.map (·.key)).map Ns
 rw [h2, hk, List.map_map, List.map_map] at h5
 have e1 : (Ns ∘ jS) = id := funext HI
 rw [e1, List.map_id, List.map_id] at h5
 exact h5
theorem Kt (he : e ∈ (leftOf es seen).toList) : (leftOf es (seen.push e.born)).size < (leftOf es seen).size := by
 obtain ⟨m1, m2⟩ := mem_left he
 rw [pT, pT]
 exact filter_lt m1 (by simpa using m2) (by simp) fun y hy => by
  simp at hy ⊢
  exact hy.1
end
def yK {β : Type} (B : Nat) (J : β → World → Prop) : Prop :=
 ∀ s W W' row, J s W → W.grownBy W' row → W.drawn ≤ W'.drawn → (∀ r, row = some r → B ≤ r ∧ ∃ o : Obj, W.heap[r]? = some o ∧ o.isWalk = true) → J s W'
structure SX (w : World) (es : Array MapEntry) (seen : Array Nat) (e : MapEntry) (w1 : World) : Prop where
 wd : w1 = w ∨ w1 = w.drew
 mem : e ∈ (leftOf es seen).toList
structure Nl (es : Array MapEntry) (seen : Array Nat) : Prop where
 nl : (leftOf es seen).size = 0
section
variable {F : Fence} {n : Nat} {P : Program} (w : World) {ops : Array Oper} {rest : List Oper} {o : Oper} {a : Act} {Q : Exit → Act → World → Prop}
theorem oG (hg : o.guard = none) (m : Operand) (t : TypeId) (hop : o.op = Op.range t m) (k e : TypeId) (ht : P.underlying t = some (.map k e)) (b : Nat) (es : Array MapEntry) (clock : Nat)
    (hm : a.eval m = .map (some b)) (hb : w.heap[b]? = some (.map es clock))
    (hK : wpListIn F n P ops Q rest (a.put o.dst (.pointer (some ⟨w.heap.size, 0, none⟩))) (w.alloc (.mapIter (some b) clock #[] clock))) :
    wpListIn F n P ops Q (o :: rest) a w := by
 refine wpListIn_plain hg fun K' hK' => ?_
 unfold Oper.wpIn
 refine ⟨by simp [Oper.about, hop], ?_⟩
 rw [Oper.semAt_plain F _ _ (by rw [hop]; intro c hc'; cases hc')]
 simp [execOp, hop, hm, run_range_map w t k e b es clock ht hb, Result.andThen]
 exact hK' _ _ hK
theorem pU (hg : o.guard = none) (it : Operand) (hop : o.op = Op.next it false) (b r since c0 clock : Nat) (seen : Array Nat) (es : Array MapEntry)
    (hit : a.eval it = .pointer (some ⟨r, 0, none⟩)) (hr : w.heap[r]? = some (.mapIter (some b) since seen c0)) (hb : w.heap[b]? = some (.map es clock)) (hold : ∀ x ∈ es.toList, x.born < since) (hsc : since ≤ c0)
    (hDone : Nl es seen → wpListIn F n P ops Q rest (a.put o.dst (.tuple #[.bool false])) w)
    (hMore : ∀ e w1, SX w es seen e w1 → wpListIn F n P ops Q rest (a.put o.dst (.tuple #[.bool true, e.key, e.val])) (setBlock w1 r (.mapIter (some b) since (seen.push e.born) clock))) :
    wpListIn F n P ops Q (o :: rest) a w := by
 refine wpListIn_plain hg fun K' hK' => ?_
 unfold Oper.wpIn
 refine ⟨by simp [Oper.about, hop], ?_⟩
 rw [Oper.semAt_plain F _ _ (by rw [hop]; intro c hc'; cases hc')]
 rcases run_next_at (P := P) w o.type r b since c0 seen es clock hr hb hold hsc with ⟨h0, hrun⟩ | ⟨e, he, w1, hal, hrun⟩
 ·simp [execOp, hop, hit, hrun, Result.andThen]
  exact hK' _ _ (hDone ⟨h0⟩)
 ·simp [execOp, hop, hit, hrun, Result.andThen]
  exact hK' _ _ (hMore e w1 ⟨hal, he⟩)
end
theorem Fm {w w1 : World} {r : Nat} {o : Obj} (h : w1 = w ∨ w1 = w.drew) : w.grownBy (setBlock w1 r o) (some r) ∧ w.drawn ≤ (setBlock w1 r o).drawn ∧ (r < w.heap.size → (setBlock w1 r o).heap[r]? = some o) ∧ (setBlock w1 r o).heap.size = w.heap.size ∧ ∀ k, k ≠ r → (setBlock w1 r o).heap[k]? = w.heap[k]? := by
 have e1 : w1.heap = w.heap ∧ w1.os = w.os ∧ w1.tape = w.tape ∧ w1.output = w.output ∧ w.drawn ≤ w1.drawn := by
  rcases h with rfl | rfl
  ·exact ⟨rfl, rfl, rfl, rfl, Nat.le_refl _⟩
  ·exact ⟨rfl, rfl, rfl, rfl, Nat.le_succ _⟩
 obtain ⟨h1, h2, h3, h4, h5⟩ := e1
 have h6 : (setBlock w1 r o).heap = w.heap.setIfInBounds r o := by
  show w1.heap.setIfInBounds r o = _
  rw [h1]
 refine ⟨⟨h2, h3, h4, by rw [h6]; simp, fun k hk hne => ?_⟩, h5, fun hr => ?_, by rw [h6]; simp, fun k hk => ?_⟩
 ·rw [h6, Array.getElem?_setIfInBounds_ne (fun q => hne (by rw [q]))]
 ·rw [h6]; simp [hr]
 ·rw [h6, Array.getElem?_setIfInBounds_ne (Ne.symm hk)]
set_option maxRecDepth 100000 in
set_option maxHeartbeats 2000000 in
theorem HJ (F : Fence) (n : Nat) (h10 : F.fn 59) (hro : F.round = none) (hn : 1 ≤ n) (l Bm ob b clock : Nat) (es : Array MapEntry) (ks : List Ky) (J : List Ky → World → Prop)
    (hY : ∀ pre x W, J pre W → pre.length < es.size → YieldAt F (n - 1) Tryz.prog l #[jS x] W fun e W' => e = .returned (.bool true) ∧ J (pre ++ [x]) W' ∧ KeepsWalks W W')
    (W : World) (hJ : yK W.heap.size J) (hm : W.cell? ⟨Bm, ob, none⟩ = some (.map (some b))) (hb : W.heap[b]? = some (.map es clock)) (hk : es.toList.map (·.key) = ks.map jS) (hbn : ∀ x ∈ es.toList, x.born < clock) (hnd : (es.toList.map (·.born)).Nodup) (h0 : J [] W) :
    CallsIn F n Tryz.prog 59 #[.func (.yield l) #[] #[], .pointer (some ⟨Bm, ob, none⟩)] W fun e W' => (∃ v, e = .returned v) ∧ ∃ ss : List Ky, ss.Perm ks ∧ J ss W' := by
 have hbl : b < W.heap.size := (Array.getElem?_eq_some_iff.1 hb).1
 have hmix : Tryz.prog.follows .mixedOrders = true := by kernel_rfl
 refine callsIn_of_wp Tryz.func59 rfl h10 ?_ hro
 simp only [Tryz.ntmps59, List.size_toArray, List.length_cons, List.length_nil, Nat.reduceAdd, Nat.reduceSub, Array.replicate_succ, Array.replicate_zero, List.push_toArray, List.append_toArray, List.nil_append, List.cons_append]
 gi_wp2_with (first
  | (gi_at_range; refine oG _ rfl _ 75 rfl 44 4 Tryz.underlying75 b es clock rfl hb ?_)
  | gi_in)
 go_frame
 gi_loopw [3] (fun _ wr => ∃ (seen : Array Nat) (c0 : Nat) (ss : List Ky), wr.heap[b]? = some (.map es clock) ∧ wr.heap[W.heap.size]? = some (.mapIter (some b) clock seen c0) ∧ clock ≤ c0 ∧ Ks es seen ss ∧ J ss wr)
  (fun _ wr => wr.rangeLeft b W.heap.size)
 case atStart =>
  refine ⟨#[], clock, [], (Below.heap_alloc _ _ b hbl).trans hb, World.alloc_heap_new W _, Nat.le_refl _, Fl es, hJ [] W _ none h0 (World.grownBy_alloc W _ none) (Nat.le_refl _) (fun r e => by cases e)⟩
 case round =>
  obtain ⟨seen, c0, ss, hb1, hr1, hc1, hC, hJs⟩ := hrel
  have hrl : W.heap.size < wr.heap.size := (Array.getElem?_eq_some_iff.1 hr1).1
  gi_wp2_with (first
   | (gi_at_next; refine pU _ rfl _ rfl b W.heap.size clock c0 clock seen es rfl hr1 hb1 hbn hc1 ?_ ?_)
   | gi_in)
  ·intro hl0
   gi_wp2
   go_end0
   exact ⟨⟨_, rfl⟩, ss, hC.all hk hl0.nl, hJs⟩
  ·intro e w1 hst
   have he := hst.mem
   have hw1 := hst.wd
   obtain ⟨W2, hW2⟩ : ∃ W2, setBlock w1 W.heap.size (.mapIter (some b) clock (seen.push e.born) clock) = W2 := ⟨_, rfl⟩
   rw [hW2]
   obtain ⟨g1, g2, g3, g4, g5⟩ := Fm (w := wr) (w1 := w1) (r := W.heap.size) (o := .mapIter (some b) clock (seen.push e.born) clock) hw1
   rw [hW2] at g1 g2 g3 g4 g5
   have hr2 := g3 hrl
   have hb2 : W2.heap[b]? = some (.map es clock) := (g5 b om).trans hb1
   obtain ⟨m1, m2⟩ := mem_left he
   obtain ⟨x, hx⟩ : ∃ x : Ky, e.key = jS x := by
    have : e.key ∈ ks.map jS := by rw [← hk]; exact List.mem_map.2 ⟨e, m1, rfl⟩
    obtain ⟨x, _, q⟩ := List.mem_map.1 this
    exact ⟨x, q.symm⟩
   have hen := run_entry_at (P := Tryz.prog) W2 W.heap.size b clock seen es clock e hr2 hb2 m1 hnd
   have hJ2 : J ss W2 := hJ ss wr W2 (some W.heap.size) hJs g1 g2 (fun r q => by cases q; exact ⟨Nat.le_refl _, _, hr1, rfl⟩)
   have hlen := hC.len
   have hC2 := hC.step hnd he hx
   have hlt := Kt he
   rw [hx] at hen ⊢
   have hJ3 : J ss (W2.alloc (.cells #[.int .i64 x.1, .int .i64 x.2.1, .int .i64 x.2.2] 44)) := hJ ss W2 _ none hJ2 (World.grownBy_alloc W2 _ none) (Nat.le_refl _) (fun r q => by cases q)
   have k3 : KeepsWalks W2 (W2.alloc (.cells #[.int .i64 x.1, .int .i64 x.2.1, .int .i64 x.2.2] 44)) := KeepsWalks.alloc _ _
   obtain ⟨fn, tmps, assign, body, hy, hR⟩ := hY ss x _ hJ3 om
   have hsz : W2.heap.size = wr.heap.size := g4
   clear hW2
   gi_wp2
   refine hR.mono ?_
   rintro e' W3 ⟨rfl, hJ4, hk4⟩
   have hk5 := k3.trans hk4
   gi_wp2
   have hb5 := hk5.same b _ hb2 rfl
   have hr5 := hk5.same _ _ hr2 rfl
   go_roundw
   case rel => exact ⟨seen.push e.born, clock, ss ++ [x], hb5, hr5, Nat.le_refl _, hC2, hJ4⟩
   case measure =>
    simp only [World.rangeLeft, hb5, hr5, hb1, hr1]
    exact hlt
end
section
open Go Go.RowKit Go.Proofs
def C1 (F : Fence) (n : Nat) (P : Program) (g : Nat) (lb : Array Value) (S : List Ky → Prop) (N : Nat) (w : World) : Prop :=
 ∀ (l : Nat) (J : List Ky → World → Prop) (W : World), Below w.heap.size w W → yK W.heap.size J →
  (∀ pre x W1, J pre W1 → pre.length < N → YieldAt F (n - 1) P l #[jS x] W1 fun e W' => e = .returned (.bool true) ∧ J (pre ++ [x]) W' ∧ KeepsWalks W1 W') →
  J [] W →
  CallsIn F n P g (#[.func (.yield l) #[] #[]] ++ lb) W fun e W' => (∃ v, e = .returned v) ∧ ∃ xs, S xs ∧ J xs W'
def Nt : Code := (Code.region 2 #[{ dst := some 5, op := Op.alloc 44, type := 0, pos := "iter.go:51", after := #[], guard := none }, { dst := none, op := Op.store 44 (Operand.tmp 5) (Operand.tmp 7), type := 0, pos := "iter.go:51", after := #[{ on := 0, ground := Ground.data }, { on := 0, ground := Ground.phase }], guard := none }] false)
def Nu : Code := (Code.block 1 (Code.region 3 #[{ dst := some 8, op := Op.load 39 (Operand.tmp 2), type := 39, pos := "iter.go:52", after := #[], guard := none }, { dst := some 9, op := Op.load 44 (Operand.tmp 5), type := 44, pos := "iter.go:52", after := #[], guard := none }, { dst := some 10, op := Op.buildSlice 39 1 #[(0, Operand.tmp 9)], type := 39, pos := "iter.go:52", after := #[{ on := 1, ground := Ground.data }], guard := none }, { dst := some 11, op := Op.call { callee := Callee.builtin Builtin.append, args := #[Operand.tmp 8, Operand.tmp 10], argTypes := #[39, 39] }, type := 39, pos := "iter.go:52", after := #[{ on := 0, ground := Ground.data }, { on := 2, ground := Ground.data }], guard := none }, { dst := none, op := Op.store 39 (Operand.tmp 2) (Operand.tmp 11), type := 0, pos := "iter.go:52", after := #[{ on := 3, ground := Ground.data }, { on := 3, ground := Ground.chain }, { on := 0, ground := Ground.phase }, { on := 1, ground := Ground.phase }, { on := 2, ground := Ground.phase }, { on := 3, ground := Ground.phase }], guard := none }] false))
def uF (fn : FuncId) (sv : Value) (Bs D : Nat) (st : LoopState) (pend : Option Code) : Loop :=
 { state := st, pending := pend, fn, tmps := #[.slice none 0 0, sv, .pointer (some ⟨Bs, 0, none⟩), undef, .slice none 0 0, undef, sv, undef, undef, undef, undef, undef, undef], params := #[7], assign := Nt, body := Nu, defers := D }
structure PW (w0 : World) (fn : FuncId) (sv : Value) (Bs l D : Nat) (ss : List Ky) (W : World) : Prop where
 box : ∃ v, W.heap[Bs]? = some (.cells #[v] 39 (0, 0)) ∧ W.ownsRow w0.heap.size 44 3 v ss.length (ss.flatMap jR) ∧ (v = .slice none 0 0 ↔ ss = [])
 L : W.heap[l]? = some (.loop (uF fn sv Bs D .ready none))
 K : W.heap[D]? = some (.deferred (some []))
 below : Below w0.heap.size w0 W
 drawn : w0.drawn ≤ W.drawn
theorem s8 {W W' : World} {row : Option Nat} {base : Nat} {e : TypeId} {size : Nat} {v : Value} {k : Nat} {xs : List Value} (h : W.ownsRow base e size v k xs) (hg : W.grownBy W' row)
    (hrow : ∀ r, row = some r → ∃ o : Obj, W.heap[r]? = some o ∧ o.isWalk = true) : W'.ownsRow base e size v k xs := by
 refine h.kept hg ?_
 rcases h.2 with ⟨rfl, _⟩ | ⟨g, cap, cur, rfl, _, hgb, _⟩
 ·exact .inl rfl
 ·refine .inr fun e' => ?_
  obtain ⟨o, ho, hw⟩ := hrow g (by simpa [Value.ownBlock] using e'.symm)
  rw [hgb] at ho; cases ho; cases hw
theorem uG (w0 : World) (fn : FuncId) (sv : Value) (Bs l D B : Nat) (hB : w0.heap.size ≤ B) : yK B (PW w0 fn sv Bs l D) := fun s W W' row h hg hd hrow => by
 have hrow' : ∀ r, row = some r → ∃ o : Obj, W.heap[r]? = some o ∧ o.isWalk = true := fun r e => (hrow r e).2
 obtain ⟨v, hv, hr, hn⟩ := h.box
 exact ⟨⟨v, (grownBy_keeps hg hrow' hv rfl).trans hv, s8 hr hg hrow', hn⟩, (grownBy_keeps hg hrow' h.L rfl).trans h.L, (grownBy_keeps hg hrow' h.K rfl).trans h.K,
  h.below.grown hg h.below.size (fun k e => Nat.le_trans hB (hrow k e).1), Nat.le_trans h.drawn hd⟩
theorem gK (W : World) (l : Nat) (o : Obj) : W.grownBy (W.putObj l o) (some l) :=
 ⟨rfl, rfl, rfl, by simp, fun k _ hk => World.putObj_heap_other (fun e => hk (by rw [e]))⟩
theorem AR (W : World) (b : Nat) (v : Value) : W.grownBy (W.setCell ⟨b, 0, none⟩ v) (some b) :=
 ⟨rfl, rfl, rfl, (KeepsWalks.setCell W _ v).size, fun k _ hk => Below.heap_setCell _ _ _ k (fun e => hk (by rw [e]))⟩
theorem fM {W : World} {base : Nat} {e : TypeId} {size : Nat} {v : Value} {k : Nat} {xs : List Value} (h : W.ownsRow base e size v k xs) {j : Nat} {o : Obj} (hj : W.heap[j]? = some o) (hno : ∀ cur, o ≠ .cells cur e (0, 0)) :
    v.ownBlock = none ∨ v.ownBlock ≠ some j := by
 rcases h.2 with ⟨rfl, _⟩ | ⟨g, cap, cur, rfl, _, hgb, _⟩
 ·exact .inl rfl
 ·refine .inr fun e' => ?_
  have : g = j := by simpa [Value.ownBlock] using e'
  subst this; rw [hgb] at hj; cases hj; exact hno cur rfl
theorem qX {W : World} {B : Nat} {v : Value} {t : TypeId} (h : W.heap[B]? = some (.cells #[v] t (0, 0))) : W.cell? ⟨B, 0, none⟩ = some v ∧ W.frozen? ⟨B, 0, none⟩ = false := by
 constructor <;> simp [World.cell?, World.frozen?, h]
theorem Fo {W : World} {B : Nat} {v : Value} {t : TypeId} (v' : Value) (h : W.heap[B]? = some (.cells #[v] t (0, 0))) : (W.setCell ⟨B, 0, none⟩ v').heap[B]? = some (.cells #[v'] t (0, 0)) := by
 obtain ⟨hlt, hk⟩ := Array.getElem?_eq_some_iff.1 h
 show (W.heap.modify B _)[B]? = _
 rw [Array.getElem?_eq_getElem (by rw [Array.size_modify]; exact hlt), Array.getElem_modify_self, hk]
 rfl
theorem AS {W : World} {base : Nat} {e : TypeId} {size : Nat} {v : Value} {k : Nat} {xs : List Value} (h : W.ownsRow base e size v k xs) : ∀ (j : Nat) (o : Obj), v.ownBlock = some j → W.heap[j]? = some o → o.isWalk = false := by
 intro j o hj ho
 rcases h.2 with ⟨rfl, _⟩ | ⟨g, cap, cur, rfl, _, hgb, _⟩
 ·simp [Value.ownBlock] at hj
 ·have : g = j := by simpa [Value.ownBlock] using hj
  subst this; rw [hgb] at ho; cases ho; rfl
theorem AU (x : Ky) : ∀ u ∈ jR x, u.oneCell' = true := fun u hu => by
 simp only [jR, List.mem_cons, List.not_mem_nil, or_false] at hu
 rcases hu with rfl | rfl | rfl <;> rfl
theorem C2 (W : World) (x : Ky) (t : TypeId) (j : Nat) (u : Value) (h : (jR x)[j]? = some u) : (W.alloc (.cells #[.int .i64 x.1, .int .i64 x.2.1, .int .i64 x.2.2] t)).cell? ((⟨W.heap.size, 0, none⟩ : Addr).add j) = some u := by
 have ha : (⟨W.heap.size, 0, none⟩ : Addr).add j = ⟨W.heap.size, 0 + j, none⟩ := by unfold Addr.add; split <;> simp_all
 rw [ha]
 unfold World.cell?
 rw [World.alloc_heap_new W _]
 match j, h with
 | 0, h => cases h; rfl
 | 1, h => cases h; rfl
 | 2, h => cases h; rfl
 | j + 3, h => simp [jR] at h
set_option maxRecDepth 100000 in
set_option maxHeartbeats 4000000 in
theorem Fp (F : Fence) (m : Nat) (w0 : World) (fn : FuncId) (hfn : F.fn fn) (sv : Value) (Bs l D : Nat) (hBl : Bs ≠ l) (hDl : D ≠ l) (hDB : D ≠ Bs) (h0B : w0.heap.size ≤ Bs) (h0l : w0.heap.size ≤ l)
    (N : Nat) (hN : N ≤ maxLen) (hNb : N * 24 ≤ 140737488355328) (ss : List Ky) (x : Ky) (W : World) (h : PW w0 fn sv Bs l D ss W) (hlen : ss.length < N) :
    YieldAt F m Tryz.prog l #[jS x] W fun e W' => e = .returned (.bool true) ∧ PW w0 fn sv Bs l D (ss ++ [x]) W' ∧ KeepsWalks W W' := by
 have i44 : (Tryz.prog.info? 44).map (fun i => (i.zero, i.size, i.bytes)) = some (some (.agg #[.int .i64 0, .int .i64 0, .int .i64 0]), 3, 24) := by kernel_rfl
 obtain ⟨i0, hi, hz0, hz1, hz2⟩ := info_parts i44
 refine ⟨fn, #[.slice none 0 0, sv, .pointer (some ⟨Bs, 0, none⟩), undef, .slice none 0 0, undef, sv, jS x, undef, undef, undef, undef, undef], Nt, Nu, by simpa [uF] using run_yield (P := Tryz.prog) (args := #[jS x]) h.L rfl, roundIn_of_wpIn hfn ?_⟩
 obtain ⟨W1, hW1⟩ : ∃ W1, W.alloc (.cells #[.int .i64 x.1, .int .i64 x.2.1, .int .i64 x.2.2] 44) = W1 := ⟨_, rfl⟩
 have hg1 : W.grownBy W1 none := by rw [← hW1]; exact World.grownBy_alloc W _ none
 have hk1 : KeepsWalks W W1 := by rw [← hW1]; exact KeepsWalks.alloc _ _
 have hd1 : W.drawn = W1.drawn := by rw [← hW1]; rfl
 have hx1 : W1.heap[W.heap.size]? = some (.cells #[.int .i64 x.1, .int .i64 x.2.1, .int .i64 x.2.2] 44 (0, 0)) := by rw [← hW1]; exact World.alloc_heap_new W _
 have hlW : l < W.heap.size := (Array.getElem?_eq_some_iff.1 h.L).1
 replace h := uG w0 fn sv Bs l D _ (Nat.le_refl _) ss W W1 none h hg1 (Nat.le_of_eq hd1) (fun r q => by cases q)
 obtain ⟨v, hv, hrow, _⟩ := h.box
 unfold Nt
 gi_wp2_with (rw [Oper.semAt_eq _ _ _ (fun c h => by cases h)]; go_simp; try go_bits)
 try rw [hW1]
 have hl : l < W1.heap.size := (Array.getElem?_eq_some_iff.1 h.L).1
 refine ⟨_, run_beginRound (P := Tryz.prog) h.L rfl, ?_⟩
 obtain ⟨W2, hW2⟩ : ∃ W2, W1.putObj l (.loop { uF fn sv Bs D .ready none with state := .busy }) = W2 := ⟨_, rfl⟩
 rw [hW2]
 have hg2 : W1.grownBy W2 (some l) := by rw [← hW2]; exact gK _ _ _
 have hk2 : KeepsWalks W1 W2 := by rw [← hW2]; exact KeepsWalks.putObj _ h.L rfl
 have hd2 : W1.drawn = W2.drawn := by rw [← hW2]; rfl
 have hv2 : W2.heap[Bs]? = some (.cells #[v] 39 (0, 0)) := by rw [← hW2]; exact (World.putObj_heap_other hBl).trans hv
 have hK2 : W2.heap[D]? = some (.deferred (some [])) := by rw [← hW2]; exact (World.putObj_heap_other hDl).trans h.K
 have hL2 : W2.heap[l]? = some (.loop { uF fn sv Bs D .ready none with state := .busy }) := by rw [← hW2]; exact World.putObj_heap_same hl
 have hx2 : W2.heap[W.heap.size]? = some (.cells #[.int .i64 x.1, .int .i64 x.2.1, .int .i64 x.2.2] 44 (0, 0)) := by rw [← hW2]; exact (World.putObj_heap_other om).trans hx1
 have hrow2 : W2.ownsRow w0.heap.size 44 3 v ss.length (ss.flatMap jR) := hrow.kept hg2 (fM hrow h.L (fun cur e => by cases e))
 have hb2 : Below w0.heap.size w0 W2 := h.below.grown hg2 h.below.size (fun k e => by cases e; exact h0l)
 obtain ⟨hc2, hf2⟩ := qX hv2
 have hx20 : W2.cell? ⟨W.heap.size, 0, none⟩ = some (.int .i64 x.1) := by simp [World.cell?, hx2]
 have hx21 : W2.cell? ⟨W.heap.size, 1, none⟩ = some (.int .i64 x.2.1) := by simp [World.cell?, hx2]
 have hx22 : W2.cell? ⟨W.heap.size, 2, none⟩ = some (.int .i64 x.2.2) := by simp [World.cell?, hx2]
 have hBlt : Bs < W2.heap.size := (Array.getElem?_eq_some_iff.1 hv2).1
 have hl2 : l < W2.heap.size := (Array.getElem?_eq_some_iff.1 hL2).1
 have hDlt : D < W2.heap.size := (Array.getElem?_eq_some_iff.1 hK2).1
 have ne_of : ∀ {j : Nat} {o : Obj}, W2.heap[j]? = some o → (∀ cur, o ≠ .cells cur 44 (0, 0)) → some j ≠ v.ownBlock := fun hj hno => by
  rcases fM hrow2 hj hno with e | e
  ·rw [e]; simp
  ·exact fun e' => e e'.symm
 have hs1 : W.heap.size < W2.heap.size := (Array.getElem?_eq_some_iff.1 hx2).1
 have hd02 : w0.drawn ≤ W2.drawn := by have := h.drawn; omega
 clear hW2 hW1
 unfold Nu
 gi_wp2_with (first
  | (gi_at_builtin; refine oH _ rfl _ _ 39 rfl w0.heap.size 44 i0 (.agg #[.int .i64 0, .int .i64 0, .int .i64 0]) 3 24 Tryz.underlying39 hi hz0 hz1 hz2 rfl dc _ _ _ rfl (hrow2.alloc _) ⟨W2.heap.size, 0, none⟩ 1 1 (jR x) rfl rfl (C2 W2 x _) (AU x) om om (by have := hb2.size; simp; omega) ?_; intro v' w3 hown' hg3 hnil3 hd3
     have hv3 : w3.heap[Bs]? = some (.cells #[v] 39 (0, 0)) := (hg3.block Bs (by simp; omega) (ne_of hv2 (fun cur e => by cases e))).trans ((Below.heap_alloc _ _ Bs hBlt).trans hv2)
     obtain ⟨hc3, hf3⟩ := qX hv3
     obtain ⟨g', cap', cur', rfl, hbase', hgb', hr1, hr2, hr3, hr4⟩ : ∃ g' cap' cur', v' = .slice (some ⟨g', 0, none⟩) (ss.length + 1) cap' ∧ w0.heap.size ≤ g' ∧ w3.heap[g']? = some (.cells cur' 44 (0, 0)) ∧ ss.length + 1 ≤ cap' ∧ cap' ≤ maxLen ∧ cur'.size = cap' * 3 ∧ cur'.toList.take ((ss.length + 1) * 3) = ss.flatMap jR ++ jR x := by
      rcases hown'.2 with ⟨_, h0⟩ | h'
      ·exact absurd h0 om
      ·exact h'
     go_frame)
  | (rw [Oper.semAt_eq _ _ _ (fun c h => by cases h)]; go_simp; try go_bits))
 have hg3' : (W2.alloc (.cells #[.int .i64 x.1, .int .i64 x.2.1, .int .i64 x.2.2] 44)).grownBy w3 v.ownBlock := hg3
 have hd3' : W2.drawn ≤ w3.drawn := hd3
 have hL3 : w3.heap[l]? = some (.loop { uF fn sv Bs D .ready none with state := .busy }) := (hg3'.block l (by simp; omega) (ne_of hL2 (fun cur e => by cases e))).trans ((Below.heap_alloc _ _ l hl2).trans hL2)
 have hK3 : w3.heap[D]? = some (.deferred (some [])) := (hg3'.block D (by simp; omega) (ne_of hK2 (fun cur e => by cases e))).trans ((Below.heap_alloc _ _ D hDlt).trans hK2)
 obtain ⟨w4, hw4⟩ : ∃ w4, w3.setCell ⟨Bs, 0, none⟩ (.slice (some ⟨g', 0, none⟩) (ss.length + 1) cap') = w4 := ⟨_, rfl⟩
 rw [hw4]
 have hg4 : w3.grownBy w4 (some Bs) := by rw [← hw4]; exact AR _ _ _
 have hd4 : w3.drawn = w4.drawn := by rw [← hw4]; rfl
 have hv4 : w4.heap[Bs]? = some (.cells #[.slice (some ⟨g', 0, none⟩) (ss.length + 1) cap'] 39 (0, 0)) := by rw [← hw4]; exact Fo _ hv3
 have hL4 : w4.heap[l]? = some (.loop { uF fn sv Bs D .ready none with state := .busy }) := (hg4.block l (Array.getElem?_eq_some_iff.1 hL3).1 (fun e => hBl (by cases e; rfl))).trans hL3
 have hK4 : w4.heap[D]? = some (.deferred (some [])) := (hg4.block D (Array.getElem?_eq_some_iff.1 hK3).1 (fun e => hDB (by cases e; rfl))).trans hK3
 have hrow4 := hown'.kept hg4 (fM hown' hv3 (fun cur e => by cases e))
 have hl4 : l < w4.heap.size := (Array.getElem?_eq_some_iff.1 hL4).1
 have hb3 : Below w0.heap.size w0 w3 := (hb2.alloc hb2.size _).grown hg3' (by have := hb2.size; simp; omega) (fun k e => (hrow2.lt k e).1)
 have hb4 : Below w0.heap.size w0 w4 := hb3.grown hg4 hb3.size (fun k e => by cases e; exact h0B)
 have hk4 : KeepsWalks W w4 := ((hk1.trans hk2).trans (KeepsWalks.alloc _ _)).trans ((KeepsWalks.of_grownBy hg3' (AS (hrow2.alloc _))).trans (by rw [← hw4]; exact KeepsWalks.setCell _ _ _))
 clear hw4
 refine ⟨_, _, run_endRound none hL4, rfl, ⟨⟨_, (World.putObj_heap_other hBl).trans hv4, ?_, by simp⟩, World.putObj_heap_same hl4, (World.putObj_heap_other hDl).trans hK4, hb4.grown (gK _ _ _) hb4.size (fun k e => by cases e; exact h0l), ?_⟩, hk4.trans (KeepsWalks.putObj _ hL4 rfl)⟩
 ·have := hrow4.kept (gK w4 l (.loop { { uF fn sv Bs D .ready none with state := .busy } with state := if (none : Option Code).isNone then .ready else .done, pending := none })) (fM hrow4 hL4 (fun cur e => by cases e))
  simpa using this
 ·show w0.drawn ≤ w4.drawn
  omega
set_option maxRecDepth 100000 in
set_option maxHeartbeats 2000000 in
theorem wx (F : Fence) (n : Nat) (h11 : F.fn 114) (hro : F.round = none) (hn : 2 ≤ n) (g : Nat) (lb : Array Value) (hFg : F.fn g) (eg : ∀ args w, (callFunc g args).run Tryz.prog w = .ok (.enter g args) w)
    (S : List Ky → Prop) (N : Nat) (hN : N ≤ maxLen) (hNb : N * 24 ≤ 140737488355328) (w : World) (hseq : C1 F (n - 1) Tryz.prog g lb S N w) :
    CallsIn F n Tryz.prog 114 #[.slice none 0 0, .func (.func g) #[] lb] w fun e w' => ∃ (v : Value) (ss : List Ky), e = .returned v ∧ S ss ∧ w'.ownsRow w.heap.size 44 3 v ss.length (ss.flatMap jR) ∧ (v = .slice none 0 0 ↔ ss = []) ∧ Below w.heap.size w w' ∧ w.drawn ≤ w'.drawn := by
 have h1 : 1 ≤ n := by omega
 refine callsIn_of_wp_marks Tryz.func114 rfl h11 ?_ hro
 simp only [Tryz.ntmps114, List.size_toArray, List.length_cons, List.length_nil, Nat.reduceAdd, Nat.reduceSub, Array.replicate_succ, Array.replicate_zero, List.push_toArray, List.append_toArray, List.nil_append, List.cons_append]
 gi_wp2
 refine wpIn_rangeFunc ?_
 intro fn hfn
 rw [hro]
 obtain ⟨W0, hW0⟩ : ∃ W0, w.alloc (.cells #[.slice none 0 0] 39) = W0 := ⟨_, rfl⟩
 have hs0 : W0.heap.size = w.heap.size + 1 := by rw [← hW0]; simp
 have hd0 : w.drawn = W0.drawn := by rw [← hW0]; rfl
 have hv0 : W0.heap[w.heap.size]? = some (.cells #[.slice none 0 0] 39 (0, 0)) := by rw [← hW0]; exact World.alloc_heap_new w _
 have hb0 : Below w.heap.size w W0 := by rw [← hW0]; exact (Below.refl _ w).alloc (Nat.le_refl _) _
 rw [hW0]
 obtain ⟨W1, hW1⟩ : ∃ W1, (W0.alloc (.deferred (some []))).alloc (.loop (uF fn (.func (.func g) #[] lb) w.heap.size W0.heap.size .ready none)) = W1 := ⟨_, rfl⟩
 have hold : ∀ k, k < W0.heap.size → W1.heap[k]? = W0.heap[k]? := fun k hk => by
  rw [← hW1]; exact (Below.heap_alloc _ _ k (by simp; omega)).trans (Below.heap_alloc _ _ k hk)
 have hb1 : Below w.heap.size w W1 := by rw [← hW1]; exact (hb0.alloc hb0.size _).alloc (by have := hb0.size; simp; omega) _
 have hs1 : W1.heap.size = W0.heap.size + 2 := by rw [← hW1]; simp
 have hd1 : W0.drawn = W1.drawn := by rw [← hW1]; rfl
 have hM : PW w fn (.func (.func g) #[] lb) w.heap.size (W0.heap.size + 1) W0.heap.size [] W1 :=
  ⟨⟨_, (hold w.heap.size om).trans hv0, ⟨rfl, .inl ⟨rfl, rfl⟩⟩, by simp⟩,
   by rw [← hW1]; have := World.alloc_heap_new (W0.alloc (.deferred (some []))) (.loop (uF fn (.func (.func g) #[] lb) w.heap.size W0.heap.size .ready none)); rwa [World.size_alloc] at this,
   by rw [← hW1]; exact (Below.heap_alloc _ _ _ (by simp)).trans (World.alloc_heap_new W0 _), hb1, om⟩
 refine ⟨W0.heap.size + 1, [{ target := .collected W0.heap.size, args := #[] }], W1, { target := .fn (.func g) lb, args := #[.func (.yield (W0.heap.size + 1)) #[] #[]] }, W1, g,
  #[.func (.yield (W0.heap.size + 1)) #[] #[]] ++ lb, W1, ?_, ?_, ?_, ?_, fun _ => h1, ?_⟩
 ·rw [← hW1]; exact run_enterLoop_outer _ _ _ _ _
 ·simp [resolve, go_sem]
 ·intro f' hf'; simp [Target.leads] at hf'; subst hf'; exact hFg
 ·simp [invoke, go_sem, eg]
 ·refine (hseq (W0.heap.size + 1) (PW w fn (.func (.func g) #[] lb) w.heap.size (W0.heap.size + 1) W0.heap.size) W1 hb1 (uG _ _ _ _ _ _ _ hb1.size)
    (fun pre x W hJ hl => Fp F (n - 1 - 1) w fn hfn _ w.heap.size (W0.heap.size + 1) W0.heap.size om om om (Nat.le_refl _) om N hN hNb pre x W hJ hl) hM).mono ?_
  rintro e W2 ⟨⟨v0, rfl⟩, ss, hS, h2⟩
  obtain ⟨v, hv, hrow, hnil⟩ := h2.box
  have hd2 := h2.drawn
  have hend := run_endLoop (P := Tryz.prog) h2.L (by simp [uF])
  obtain ⟨W3, hW3⟩ : ∃ W3, W2.putObj (W0.heap.size + 1) (.loop { uF fn (.func (.func g) #[] lb) w.heap.size W0.heap.size .ready none with state := .exhausted }) = W3 := ⟨_, rfl⟩
  rw [hW3] at hend
  have hg3 : W2.grownBy W3 (some (W0.heap.size + 1)) := by rw [← hW3]; exact gK _ _ _
  have hd3 : W2.drawn = W3.drawn := by rw [← hW3]; rfl
  have hv3 : W3.heap[w.heap.size]? = some (.cells #[v] 39 (0, 0)) := by rw [← hW3]; exact (World.putObj_heap_other om).trans hv
  have hK3 : W3.heap[W0.heap.size]? = some (.deferred (some [])) := by rw [← hW3]; exact (World.putObj_heap_other om).trans h2.K
  have hrow3 := hrow.kept hg3 (fM hrow h2.L (fun cur e => by cases e))
  have hb3 : Below w.heap.size w W3 := h2.below.grown hg3 h2.below.size (fun k e => by cases e; omega)
  obtain ⟨hc3, hf3⟩ := qX hv3
  clear hW3
  refine ⟨none, W3, hend, ?_⟩
  gi_wp2
  rw [← hs0]
  refine ⟨by simp, .inl ⟨_, _, rfl, run_takeDeferred hK3, ?_⟩⟩
  exact ⟨_, results_tmp rfl _ _ _, v, ss, rfl, hS, hrow3.kept (gK _ _ _) (fM hrow3 hK3 (fun cur e => by cases e)), hnil, hb3.grown (gK _ _ _) hb3.size (fun k e => by cases e; omega), by show w.drawn ≤ W3.drawn; omega⟩
end
end Go.Proofs.YtgaihilgffficaaGreatDoor.Ev
