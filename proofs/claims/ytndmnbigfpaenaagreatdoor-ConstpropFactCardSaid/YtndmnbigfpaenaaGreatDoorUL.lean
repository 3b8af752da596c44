/- From the form of the statement to the walk: what the listed variables give, how a unit is read, what the end asks. -/
import Derived.Test.YtndmnbigfpaenaaGreatDoorCards
import Derived.Test.YtndmnbigfpaenaaGreatDoorTie
import Derived.Test.YtndmnbigfpaenaaGreatDoorUA
import Derived.Test.YtndmnbigfpaenaaGreatDoorKn
import Derived.ProofKit
import Derived.OpenShut
import Derived.Deep.DeepHandedRow
import Derived.Lib.LaidTab
import Derived.Deep.Slices
import Derived.SizedLaws
set_option linter.unusedVariables false
set_option linter.unusedSimpArgs false
namespace Go.Proofs.YtndmnbigfpaenaaGreatDoor
open Go.ChangeShapes Go.WideShapes Go.ChangeAt Go.RowKit Go.Deep

theorem own : ownKnob Tryz.prog.godebug = none := by kernel_rfl
theorem laidOut : laidOutB Tryz.prog = true := by kernel_rfl
/-- an array of strings that reads as a list of strings holds them, cell for cell -/
theorem cells_of_strs {H : Type} {enc : TypeId × Value → H} {P : Program} {w : World} {base : Nat} {sp : Nat → Bool} {held : Bool} {fuel : Nat} {t e : TypeId} {n : Nat} {cs : List Value} {zs : List (List UInt8)} {p : List MemPlace}
    (ht : P.underlying t = some (.array n e)) (he : P.underlying e = some .string) (hce : P.cellsOf e = 1) (hct : P.cellsOf t = n)
    (h : DataW.trod enc P w base sp held fuel t cs = some (.agg (zs.map fun z => .lit (.string z)), p)) : cs = zs.map fun z => Value.string ⟨z.toArray⟩ := by
  cases fuel with
  | zero => simp [DataW.trod] at h
  | succ fuel =>
    simp only [DataW.trod, ht, hce, hct, Nat.mul_one] at h
    split at h
    · rename_i hl
      obtain ⟨xs, hm, hx⟩ := Option.map_eq_some_iff.1 h
      have hxs : xs.map (·.1) = zs.map fun z => (DataW.lit (.string z) : DataW H) := by
        have := congrArg Prod.fst hx
        simpa using this
      have hxl : xs.length = n := by simpa using Lib.mapM_length hm
      have hzl : zs.length = n := by
        have := congrArg List.length hxs
        simp at this
        omega
      apply List.ext_getElem?
      intro i
      by_cases hi : i < n
      · obtain ⟨b, hb, hf⟩ := Lib.mapM_at hm i i (by simp [hi])
        obtain ⟨z, hc, rfl, _⟩ := DataW.trod_string he hf
        have h1 : cs[i]? = some (.string z) := by
          have := congrArg (·[0]?) hc
          simpa [List.getElem?_take, List.getElem?_drop] using this
        have h2 : (xs.map (·.1))[i]? = some (DataW.lit (.string z.data.toList) : DataW H) := by simp [hb]
        rw [hxs] at h2
        simp only [List.getElem?_map, Option.map_eq_some_iff, DataW.lit.injEq, Lit.string.injEq] at h2
        obtain ⟨z', hz', rfl⟩ := h2
        simp [h1, hz']
      · rw [List.getElem?_eq_none (by omega), List.getElem?_eq_none (by simp; omega)]
    · cases h

section
variable {H : Type} {enc : TypeId × Value → H} {w : World} {base : Nat} {spare : Nat → Bool} {held : Bool}
theorem int_bounds {n : Int} (h : (Lit.int .i64 n).wf = true) : -9223372036854775808 ≤ n ∧ n ≤ 9223372036854775807 := by
  simpa [Lit.wf, IntKind.min, IntKind.max, IntKind.signed, IntKind.bits] using h
theorem cellsStr : Tryz.prog.cellsOf 9 = 1 := by kernel_rfl
theorem cellsInt : Tryz.prog.cellsOf 3 = 1 := by kernel_rfl
theorem cellsBool : Tryz.prog.cellsOf 4 = 1 := by kernel_rfl
theorem cellsFields : Tryz.prog.cellsOf 31 = 1 := by kernel_rfl
theorem cellsInstrs : Tryz.prog.cellsOf 32 = 1 := by kernel_rfl
theorem cellsFns : Tryz.prog.cellsOf 25 = 1 := by kernel_rfl
theorem cellsDecls : Tryz.prog.cellsOf 22 = 1 := by kernel_rfl
theorem cellsHier : Tryz.prog.cellsOf 24 = 1 := by kernel_rfl
theorem cellsFn : Tryz.prog.cellsOf 34 = 7 := by kernel_rfl
theorem cellsUnit : Tryz.prog.cellsOf 27 = 3 := by kernel_rfl
theorem bytesField : Tryz.prog.bytesOf 77 = 32 := by kernel_rfl
/-- a slice's header -/
theorem open_head {t e : TypeId} (ht : Tryz.prog.underlying t = some (.slice e)) {n : Nat} {cs : List Value} {y : DataW H × List MemPlace} (h : DataW.trod enc Tryz.prog w base spare held n t cs = some y) :
    ∃ a k cp, cs = [.slice a k cp] ∧ ((y.1 = .nil ∧ k = 0) ∨ ∃ es sp, y.1 = .slice es sp ∧ es.length = k) := by
  rcases open_slice ht h with ⟨rfl, rfl⟩ | ⟨a, len, cap, m, n', D, Q, rfl, hb, hl, hm, hmm, rfl, hi⟩
  · exact ⟨none, 0, 0, rfl, Or.inl ⟨rfl, rfl⟩⟩
  · exact ⟨some a, len, cap, rfl, Or.inr ⟨_, _, rfl, by simp⟩⟩
theorem list7 {α : Type} : ∀ {l : List α}, l.length = 7 → ∃ a b c d e f g, l = [a, b, c, d, e, f, g]
  | [a, b, c, d, e, f, g], _ => ⟨a, b, c, d, e, f, g, rfl⟩
/-- a function -/
theorem open_fn {n : Nat} {cs : List Value} {y : DataW H × List MemPlace} (h : DataW.trod enc Tryz.prog w base spare held n 34 cs = some y) :
    ∃ (x : Fn) (d0 d1 d2 d3 d4 d5 d6 : DataW H), cs = x.cells ∧ y.1 = .agg [d0, d1, d2, d3, d4, d5, d6] ∧ ((d4 = .nil ∧ x.vn = 0) ∨ ∃ es sp, d4 = .slice es sp ∧ es.length = x.vn) := by
  obtain ⟨xs, m, _, hx, hl, hxl, hf⟩ := DataW.trod_struct Tryz.underlying34 h
  rw [cellsFn] at hl
  obtain ⟨c0, c1, c2, c3, c4, c5, c6, rfl⟩ := list7 hl
  obtain ⟨x0, x1, x2, x3, x4, x5, x6, rfl⟩ := list7 (show xs.length = 7 from hxl)
  · skip
    have h0 := hf 0 _ rfl
    have h1 := hf 1 _ rfl
    have h2 := hf 2 _ rfl
    have h3 := hf 3 _ rfl
    have h4 := hf 4 _ rfl
    have h5 := hf 5 _ rfl
    have h6 := hf 6 _ rfl
    simp [cellsStr, cellsInt, cellsBool, cellsFields, cellsInstrs] at h0 h1 h2 h3 h4 h5 h6
    obtain ⟨s0, e0, r0, _⟩ := DataW.trod_string Tryz.underlying9 h0
    obtain ⟨s1, e1, r1, _⟩ := DataW.trod_string Tryz.underlying9 h1
    obtain ⟨b2, e2, r2⟩ := DataW.trod_bool Tryz.underlying4 h2
    obtain ⟨k3, e3, r3, _⟩ := DataW.trod_int Tryz.underlying3 h3
    obtain ⟨a4, n4, p4, e4, r4⟩ := open_head Tryz.underlying31 h4
    obtain ⟨s5, e5, r5, _⟩ := DataW.trod_string Tryz.underlying9 h5
    obtain ⟨a6, n6, p6, e6, r6⟩ := open_head Tryz.underlying32 h6
    simp only [List.cons.injEq, and_true] at e0 e1 e2 e3 e4 e5 e6
    subst e0 e1 e2 e3 e4 e5 e6
    exact ⟨⟨s0, s1, b2, k3, a4, n4, p4, s5, a6, n6, p6⟩, x0.1, x1.1, x2.1, x3.1, x4.1, x5.1, x6.1, rfl, by rw [hx]; rfl, r4⟩
theorem fn_weights {x : Fn} {d0 d1 d2 d3 d4 d5 d6 : DataW H} (h : ∀ n ∈ DataW.weights Tryz.prog 34 (DataW.agg [d0, d1, d2, d3, d4, d5, d6]), n ≤ reachBytes)
    (hr : (d4 = .nil ∧ x.vn = 0) ∨ ∃ es sp, d4 = .slice es sp ∧ es.length = x.vn) : x.vn ≤ 140737488355328 := by
  rcases hr with ⟨_, e⟩ | ⟨es, sp, rfl, e⟩
  · omega
  · have := h ((es.length + sp.length) * Tryz.prog.bytesOf 77) (by
      simp only [DataW.weights, DataW.weightsEach, Tryz.underlying34, Tryz.underlying31, List.map, List.mem_append, List.mem_cons]
      simp)
    rw [bytesField] at this
    unfold reachBytes at this
    omega
theorem weightsAll_mem {P : Program} {e : TypeId} {d : DataW H} : ∀ {ds : List (DataW H)}, d ∈ ds → ∀ n ∈ DataW.weights P e d, n ∈ DataW.weightsAll P e ds
  | x :: ds, h, n, hn => by
    rw [DataW.weightsAll, List.mem_append]
    rcases List.mem_cons.1 h with rfl | h
    · exact Or.inl hn
    · exact Or.inr (weightsAll_mem h n hn)
/-- a slice of functions -/
theorem open_fns {n : Nat} {cs : List Value} {y : DataW H × List MemPlace} (h : DataW.trod enc Tryz.prog w 0 (fun _ => true) held n 25 cs = some y) (hw : ∀ n ∈ DataW.weights Tryz.prog 25 y.1, n ≤ reachBytes) :
    ∃ a cp fs, cs = [.slice a fs.length cp] ∧ FnsAt w a fs ∧ (∀ x ∈ fs, x.vn ≤ 140737488355328) ∧ fs.length ≤ cp ∧ cp ≤ 140737488355328 := by
  rcases open_slice Tryz.underlying25 h with ⟨rfl, rfl⟩ | ⟨a, len, cap, m, n', D, Q, rfl, hb, hl, hm, hmm, rfl, hi⟩
  · exact ⟨none, 0, [], rfl, Or.inl rfl, by simp, by simp, by simp⟩
  · rw [if_pos rfl] at hmm
    subst hmm
    simp only [DataW.weights, Tryz.underlying25, List.mem_cons, List.mem_append, forall_eq_or_imp] at hw
    obtain ⟨hw1, hw2⟩ := hw
    rw [show Tryz.prog.bytesOf 34 = 112 from by kernel_rfl] at hw1
    simp only [List.length_map, List.length_range] at hw1
    unfold reachBytes at hw1
    have hp : ∀ i, i < len → ∃ x : Fn, w.cells? 0 (a.add (i * 7)) 7 = some x.cells ∧ x.vn ≤ 140737488355328 := fun i hil => by
      obtain ⟨cs', h1, h2⟩ := hi i (by omega)
      rw [cellsFn] at h1
      obtain ⟨x, d0, d1, d2, d3, d4, d5, d6, rfl, hd, hr⟩ := open_fn h2
      refine ⟨x, h1, fn_weights (d0 := d0) (d1 := d1) (d2 := d2) (d3 := d3) (d5 := d5) (d6 := d6) (fun n hn => ?_) hr⟩
      rw [← hd] at hn
      exact hw2 n (Or.inl (weightsAll_mem (List.mem_map.2 ⟨i, by simpa using hil, rfl⟩) n hn))
    obtain ⟨f, hf⟩ := @choose_lt Fn ⟨default⟩ len (fun i x => w.cells? 0 (a.add (i * 7)) 7 = some x.cells ∧ x.vn ≤ 140737488355328) hp
    refine ⟨some a, m, (List.range len).map f, by simp, ?_, ?_, by simp; omega, by omega⟩
    · by_cases hz : len = 0
      · left; simp [hz]
      · right
        have hc : ∀ i, i < len → ∀ j, j < 7 → w.cell? (a.add (i * 7 + j)) = (f i).cells[j]? := fun i hil j hj => by
          obtain ⟨_, _, hat⟩ := World.cells?_some (hf i hil).1
          rw [← add_add]
          exact hat j hj
        obtain ⟨b, off, spot⟩ := a
        have hs : spot = none := by
          have := hc 0 (by omega) 0 (by omega)
          simpa [Addr.add] using World.cell?_spot this
        subst hs
        have hbl : b < w.heap.size := by
          have := hc 0 (by omega) 0 (by omega)
          exact block_lt_of_cell (by simpa [Addr.add] using this)
        refine ⟨b, off, rfl, hbl, fun i hi' j hj => ?_⟩
        have hil : i < len := by simpa using hi'
        have ha : ∀ j, (⟨b, off, none⟩ : Addr).add j = ⟨b, off + j, none⟩ := fun j => by unfold Addr.add; split <;> simp_all
        have c := hc i hil j hj
        rw [ha, ← Nat.add_assoc] at c
        simp only [List.getElem_map, List.getElem_range]
        exact c
    · intro p hp'
      obtain ⟨i, hi', rfl⟩ := List.mem_map.1 hp'
      exact (hf i (by simpa using hi')).2
theorem list3 {α : Type} : ∀ {l : List α}, l.length = 3 → ∃ a b c, l = [a, b, c]
  | [a, b, c], _ => ⟨a, b, c, rfl⟩
theorem list1 {α : Type} : ∀ {l : List α}, l.length = 1 → ∃ a, l = [a]
  | [a], _ => ⟨a, rfl⟩
/-- a unit -/
theorem open_unit {n : Nat} {cs : List Value} {y : DataW H × List MemPlace} (h : DataW.trod enc Tryz.prog w 0 (fun _ => true) held n 27 cs = some y) (hw : ∀ n ∈ DataW.weights Tryz.prog 27 y.1, n ≤ reachBytes) :
    ∃ ha hn hc a cp fs m, cs = [.slice ha hn hc, .slice a fs.length cp, .int .i64 m] ∧ FnsAt w a fs ∧ (∀ x ∈ fs, x.vn ≤ 140737488355328) ∧ fs.length ≤ cp ∧ cp ≤ 140737488355328 := by
  obtain ⟨xs, m, _, hx, hl, hxl, hf⟩ := DataW.trod_struct Tryz.underlying27 h
  rw [cellsUnit] at hl
  obtain ⟨c0, c1, c2, rfl⟩ := list3 hl
  obtain ⟨x0, x1, x2, rfl⟩ := list3 (show xs.length = 3 from hxl)
  · skip
    have h0 := hf 0 _ rfl
    have h1 := hf 1 _ rfl
    have h2 := hf 2 _ rfl
    simp [cellsHier, cellsFns, cellsInt] at h0 h1 h2
    obtain ⟨ys, m', _, hx', hl', hxl', hf'⟩ := DataW.trod_struct Tryz.underlying24 h0
    obtain ⟨y0, rfl⟩ := list1 (show ys.length = 1 from hxl')
    · skip
      have h0' := hf' 0 _ rfl
      simp [cellsDecls] at h0'
      obtain ⟨a0, n0, p0, e0, _⟩ := open_head Tryz.underlying22 h0'
      obtain ⟨a1, p1, fs, e1, hA, hv, hlen, hnil⟩ := open_fns h1 (fun n hn => hw n (by
        rw [hx]
        simp only [List.map, DataW.weights, DataW.weightsEach, Tryz.underlying27, List.mem_append]
        simp [hn]))
      obtain ⟨k2, e2, r2, _⟩ := DataW.trod_int Tryz.underlying3 h2
      simp only [List.cons.injEq, and_true] at e0 e1 e2
      subst e0 e1 e2
      exact ⟨a0, n0, p0, a1, p1, fs, k2, rfl, hA, hv, hlen, hnil⟩
/-! the end of a law: true, the arguments as they were -/
theorem trodAll_below {P : Program} (hl : laidOutB P = true) {W W' : World} (hb : Below W.heap.size W W') : ∀ {ts : List TypeId} {vs : List Value} {ds : List (DataW H)} {ps : List MemPlace}, (∀ t ∈ ts, P.readableRec t = true ∧ t < P.types.size) →
    DataW.TrodAll enc P W 0 (fun _ => true) true ts vs ds ps → (∀ x ∈ ps, x.block < W.heap.size) → DataW.TrodAll enc P W' 0 (fun b => decide (b < W.heap.size)) true ts vs ds ps
  | [], vs, ds, ps, _, h, _ => by cases vs <;> cases ds <;> simp_all [DataW.TrodAll]
  | t :: ts, vs, ds, ps, ht, h, hlt => by
    obtain ⟨v, vs', d, ds', p, q, rfl, rfl, rfl, h1, h2⟩ := trodAll_cons h
    refine trodAll_cons_mk (Below.trod hl (ht t (by simp)).1 (ht t (by simp)).2 h1 hb (fun x hx => hlt x (by simp [hx]))) (trodAll_below hl hb (fun t' ht' => ht t' (by simp [ht'])) h2 (fun x hx => hlt x (by simp [hx])))
theorem law_post {fn : Func} {s : ChangeSpec} {W W' : World} {args : Array Value} {ds : List (DataW H)} {before : List MemPlace}
    (hW : DataW.Whole enc Tryz.prog fn.params.toList s.vars false W args.toList ds [] before) (hv : s.vars = []) (hres : (s.fn H (ds ++ [])).results = [.lit (.bool true)]) (hargs : (s.fn H (ds ++ [])).args = ds) (hvs : (s.fn H (ds ++ [])).vars = [])
    (hrt : fn.resultTypes = #[4]) (hp : ∀ t ∈ fn.params.toList, Tryz.prog.readableRec t = true ∧ t < Tryz.prog.types.size) (hb : Below W.heap.size W W') :
    ∃ v, Ending.returned (.bool true) = .returned v ∧ s.post enc Tryz.prog fn false true false false W args v W' := by
  obtain ⟨p, q, hA, hV, e, hfz, hnd⟩ := hW
  have hW2 : DataW.Whole enc Tryz.prog fn.params.toList s.vars false W args.toList ds [] before := ⟨p, q, hA, hV, e, hfz, hnd⟩
  have hlt : ∀ x ∈ p, x.block < W.heap.size := fun x hx => hW2.lt x (by rw [e]; simp [hx])
  refine ⟨_, rfl, ds, [], before, [], p, [], hW2, ?_, ?_, ?_, hb.frame _, fun h => by cases h⟩
  · rw [hres, hrt]
    exact trodAll_cons_mk (shut_bool Tryz.underlying4 _) trodAll_mk0
  · rw [hargs]
    exact trodAll_below laidOut hb hp hA hlt
  · rw [hvs, hv]; rfl
end

