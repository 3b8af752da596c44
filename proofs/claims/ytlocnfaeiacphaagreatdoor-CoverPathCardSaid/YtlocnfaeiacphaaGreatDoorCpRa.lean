/- From the form of the statement to the walk: how a supergraph and an execution are read. -/
import Derived.Test.YtlocnfaeiacphaaGreatDoorCpS
import Derived.Test.YtlocnfaeiacphaaGreatDoorCpQ
import Derived.Test.YtlocnfaeiacphaaGreatDoorCards
import Derived.Test.YtlocnfaeiacphaaGreatDoorTie
import Derived.ProofKit
import Derived.OpenShut
import Derived.Deep.DeepHandedRow
import Derived.Lib.LaidTab
import Derived.Deep.Slices
import Derived.SizedLaws
set_option linter.unusedVariables false
set_option linter.unusedSimpArgs false
namespace Go.Proofs.YtlocnfaeiacphaaGreatDoor
open Go.ChangeShapes Go.WideShapes Go.ChangeAt Go.RowKit Go.Deep
open Ev (AV Nd Ed Ob Flat SlIn)
theorem own : ownKnob Tryz.prog.godebug = none := by kernel_rfl
theorem laidOut : laidOutB Tryz.prog = true := by kernel_rfl
section
variable {H : Type} {enc : TypeId × Value → H} {w : World} {held : Bool}
theorem cellsInt : Tryz.prog.cellsOf 3 = 1 := by kernel_rfl
theorem cellsVals : Tryz.prog.cellsOf 36 = 1 := by kernel_rfl
theorem cellsNds : Tryz.prog.cellsOf 22 = 1 := by kernel_rfl
theorem cellsEds : Tryz.prog.cellsOf 23 = 1 := by kernel_rfl
theorem cellsObs : Tryz.prog.cellsOf 26 = 1 := by kernel_rfl
theorem cellsNd : Tryz.prog.cellsOf 63 = 3 := by kernel_rfl
theorem cellsEd : Tryz.prog.cellsOf 65 = 4 := by kernel_rfl
theorem cellsOb : Tryz.prog.cellsOf 38 = 5 := by kernel_rfl
theorem cellsSuper : Tryz.prog.cellsOf 25 = 3 := by kernel_rfl
theorem cellsExec : Tryz.prog.cellsOf 28 = 2 := by kernel_rfl
theorem open_head {t e : TypeId} (ht : Tryz.prog.underlying t = some (.slice e)) {n : Nat} {cs : List Value} {y : DataW H × List MemPlace} (h : DataW.trod enc Tryz.prog w 0 (fun _ => true) held n t cs = some y) : ∃ a k cp, cs = [.slice a k cp] := by
  rcases open_slice ht h with ⟨rfl, rfl⟩ | ⟨a, len, cap, m, n', D, Q, rfl, hb, hl, hm, hmm, rfl, hi⟩
  · exact ⟨none, 0, 0, rfl⟩
  · exact ⟨some a, len, cap, rfl⟩
theorem list2 {α : Type} : ∀ {l : List α}, l.length = 2 → ∃ a b, l = [a, b]
  | [a, b], _ => ⟨a, b, rfl⟩
theorem list3 {α : Type} : ∀ {l : List α}, l.length = 3 → ∃ a b c, l = [a, b, c]
  | [a, b, c], _ => ⟨a, b, c, rfl⟩
theorem list4 {α : Type} : ∀ {l : List α}, l.length = 4 → ∃ a b c d, l = [a, b, c, d]
  | [a, b, c, d], _ => ⟨a, b, c, d, rfl⟩
theorem list5 {α : Type} : ∀ {l : List α}, l.length = 5 → ∃ a b c d e, l = [a, b, c, d, e]
  | [a, b, c, d, e], _ => ⟨a, b, c, d, e, rfl⟩
/-- rows of flat cells -/
theorem open_rows {α : Type} [Inhabited α] {t e : TypeId} {esz : Nat} (row : α → List AV) (pr : α → Prop) (hrl : ∀ x, (row x).length = esz) (he : 0 < esz) (ht : Tryz.prog.underlying t = some (.slice e)) (hce : Tryz.prog.cellsOf e = esz)
    (hopen : ∀ {n : Nat} {cs : List Value} {y : DataW H × List MemPlace}, DataW.trod enc Tryz.prog w 0 (fun _ => true) held n e cs = some y → ∃ x : α, pr x ∧ ∀ (j : Nat) (a : AV), (row x)[j]? = some a → ∃ u, cs[j]? = some u ∧ Flat a u)
    {n : Nat} {cs : List Value} {y : DataW H × List MemPlace} (h : DataW.trod enc Tryz.prog w 0 (fun _ => true) held n t cs = some y) (hfz : w.noneFrozen y.2) :
    ∃ (v : Value) (xs : List α), cs = [v] ∧ SlIn w v esz (xs.map row) ∧ ∀ x ∈ xs, pr x := by
  rcases open_slice ht h with ⟨rfl, rfl⟩ | ⟨a, len, cap, m, n', D, Q, rfl, hb, hl, hm, hmm, rfl, hi⟩
  · exact ⟨_, [], rfl, Or.inl ⟨rfl, none, 0, rfl⟩, by simp⟩
  · rw [if_pos rfl] at hmm
    subst hmm
    by_cases hz : len = 0
    · subst hz
      exact ⟨_, [], rfl, Or.inl ⟨rfl, some a, m, rfl⟩, by simp⟩
    · rw [hce] at hfz
      have hp : ∀ i, i < m → ∃ x : α, pr x ∧ ∃ cs' : List Value, w.cells? 0 (a.add (i * esz)) esz = some cs' ∧ ∀ (j : Nat) (b : AV), (row x)[j]? = some b → ∃ u, cs'[j]? = some u ∧ Flat b u := fun i hil => by
        obtain ⟨cs', h1, h2⟩ := hi i hil
        rw [hce] at h1
        obtain ⟨x, hx1, hx2⟩ := hopen h2
        exact ⟨x, hx1, cs', h1, hx2⟩
      obtain ⟨f, hf⟩ := @choose_lt α ⟨default⟩ m (fun i x => pr x ∧ ∃ cs' : List Value, w.cells? 0 (a.add (i * esz)) esz = some cs' ∧ ∀ (j : Nat) (b : AV), (row x)[j]? = some b → ∃ u, cs'[j]? = some u ∧ Flat b u) hp
      have hc : ∀ i, i < m → ∃ cs' : List Value, cs'.length = esz ∧ (∀ j, j < esz → w.cell? (a.add (i * esz + j)) = cs'[j]?) ∧ ∀ (j : Nat) (b : AV), (row (f i))[j]? = some b → ∃ u, cs'[j]? = some u ∧ Flat b u := fun i hil => by
        obtain ⟨_, cs', h1, h2⟩ := hf i hil
        obtain ⟨_, h3, h4⟩ := World.cells?_some h1
        refine ⟨cs', h3, fun j hj => ?_, h2⟩
        rw [← add_add]; exact h4 j hj
      obtain ⟨b, off, spot⟩ := a
      have hsome : ∀ i, i < m → ∀ j, j < esz → ∃ u, w.cell? ((⟨b, off, spot⟩ : Addr).add (i * esz + j)) = some u := fun i hil j hj => by
        obtain ⟨cs', h3, h4, _⟩ := hc i hil
        exact ⟨cs'[j]'(by omega), by rw [h4 j hj]; simp [h3, hj]⟩
      have hs : spot = none := by
        obtain ⟨u, hu⟩ := hsome 0 (by omega) 0 he
        simpa [Addr.add] using World.cell?_spot hu
      subst hs
      have ha : ∀ j, (⟨b, off, none⟩ : Addr).add j = ⟨b, off + j, none⟩ := fun j => by unfold Addr.add; split <;> simp_all
      obtain ⟨u0, hu0⟩ := hsome 0 (by omega) 0 he
      rw [ha] at hu0
      unfold World.cell? at hu0
      split at hu0
      · rename_i cur t' fz hblk
        have hget : ∀ k, w.cell? ⟨b, off + k, none⟩ = cur[off + k]? := fun k => by
          unfold World.cell?; rw [hblk]; simp
        have hsize : off + m * esz ≤ cur.size := by
          obtain ⟨u, hu⟩ := hsome (m - 1) (by omega) (esz - 1) (by omega)
          rw [ha, hget] at hu
          have := (Array.getElem?_eq_some_iff.1 hu).1
          have e1 : (m - 1) * esz + (esz - 1) + 1 = m * esz := by
            have : m = (m - 1) + 1 := by omega
            rw [this, Nat.succ_mul]; simp; omega
          omega
        have hnf : ∀ i, off ≤ i → i < off + m * esz → (decide (fz.1 ≤ i) && decide (i < fz.2)) = false := fun i q1 q2 => by
          have := hfz b i (by
            rw [List.mem_append]; left
            exact MemPlace.mem_row.2 ⟨i - off, by omega, by simp; omega⟩)
          unfold World.frozen? at this
          simp only [hblk] at this
          exact this
        refine ⟨_, (List.range len).map f, rfl, Or.inr ⟨by simp; omega, b, off, m, cur, (t', fz), by simp, by simp; omega, hblk, ⟨hsize, hnf⟩, fun i r hr => ?_⟩, fun x hx => ?_⟩
        · simp only [List.getElem?_map, Option.map_eq_some_iff] at hr
          obtain ⟨x, ⟨k, hk, rfl⟩, rfl⟩ := hr
          have hik : i = k ∧ i < len := by
            obtain ⟨q1, q2⟩ := List.getElem?_eq_some_iff.1 hk
            simp at q1 q2
            exact ⟨q2, q1⟩
          obtain ⟨rfl, hil⟩ := hik
          obtain ⟨cs', h3, h4, h5⟩ := hc i (by omega)
          refine ⟨hrl _, fun j bv hj => ?_⟩
          obtain ⟨u, hu, hfl⟩ := h5 j bv hj
          have hjl : j < esz := by
            have := (List.getElem?_eq_some_iff.1 hj).1
            rw [hrl] at this; exact this
          refine ⟨u, ?_, hfl⟩
          have := h4 j hjl
          rw [ha, hget, hu] at this
          rw [Nat.add_assoc]; exact this
        · obtain ⟨i, hi', rfl⟩ := List.mem_map.1 hx
          exact (hf i (by have := List.mem_range.1 hi'; omega)).1
      · cases hu0
theorem open_nd {n : Nat} {cs : List Value} {y : DataW H × List MemPlace} (h : DataW.trod enc Tryz.prog w 0 (fun _ => true) held n 63 cs = some y) : ∃ x : Nd, True ∧ ∀ (j : Nat) (a : AV), (Nd.row x)[j]? = some a → ∃ u, cs[j]? = some u ∧ Flat a u := by
  obtain ⟨xs, m, _, hx, hl, hxl, hf⟩ := DataW.trod_struct Tryz.underlying63 h
  rw [cellsNd] at hl
  obtain ⟨c0, c1, c2, rfl⟩ := list3 hl
  obtain ⟨x0, x1, x2, rfl⟩ := list3 (show xs.length = 3 from hxl)
  have h0 := hf 0 _ rfl
  have h1 := hf 1 _ rfl
  have h2 := hf 2 _ rfl
  simp [cellsInt] at h0 h1 h2
  obtain ⟨k0, e0, _, _⟩ := DataW.trod_int Tryz.underlying3 h0
  obtain ⟨k1, e1, _, _⟩ := DataW.trod_int Tryz.underlying3 h1
  obtain ⟨k2, e2, _, _⟩ := DataW.trod_int Tryz.underlying3 h2
  simp only [List.cons.injEq, and_true] at e0 e1 e2
  subst e0 e1 e2
  refine ⟨⟨k0, k1, k2⟩, trivial, fun j a hj => ?_⟩
  match j, hj with
  | 0, hj => cases hj; exact ⟨_, rfl, .int _ _⟩
  | 1, hj => cases hj; exact ⟨_, rfl, .int _ _⟩
  | 2, hj => cases hj; exact ⟨_, rfl, .int _ _⟩
  | j + 3, hj => cases hj
theorem open_ed {n : Nat} {cs : List Value} {y : DataW H × List MemPlace} (h : DataW.trod enc Tryz.prog w 0 (fun _ => true) held n 65 cs = some y) : ∃ x : Ed, True ∧ ∀ (j : Nat) (a : AV), (Ed.row x)[j]? = some a → ∃ u, cs[j]? = some u ∧ Flat a u := by
  obtain ⟨xs, m, _, hx, hl, hxl, hf⟩ := DataW.trod_struct Tryz.underlying65 h
  rw [cellsEd] at hl
  obtain ⟨c0, c1, c2, c3, rfl⟩ := list4 hl
  obtain ⟨x0, x1, x2, x3, rfl⟩ := list4 (show xs.length = 4 from hxl)
  have h0 := hf 0 _ rfl
  have h1 := hf 1 _ rfl
  have h2 := hf 2 _ rfl
  have h3 := hf 3 _ rfl
  simp [cellsInt] at h0 h1 h2 h3
  obtain ⟨k0, e0, _, _⟩ := DataW.trod_int Tryz.underlying3 h0
  obtain ⟨k1, e1, _, _⟩ := DataW.trod_int Tryz.underlying3 h1
  obtain ⟨k2, e2, _, _⟩ := DataW.trod_int Tryz.underlying3 h2
  obtain ⟨k3, e3, _, _⟩ := DataW.trod_int Tryz.underlying3 h3
  simp only [List.cons.injEq, and_true] at e0 e1 e2 e3
  subst e0 e1 e2 e3
  refine ⟨⟨k0, k1, k2, k3⟩, trivial, fun j a hj => ?_⟩
  match j, hj with
  | 0, hj => cases hj; exact ⟨_, rfl, .int _ _⟩
  | 1, hj => cases hj; exact ⟨_, rfl, .int _ _⟩
  | 2, hj => cases hj; exact ⟨_, rfl, .int _ _⟩
  | 3, hj => cases hj; exact ⟨_, rfl, .int _ _⟩
  | j + 4, hj => cases hj
theorem open_ob {n : Nat} {cs : List Value} {y : DataW H × List MemPlace} (h : DataW.trod enc Tryz.prog w 0 (fun _ => true) held n 38 cs = some y) : ∃ x : Ob, Ev.one x.v = true ∧ ∀ (j : Nat) (a : AV), (Ob.row x)[j]? = some a → ∃ u, cs[j]? = some u ∧ Flat a u := by
  obtain ⟨xs, m, _, hx, hl, hxl, hf⟩ := DataW.trod_struct Tryz.underlying38 h
  rw [cellsOb] at hl
  obtain ⟨c0, c1, c2, c3, c4, rfl⟩ := list5 hl
  obtain ⟨x0, x1, x2, x3, x4, rfl⟩ := list5 (show xs.length = 5 from hxl)
  have h0 := hf 0 _ rfl
  have h1 := hf 1 _ rfl
  have h2 := hf 2 _ rfl
  have h3 := hf 3 _ rfl
  have h4 := hf 4 _ rfl
  simp [cellsInt, cellsVals] at h0 h1 h2 h3 h4
  obtain ⟨k0, e0, _, _⟩ := DataW.trod_int Tryz.underlying3 h0
  obtain ⟨k1, e1, _, _⟩ := DataW.trod_int Tryz.underlying3 h1
  obtain ⟨k2, e2, _, _⟩ := DataW.trod_int Tryz.underlying3 h2
  obtain ⟨k3, e3, _, _⟩ := DataW.trod_int Tryz.underlying3 h3
  obtain ⟨a4, n4, p4, e4⟩ := open_head Tryz.underlying36 h4
  simp only [List.cons.injEq, and_true] at e0 e1 e2 e3 e4
  subst e0 e1 e2 e3 e4
  refine ⟨⟨k0, k1, k2, k3, .raw a4 n4 p4⟩, rfl, fun j a hj => ?_⟩
  match j, hj with
  | 0, hj => cases hj; exact ⟨_, rfl, .int _ _⟩
  | 1, hj => cases hj; exact ⟨_, rfl, .int _ _⟩
  | 2, hj => cases hj; exact ⟨_, rfl, .int _ _⟩
  | 3, hj => cases hj; exact ⟨_, rfl, .int _ _⟩
  | 4, hj => cases hj; exact ⟨_, rfl, .raw _ _ _⟩
  | j + 5, hj => cases hj
theorem noneFrozen_sub {p q : List MemPlace} (h : w.noneFrozen q) (hs : ∀ x ∈ p, x ∈ q) : w.noneFrozen p := fun b off hm => h b off (hs _ hm)
/-- a supergraph -/
theorem open_super {n : Nat} {cs : List Value} {y : DataW H × List MemPlace} (h : DataW.trod enc Tryz.prog w 0 (fun _ => true) held n 25 cs = some y) (hfz : w.noneFrozen y.2) :
    ∃ v1 v2 mn, ∃ (ns : List Nd) (es : List Ed), cs = [v1, v2, .int .i64 mn] ∧ SlIn w v1 3 (ns.map Nd.row) ∧ SlIn w v2 4 (es.map Ed.row) := by
  obtain ⟨xs, m, _, hx, hl, hxl, hf⟩ := DataW.trod_struct Tryz.underlying25 h
  rw [cellsSuper] at hl
  obtain ⟨c0, c1, c2, rfl⟩ := list3 hl
  obtain ⟨x0, x1, x2, rfl⟩ := list3 (show xs.length = 3 from hxl)
  have h0 := hf 0 _ rfl
  have h1 := hf 1 _ rfl
  have h2 := hf 2 _ rfl
  simp [cellsInt, cellsNds, cellsEds] at h0 h1 h2
  obtain ⟨v1, ns, e0, s0, _⟩ := open_rows Nd.row (fun _ => True) (fun _ => rfl) (by decide) Tryz.underlying22 cellsNd open_nd h0 (noneFrozen_sub hfz fun x hm => by rw [hx]; simp [hm])
  obtain ⟨v2, es, e1, s1, _⟩ := open_rows Ed.row (fun _ => True) (fun _ => rfl) (by decide) Tryz.underlying23 cellsEd open_ed h1 (noneFrozen_sub hfz fun x hm => by rw [hx]; simp [hm])
  obtain ⟨k2, e2, _, _⟩ := DataW.trod_int Tryz.underlying3 h2
  simp only [List.cons.injEq, and_true] at e0 e1 e2
  subst e0 e1 e2
  exact ⟨_, _, k2, ns, es, rfl, s0, s1⟩
/-- an execution -/
theorem open_exec {n : Nat} {cs : List Value} {y : DataW H × List MemPlace} (h : DataW.trod enc Tryz.prog w 0 (fun _ => true) held n 28 cs = some y) (hfz : w.noneFrozen y.2) :
    ∃ en v, ∃ (os : List Ob), cs = [.int .i64 en, v] ∧ SlIn w v 5 (os.map Ob.row) ∧ ∀ o ∈ os, Ev.one o.v = true := by
  obtain ⟨xs, m, _, hx, hl, hxl, hf⟩ := DataW.trod_struct Tryz.underlying28 h
  rw [cellsExec] at hl
  obtain ⟨c0, c1, rfl⟩ := list2 hl
  obtain ⟨x0, x1, rfl⟩ := list2 (show xs.length = 2 from hxl)
  have h0 := hf 0 _ rfl
  have h1 := hf 1 _ rfl
  simp [cellsInt, cellsObs] at h0 h1
  obtain ⟨v, os, e1, s1, hp⟩ := open_rows Ob.row (fun o => Ev.one o.v = true) (fun _ => rfl) (by decide) Tryz.underlying26 cellsOb open_ob h1 (noneFrozen_sub hfz fun x hm => by rw [hx]; simp [hm])
  obtain ⟨k0, e0, _, _⟩ := DataW.trod_int Tryz.underlying3 h0
  simp only [List.cons.injEq, and_true] at e0 e1
  subst e0 e1
  exact ⟨k0, _, os, rfl, s1, hp⟩
/-! the end of a law: true, the arguments as they were -/
theorem trodAll_below {P : Program} (hl : laidOutB P = true) {W W' : World} (hb : Below W.heap.size W W') : ∀ {ts : List TypeId} {vs : List Value} {ds : List (DataW H)} {ps : List MemPlace}, (∀ t ∈ ts, P.readableRec t = true ∧ t < P.types.size) →
    DataW.TrodAll enc P W 0 (fun _ => true) true ts vs ds ps → (∀ x ∈ ps, x.block < W.heap.size) → DataW.TrodAll enc P W' 0 (fun b => decide (b < W.heap.size)) true ts vs ds ps
  | [], vs, ds, ps, _, h, _ => by cases vs <;> cases ds <;> simp_all [DataW.TrodAll]
  | t :: ts, vs, ds, ps, ht, h, hlt => by
    obtain ⟨v, vs', d, ds', p, q, rfl, rfl, rfl, h1, h2⟩ := trodAll_cons h
    refine trodAll_cons_mk (Below.trod hl (ht t (by simp)).1 (ht t (by simp)).2 h1 hb (fun x hx => hlt x (by simp [hx]))) (trodAll_below hl hb (fun t' ht' => ht t' (by simp [ht'])) h2 (fun x hx => hlt x (by simp [hx])))
theorem law_post {fn : Func} {s : ChangeSpec} {W W' : World} {args : Array Value} {ds : List (DataW H)} {before : List MemPlace}
    (hW : DataW.Whole enc Tryz.prog fn.params.toList s.vars false W args.toList ds [] before) (hv : s.vars = []) (hres : (s.fn H (ds ++ [])).results = [.lit (.bool true)]) (hargs : (s.fn H (ds ++ [])).args = ds) (hvs : (s.fn H (ds ++ [])).vars = [])
    (hrt : fn.resultTypes = #[4]) (hp : ∀ t ∈ fn.params.toList, Tryz.prog.readableRec t = true ∧ t < Tryz.prog.types.size) (hb : Below W.heap.size W W') :
    ∃ v, Ending.returned (.bool true) = .returned v ∧ s.post enc Tryz.prog fn false true false false W args v W' := by
  obtain ⟨p, q, hA, hV, e, hfz, hnd⟩ := hW
  have hW2 : DataW.Whole enc Tryz.prog fn.params.toList s.vars false W args.toList ds [] before := ⟨p, q, hA, hV, e, hfz, hnd⟩
  have hlt : ∀ x ∈ p, x.block < W.heap.size := fun x hx => hW2.lt x (by rw [e]; simp [hx])
  refine ⟨_, rfl, ds, [], before, [], p, [], hW2, ?_, ?_, ?_, hb.frame _, fun h => by cases h⟩
  · rw [hres, hrt]
    exact trodAll_cons_mk (shut_bool Tryz.underlying4 _) trodAll_mk0
  · rw [hargs]
    exact trodAll_below laidOut hb hp hA hlt
  · rw [hvs, hv]; rfl
theorem okWide_struct {P : Program} {W : World} {base : Nat} {t : TypeId} {fs : Array Field} {v : Value} (u : P.underlying t = some (.struct fs)) (h : Value.okWide P W .any base t v) : ∃ c, v = .agg c ∧ True := by
  unfold Value.okWide at h
  rw [u] at h
  obtain ⟨c, hc, _⟩ := h
  exact ⟨c, hc, trivial⟩
theorem args2 {P : Program} {W : World} {base : Nat} {t0 t1 : TypeId} {fs gs : Array Field} {v0 v1 : Value} (u0 : P.underlying t0 = some (.struct fs)) (u1 : P.underlying t1 = some (.struct gs))
    (hval : ∀ (j : Nat) t v, #[t0, t1][j]? = some t → #[v0, v1][j]? = some v → Value.okWide P W .any base t v) : (∃ c, v0 = .agg c) ∧ (∃ c, v1 = .agg c) := by
  obtain ⟨c, hc, _⟩ := okWide_struct u0 (hval 0 t0 v0 rfl rfl)
  obtain ⟨d, hd, _⟩ := okWide_struct u1 (hval 1 t1 v1 rfl rfl)
  exact ⟨⟨c, hc⟩, ⟨d, hd⟩⟩
end
end Go.Proofs.YtlocnfaeiacphaaGreatDoor
