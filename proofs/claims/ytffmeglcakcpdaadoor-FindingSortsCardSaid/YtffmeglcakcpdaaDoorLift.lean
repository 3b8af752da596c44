/- From the form of the statements to the walks: what the listed variables give, how a finding is read, what the end asks. -/
import Derived.Test.YtffmeglcakcpdaaDoorCards
import Derived.Test.YtffmeglcakcpdaaDoorTie
import Derived.Test.YtffmeglcakcpdaaDoorWalkR
import Derived.ProofKit
import Derived.OpenShut
import Derived.Deep.DeepHandedRow
import Derived.Lib.LaidTab
import Derived.Deep.Slices
import Derived.SizedLaws
set_option linter.unusedVariables false
namespace Go.Proofs.YtffmeglcakcpdaaDoor
open Go.ChangeShapes Go.WideShapes Go.ChangeAt Go.RowKit Go.Deep

theorem own : ownKnob Tryd.prog.godebug = none := by kernel_rfl
theorem laidOut : laidOutB Tryd.prog = true := by kernel_rfl

/-- an array of strings that reads as a list of strings holds them, cell for cell -/
theorem cells_of_strs {H : Type} {enc : TypeId × Value → H} {P : Program} {w : World} {base : Nat} {sp : Nat → Bool} {held : Bool} {fuel : Nat} {t e : TypeId} {n : Nat} {cs : List Value} {zs : List (List UInt8)} {p : List MemPlace}
    (ht : P.underlying t = some (.array n e)) (he : P.underlying e = some .string) (hce : P.cellsOf e = 1) (hct : P.cellsOf t = n)
    (h : DataW.trod enc P w base sp held fuel t cs = some (.agg (zs.map fun z => .lit (.string z)), p)) : cs = zs.map fun z => Value.string ⟨z.toArray⟩ := by
  cases fuel with
  | zero => simp [DataW.trod] at h
  | succ fuel =>
    simp only [DataW.trod, ht, hce, hct, Nat.mul_one] at h
    split at h
    · rename_i hl
      obtain ⟨xs, hm, hx⟩ := Option.map_eq_some_iff.1 h
      have hxs : xs.map (·.1) = zs.map fun z => (DataW.lit (.string z) : DataW H) := by
        have := congrArg Prod.fst hx
        simpa using this
      have hxl : xs.length = n := by simpa using Lib.mapM_length hm
      have hzl : zs.length = n := by
        have := congrArg List.length hxs
        simp at this
        omega
      apply List.ext_getElem?
      intro i
      by_cases hi : i < n
      · obtain ⟨b, hb, hf⟩ := Lib.mapM_at hm i i (by simp [hi])
        obtain ⟨z, hc, rfl, _⟩ := DataW.trod_string he hf
        have h1 : cs[i]? = some (.string z) := by
          have := congrArg (·[0]?) hc
          simpa [List.getElem?_take, List.getElem?_drop] using this
        have h2 : (xs.map (·.1))[i]? = some (DataW.lit (.string z.data.toList) : DataW H) := by simp [hb]
        rw [hxs] at h2
        simp only [List.getElem?_map, Option.map_eq_some_iff, DataW.lit.injEq, Lit.string.injEq] at h2
        obtain ⟨z', hz', rfl⟩ := h2
        simp [h1, hz']
      · rw [List.getElem?_eq_none (by omega), List.getElem?_eq_none (by simp; omega)]
    · cases h

def kwData : List (List UInt8) := [[99, 108, 97, 115, 115], [101, 120, 116, 101, 110, 100, 115], [118, 97, 114], [100, 101, 102], [115, 116, 97, 116, 105, 99], [105, 102], [101, 108, 115, 101], [119, 104, 105, 108, 101], [116, 114, 121], [99, 97, 116, 99, 104], [116, 104, 114, 111, 119], [114, 101, 116, 117, 114, 110], [110, 101, 119], [110, 117, 108, 108], [116, 104, 105, 115], [105, 110, 112, 117, 116], [105, 110, 116]]
theorem env_of {W : World} (h : laidMet Tryd.prog [("math/bits.deBruijn32tab", Rows.laid_math_bits_deBruijn32tab), ("math/bits.deBruijn64tab", Rows.laid_math_bits_deBruijn64tab), ("internal/strconv.uint64pow10", Rows.laid_internal_strconv_uint64pow10), ("dataflow/lex.keywords", Rows.laid_dataflow_lex_keywords)] W) : Env W := by
  obtain ⟨ps, h, _⟩ := h
  obtain ⟨g0, t0, cs0, fuel0, p0, q0, hg0, ht0, hv0, hd0, h, _⟩ := h
  obtain ⟨g1, t1, cs1, fuel1, p1, q1, hg1, ht1, hv1, hd1, h, _⟩ := h
  obtain ⟨g2, t2, cs2, fuel2, p2, q2, hg2, ht2, hv2, hd2, h, _⟩ := h
  obtain ⟨g3, t3, cs3, fuel3, p3, q3, hg3, ht3, hv3, hd3, h, _⟩ := h
  constructor
  · have e1 : g2 = 2 := Option.some.inj (hg2.symm.trans (show Tryd.prog.globalNamed "internal/strconv.uint64pow10" = some 2 by kernel_rfl))
    subst e1
    have e2 : t2 = 68 := Option.some.inj (ht2.symm.trans (show (Tryd.prog.globals[2]?).map (·.type) = some 68 by kernel_rfl))
    subst e2
    unfold Lib.TabIs
    have := Lib.cells_of_tab (zs := Lib.pow10Tab) Tryd.underlying68 Tryd.underlying57 (by kernel_rfl) (by kernel_rfl) hd2
    rw [hv2, ← this]
  · have e1 : g3 = 1 := Option.some.inj (hg3.symm.trans gKw)
    subst e1
    have e2 : t3 = 62 := Option.some.inj (ht3.symm.trans (show (Tryd.prog.globals[1]?).map (·.type) = some 62 by kernel_rfl))
    subst e2
    have := cells_of_strs (zs := kwData) Tryd.underlying62 Tryd.underlying9 (by kernel_rfl) (by kernel_rfl) hd3
    rw [hv3]
    have e3 : cs3 = kwVals := by
      have h2 := congrArg List.toArray this
      rw [Array.toArray_toList] at h2
      rw [h2]; rfl
    rw [e3]

/-! how a place, a path, a finding are read -/
section
variable {H : Type} {enc : TypeId × Value → H} {w : World} {base : Nat} {spare : Nat → Bool} {held : Bool}
theorem int_bounds {n : Int} (h : (Lit.int .i64 n).wf = true) : -9223372036854775808 ≤ n ∧ n ≤ 9223372036854775807 := by
  simpa [Lit.wf, IntKind.min, IntKind.max, IntKind.signed, IntKind.bits] using h
def plData (p : Pl) : DataW H := .agg [.lit (.string p.cls.data.toList), .lit (.string p.meth.data.toList), .lit (.int .i64 p.ins)]

theorem cellsStr : Tryd.prog.cellsOf 9 = 1 := by kernel_rfl
theorem cellsInt : Tryd.prog.cellsOf 3 = 1 := by kernel_rfl
theorem cellsPl : Tryd.prog.cellsOf 23 = 3 := by kernel_rfl
theorem cellsPls : Tryd.prog.cellsOf 24 = 1 := by kernel_rfl
theorem cellsFd : Tryd.prog.cellsOf 26 = 6 := by kernel_rfl
theorem bytesPl : Tryd.prog.bytesOf 23 = 40 := by kernel_rfl
theorem bytesFd : Tryd.prog.bytesOf 26 = 88 := by kernel_rfl
theorem open_place {n : Nat} {cs : List Value} {y : DataW H × List MemPlace} (h : DataW.trod enc Tryd.prog w base spare held n 23 cs = some y) :
    ∃ p : Pl, cs = [.string p.cls, .string p.meth, .int .i64 p.ins] ∧ y = (plData p, []) ∧ -9223372036854775808 ≤ p.ins ∧ p.ins ≤ 9223372036854775807 := by
  obtain ⟨xs, m, _, hx, hl, hxl, hf⟩ := DataW.trod_struct Tryd.underlying23 h
  rw [cellsPl] at hl
  match cs, hl, xs, hxl with
  | [c0, c1, c2], _, [x0, x1, x2], _ =>
    have h0 := hf 0 _ rfl
    have h1 := hf 1 _ rfl
    have h2 := hf 2 _ rfl
    simp [cellsStr, cellsInt] at h0 h1 h2
    obtain ⟨s0, e0, rfl, _⟩ := DataW.trod_string Tryd.underlying9 h0
    obtain ⟨s1, e1, rfl, _⟩ := DataW.trod_string Tryd.underlying9 h1
    obtain ⟨k2, e2, rfl, hw⟩ := DataW.trod_int Tryd.underlying3 h2
    have hb := int_bounds hw
    simp at e0 e1 e2
    subst e0 e1 e2
    exact ⟨⟨s0, s1, k2⟩, rfl, by rw [hx]; rfl, hb.1, hb.2⟩

/-- a path, as it lies and as it reads -/
structure PathRead (w : World) (a : Option Addr) (ps : List Pl) (d : DataW H) : Prop where
  path : PathAt w a ps
  bounds : ∀ p ∈ ps, -9223372036854775808 ≤ p.ins ∧ p.ins ≤ 9223372036854775807
  data : (d = .nil ∧ ps = []) ∨ ∃ sp, d = .slice (ps.map plData) sp
theorem open_path {n : Nat} {cs : List Value} {y : DataW H × List MemPlace} (h : DataW.trod enc Tryd.prog w 0 (fun _ => true) held n 24 cs = some y) :
    ∃ a cp ps, cs = [.slice a ps.length cp] ∧ PathRead w a ps y.1 := by
  rcases open_slice Tryd.underlying24 h with ⟨rfl, rfl⟩ | ⟨a, len, cap, m, n', D, Q, rfl, hb, hl, hm, hmm, rfl, hi⟩
  · exact ⟨none, 0, [], rfl, Or.inl rfl, by simp, Or.inl ⟨rfl, rfl⟩⟩
  · rw [if_pos rfl] at hmm
    subst hmm
    have hp : ∀ i, i < len → ∃ p : Pl, w.cells? 0 (a.add (i * 3)) 3 = some [.string p.cls, .string p.meth, .int .i64 p.ins] ∧ D i = plData p ∧ -9223372036854775808 ≤ p.ins ∧ p.ins ≤ 9223372036854775807 := fun i hil => by
      obtain ⟨cs', h1, h2⟩ := hi i (by omega)
      rw [cellsPl] at h1
      obtain ⟨p, rfl, e, b1, b2⟩ := open_place h2
      injection e with e1 e2
      exact ⟨p, h1, e1, b1, b2⟩
    obtain ⟨f, hf⟩ := @choose_lt Pl ⟨⟨ByteArray.empty, ByteArray.empty, 0⟩⟩ len (fun i p => w.cells? 0 (a.add (i * 3)) 3 = some [.string p.cls, .string p.meth, .int .i64 p.ins] ∧ D i = plData p ∧ -9223372036854775808 ≤ p.ins ∧ p.ins ≤ 9223372036854775807) hp
    refine ⟨some a, m, (List.range len).map f, by simp, ?_, ?_, Or.inr ⟨(List.range (m - len)).map fun j => D (len + j), ?_⟩⟩
    · by_cases hz : len = 0
      · left; simp [hz]
      · right
        have hc : ∀ i, i < len → ∀ j, j < 3 → w.cell? (a.add (i * 3 + j)) = ([.string (f i).cls, .string (f i).meth, .int .i64 (f i).ins] : List Value)[j]? := fun i hil j hj => by
          obtain ⟨_, _, hat⟩ := World.cells?_some (hf i hil).1
          rw [← add_add]
          exact hat j hj
        obtain ⟨b, off, spot⟩ := a
        have hs : spot = none := by
          have := hc 0 (by omega) 0 (by omega)
          simpa [Addr.add] using World.cell?_spot this
        subst hs
        have hbl : b < w.heap.size := by
          have := hc 0 (by omega) 0 (by omega)
          exact block_lt_of_cell (by simpa [Addr.add] using this)
        refine ⟨b, off, rfl, hbl, fun i hi' => ?_⟩
        have hil : i < len := by simpa using hi'
        have ha : ∀ j, (⟨b, off, none⟩ : Addr).add j = ⟨b, off + j, none⟩ := fun j => by unfold Addr.add; split <;> simp_all
        have c0 := hc i hil 0 (by omega)
        have c1 := hc i hil 1 (by omega)
        have c2 := hc i hil 2 (by omega)
        rw [ha] at c0 c1 c2
        simp only [List.getElem_map, List.getElem_range]
        exact ⟨c0, by rw [Nat.add_assoc]; exact c1, by rw [Nat.add_assoc]; exact c2⟩
    · intro p hp'
      obtain ⟨i, hi', rfl⟩ := List.mem_map.1 hp'
      exact ⟨(hf i (by simpa using hi')).2.2.1, (hf i (by simpa using hi')).2.2.2⟩
    · show DataW.slice _ _ = _
      congr 1
      rw [List.map_map]
      refine List.map_congr_left fun i hi' => ?_
      exact (hf i (by simpa using hi')).2.1

/-- a finding by value -/
theorem open_finding {n : Nat} {cs : List Value} {y : DataW H × List MemPlace} (h : DataW.trod enc Tryd.prog w 0 (fun _ => true) held n 26 cs = some y) :
    ∃ (x : Fd) (a : Option Addr) (cp : Nat) (d : DataW H), cs = [.int .i64 x.kind, .string x.pl.cls, .string x.pl.meth, .int .i64 x.pl.ins, .string x.what, .slice a x.path.length cp] ∧
      y.1 = .agg [.lit (.int .i64 x.kind), plData x.pl, .lit (.string x.what.data.toList), d] ∧ PathRead w a x.path d ∧
      (-9223372036854775808 ≤ x.kind ∧ x.kind ≤ 9223372036854775807) ∧ (-9223372036854775808 ≤ x.pl.ins ∧ x.pl.ins ≤ 9223372036854775807) := by
  obtain ⟨xs, m, _, hx, hl, hxl, hf⟩ := DataW.trod_struct Tryd.underlying26 h
  rw [cellsFd] at hl
  match cs, hl, xs, hxl with
  | [c0, c1, c2, c3, c4, c5], _, [x0, x1, x2, x3], _ =>
    have h0 := hf 0 _ rfl
    have h1 := hf 1 _ rfl
    have h2 := hf 2 _ rfl
    have h3 := hf 3 _ rfl
    simp [cellsStr, cellsInt, cellsPl, cellsPls] at h0 h1 h2 h3
    obtain ⟨k, e0, rfl, hw⟩ := DataW.trod_int Tryd.underlying3 h0
    obtain ⟨p, e1, rfl, b1, b2⟩ := open_place h1
    obtain ⟨s, e2, rfl, _⟩ := DataW.trod_string Tryd.underlying9 h2
    obtain ⟨a, cp, ps, e3, hr⟩ := open_path h3
    simp at e0 e1 e2 e3
    obtain ⟨e10, e11, e12⟩ := e1
    subst e0 e10 e11 e12 e2 e3
    exact ⟨⟨k, p, s, ps⟩, a, cp, x3.1, rfl, by rw [hx]; rfl, hr, int_bounds hw, b1, b2⟩

theorem ok_of_weights {x : Fd} {a : Option Addr} {d : DataW H} (h : ∀ n ∈ DataW.weights Tryd.prog 26 (DataW.agg (H := H) [.lit (.int .i64 x.kind), plData x.pl, .lit (.string x.what.data.toList), d]), n ≤ reachBytes)
    (hr : PathRead w a x.path d) (hk : -9223372036854775808 ≤ x.kind ∧ x.kind ≤ 9223372036854775807) (hi : -9223372036854775808 ≤ x.pl.ins ∧ x.pl.ins ≤ 9223372036854775807) : x.Ok ∧ x.path.length * 40 ≤ 140737488351232 := by
  simp only [DataW.weights, DataW.weightsEach, Tryd.underlying26, Tryd.underlying23, plData, List.map, List.nil_append, List.append_nil, List.cons_append, List.mem_cons, forall_eq_or_imp] at h
  obtain ⟨h1, h2, h3, h4⟩ := h
  rw [size_list] at h1 h2 h3
  unfold reachBytes at h1 h2 h3 h4
  have hl : x.path.length * 40 ≤ 140737488351232 := by
    rcases hr.data with ⟨_, e⟩ | ⟨sp, e⟩
    · rw [e]; simp
    · have := h4 (((x.path.map (plData (H := H))).length + sp.length) * Tryd.prog.bytesOf 23) (by rw [e]; simp [DataW.weights, Tryd.underlying24])
      rw [bytesPl, List.length_map] at this
      omega
  exact ⟨⟨hk.1, hk.2, hi.1, hi.2, by omega, by omega, by omega, by omega⟩, hl⟩

/-! the end of a law: true, the arguments as they were -/
theorem trodAll_below {P : Program} (hl : laidOutB P = true) {W W' : World} (hb : Below W.heap.size W W') : ∀ {ts : List TypeId} {vs : List Value} {ds : List (DataW H)} {ps : List MemPlace}, (∀ t ∈ ts, P.readableRec t = true ∧ t < P.types.size) →
    DataW.TrodAll enc P W 0 (fun _ => true) true ts vs ds ps → (∀ x ∈ ps, x.block < W.heap.size) → DataW.TrodAll enc P W' 0 (fun b => decide (b < W.heap.size)) true ts vs ds ps
  | [], vs, ds, ps, _, h, _ => by cases vs <;> cases ds <;> simp_all [DataW.TrodAll]
  | t :: ts, vs, ds, ps, ht, h, hlt => by
    obtain ⟨v, vs', d, ds', p, q, rfl, rfl, rfl, h1, h2⟩ := trodAll_cons h
    refine trodAll_cons_mk (Below.trod hl (ht t (by simp)).1 (ht t (by simp)).2 h1 hb (fun x hx => hlt x (by simp [hx]))) (trodAll_below hl hb (fun t' ht' => ht t' (by simp [ht'])) h2 (fun x hx => hlt x (by simp [hx])))
theorem law_post {fn : Func} {s : ChangeSpec} {W W' : World} {args : Array Value} {ds : List (DataW H)} {before : List MemPlace}
    (hW : DataW.Whole enc Tryd.prog fn.params.toList s.vars false W args.toList ds [] before) (hv : s.vars = []) (hres : (s.fn H (ds ++ [])).results = [.lit (.bool true)]) (hargs : (s.fn H (ds ++ [])).args = ds) (hvs : (s.fn H (ds ++ [])).vars = [])
    (hrt : fn.resultTypes = #[4]) (hp : ∀ t ∈ fn.params.toList, Tryd.prog.readableRec t = true ∧ t < Tryd.prog.types.size) (hb : Below W.heap.size W W') :
    ∃ v, Ending.returned (.bool true) = .returned v ∧ s.post enc Tryd.prog fn false true false false W args v W' := by
  obtain ⟨p, q, hA, hV, e, hfz, hnd⟩ := hW
  have hW2 : DataW.Whole enc Tryd.prog fn.params.toList s.vars false W args.toList ds [] before := ⟨p, q, hA, hV, e, hfz, hnd⟩
  have hlt : ∀ x ∈ p, x.block < W.heap.size := fun x hx => hW2.lt x (by rw [e]; simp [hx])
  refine ⟨_, rfl, ds, [], before, [], p, [], hW2, ?_, ?_, ?_, hb.frame _, fun h => by cases h⟩
  · rw [hres, hrt]
    exact trodAll_cons_mk (shut_bool Tryd.underlying4 _) trodAll_mk0
  · rw [hargs]
    exact trodAll_below laidOut hb hp hA hlt
  · rw [hvs, hv]; rfl
end

/-- for a witness: the settled world, the listed variables holding what their initialisers lay -/
def putCells (h : Array Obj) (g : Nat) (cs : Array Value) : Array Obj := h.modify g fun
  | .cells _ t frozen => .cells cs t frozen
  | o => o
noncomputable def laidWorld (os : Os) : World :=
  { World.holding Tryd.prog os ⟨#[], #[], []⟩ with heap := putCells (putCells (putCells (putCells ((World.holding Tryd.prog os ⟨#[], #[], []⟩).heap) 3 #[.int .u8 0, .int .u8 1, .int .u8 28, .int .u8 2, .int .u8 29, .int .u8 14, .int .u8 24, .int .u8 3, .int .u8 30, .int .u8 22, .int .u8 20, .int .u8 15, .int .u8 25, .int .u8 17, .int .u8 4, .int .u8 8, .int .u8 31, .int .u8 27, .int .u8 13, .int .u8 23, .int .u8 21, .int .u8 19, .int .u8 16, .int .u8 7, .int .u8 26, .int .u8 12, .int .u8 18, .int .u8 6, .int .u8 11, .int .u8 5, .int .u8 10, .int .u8 9]) 4 #[.int .u8 0, .int .u8 1, .int .u8 56, .int .u8 2, .int .u8 57, .int .u8 49, .int .u8 28, .int .u8 3, .int .u8 61, .int .u8 58, .int .u8 42, .int .u8 50, .int .u8 38, .int .u8 29, .int .u8 17, .int .u8 4, .int .u8 62, .int .u8 47, .int .u8 59, .int .u8 36, .int .u8 45, .int .u8 43, .int .u8 51, .int .u8 22, .int .u8 53, .int .u8 39, .int .u8 33, .int .u8 30, .int .u8 24, .int .u8 18, .int .u8 12, .int .u8 5, .int .u8 63, .int .u8 55, .int .u8 48, .int .u8 27, .int .u8 60, .int .u8 41, .int .u8 37, .int .u8 16, .int .u8 46, .int .u8 35, .int .u8 44, .int .u8 21, .int .u8 52, .int .u8 32, .int .u8 23, .int .u8 11, .int .u8 54, .int .u8 26, .int .u8 40, .int .u8 15, .int .u8 34, .int .u8 20, .int .u8 31, .int .u8 10, .int .u8 25, .int .u8 14, .int .u8 19, .int .u8 9, .int .u8 13, .int .u8 8, .int .u8 7, .int .u8 6]) 2 #[.int .u64 1, .int .u64 10, .int .u64 100, .int .u64 1000, .int .u64 10000, .int .u64 100000, .int .u64 1000000, .int .u64 10000000, .int .u64 100000000, .int .u64 1000000000, .int .u64 10000000000, .int .u64 100000000000, .int .u64 1000000000000, .int .u64 10000000000000, .int .u64 100000000000000, .int .u64 1000000000000000, .int .u64 10000000000000000, .int .u64 100000000000000000, .int .u64 1000000000000000000, .int .u64 10000000000000000000]) 1 #[.string ⟨#[99, 108, 97, 115, 115]⟩, .string ⟨#[101, 120, 116, 101, 110, 100, 115]⟩, .string ⟨#[118, 97, 114]⟩, .string ⟨#[100, 101, 102]⟩, .string ⟨#[115, 116, 97, 116, 105, 99]⟩, .string ⟨#[105, 102]⟩, .string ⟨#[101, 108, 115, 101]⟩, .string ⟨#[119, 104, 105, 108, 101]⟩, .string ⟨#[116, 114, 121]⟩, .string ⟨#[99, 97, 116, 99, 104]⟩, .string ⟨#[116, 104, 114, 111, 119]⟩, .string ⟨#[114, 101, 116, 117, 114, 110]⟩, .string ⟨#[110, 101, 119]⟩, .string ⟨#[110, 117, 108, 108]⟩, .string ⟨#[116, 104, 105, 115]⟩, .string ⟨#[105, 110, 112, 117, 116]⟩, .string ⟨#[105, 110, 116]⟩] }
end Go.Proofs.YtffmeglcakcpdaaDoor
