/- What the listed variables give; the world of a witness. -/
import Derived.Test.YtndmnbigfpaenaaGreatDoorUL
set_option linter.unusedVariables false
set_option linter.unusedSimpArgs false
namespace Go.Proofs.YtndmnbigfpaenaaGreatDoor
open Go.ChangeShapes Go.WideShapes Go.ChangeAt Go.RowKit Go.Deep
def fmData : List (List UInt8) := [[], [100, 110], [100], [100, 97], [100, 97, 111, 98], [100], [100, 99], [100, 97, 109], [97, 109, 98], [100, 97, 99, 109, 42], [100, 99, 109, 42], [97, 103], [103], [97], [97], [100, 99], [100, 97, 110]]
def kwData : List (List UInt8) := [[99, 108, 97, 115, 115], [101, 120, 116, 101, 110, 100, 115], [118, 97, 114], [100, 101, 102], [115, 116, 97, 116, 105, 99], [105, 102], [101, 108, 115, 101], [119, 104, 105, 108, 101], [116, 114, 121], [99, 97, 116, 99, 104], [116, 104, 114, 111, 119], [114, 101, 116, 117, 114, 110], [110, 101, 119], [110, 117, 108, 108], [116, 104, 105, 115], [105, 110, 112, 117, 116], [105, 110, 116]]
theorem laid_block {W : World} {n : String} {g : Nat} {cs : Array Value} {ps : List MemPlace} (hg : Tryz.prog.globalNamed n = some g) (hv : W.var? Tryz.prog n = some cs) (hne : 0 < cs.size)
    (hm : ∀ x ∈ MemPlace.row ⟨g, 0, none⟩ cs.size, x ∈ ps) (hp : ∀ b off, MemPlace.cell b off ∈ ps → (∃ c t, W.heap[b]? = some (.cells c t (0, 0))) ∧ ∀ u v, W.cell? ⟨b, off, none⟩ = some (.iface u v) → Value.okWide Tryz.prog W .any 0 u v) :
    ∃ t, W.heap[g]? = some (.cells cs t (0, 0)) := by
  obtain ⟨⟨c, t, hc⟩, _⟩ := hp g 0 (hm _ (by
    unfold MemPlace.row
    rw [List.mem_map]
    exact ⟨0, by simpa using hne, rfl⟩))
  unfold World.var? at hv
  rw [hg, Option.bind_some, hc] at hv
  obtain rfl := Option.some.inj hv
  exact ⟨t, hc⟩
theorem cells_of_ints3 {H : Type} {enc : TypeId × Value → H} {w : World} {base : Nat} {sp : Nat → Bool} {held : Bool} {fuel : Nat} {cs : List Value} {a b c : Int} {p : List MemPlace}
    (h : DataW.trod enc Tryz.prog w base sp held fuel 154 cs = some (.agg [.lit (.int .i64 a), .lit (.int .i64 b), .lit (.int .i64 c)], p)) : cs = [.int .i64 a, .int .i64 b, .int .i64 c] := by
  obtain ⟨xs, m, _, hx, hl, hxl, hf⟩ := DataW.trod_struct Tryz.underlying154 h
  rw [show Tryz.prog.cellsOf 154 = 3 from by kernel_rfl] at hl
  obtain ⟨c0, c1, c2, rfl⟩ := list3 hl
  obtain ⟨x0, x1, x2, rfl⟩ := list3 (show xs.length = 3 from hxl)
  have h0 := hf 0 _ rfl
  have h1 := hf 1 _ rfl
  have h2 := hf 2 _ rfl
  simp [cellsInt, show Tryz.prog.cellsOf 2 = 1 from by kernel_rfl] at h0 h1 h2
  obtain ⟨k0, e0, r0, _⟩ := DataW.trod_int Tryz.underlying3 h0
  obtain ⟨k1, e1, r1, _⟩ := DataW.trod_int Tryz.underlying2 h1
  obtain ⟨k2, e2, r2, _⟩ := DataW.trod_int Tryz.underlying2 h2
  simp only [List.cons.injEq, and_true] at e0 e1 e2
  subst e0 e1 e2
  have := congrArg Prod.fst hx
  rw [r0, r1, r2] at this
  simp at this
  obtain ⟨rfl, rfl, rfl⟩ := this
  rfl
theorem env_of {W : World} (h : laidMet Tryz.prog [("dataflow/lex.keywords", Rows.laid_dataflow_lex_keywords), ("dataflow/ir.forms", Rows.laid_dataflow_ir_forms), ("dataflow/ide.shift", Rows.laid_dataflow_ide_shift)] W) : Ev.Env W := by
  obtain ⟨ps, h, hnd, hp⟩ := h
  obtain ⟨g1, t1, cs1, fuel1, p1, q1, hg1, ht1, hv1, hd1, h, hps1⟩ := h
  obtain ⟨g0, t0, cs0, fuel0, p0, q0, hg0, ht0, hv0, hd0, h, hps0⟩ := h
  obtain ⟨g2, t2, cs2, fuel2, p2, q2, hg2, ht2, hv2, hd2, h, hps2⟩ := h
  have e0 : g0 = 1 := Option.some.inj (hg0.symm.trans (show Tryz.prog.globalNamed "dataflow/ir.forms" = some 1 by kernel_rfl))
  have e1 : g1 = 2 := Option.some.inj (hg1.symm.trans (show Tryz.prog.globalNamed "dataflow/lex.keywords" = some 2 by kernel_rfl))
  have e2 : g2 = 0 := Option.some.inj (hg2.symm.trans (show Tryz.prog.globalNamed "dataflow/ide.shift" = some 0 by kernel_rfl))
  subst e0 e1 e2
  have f0 : t0 = 455 := Option.some.inj (ht0.symm.trans (show (Tryz.prog.globals[1]?).map (·.type) = some 455 by kernel_rfl))
  have f1 : t1 = 455 := Option.some.inj (ht1.symm.trans (show (Tryz.prog.globals[2]?).map (·.type) = some 455 by kernel_rfl))
  have f2 : t2 = 154 := Option.some.inj (ht2.symm.trans (show (Tryz.prog.globals[0]?).map (·.type) = some 154 by kernel_rfl))
  subst f0 f1 f2
  have c0 := cells_of_strs (zs := fmData) Tryz.underlying455 Tryz.underlying9 (by kernel_rfl) (by kernel_rfl) hd0
  have c1 := cells_of_strs (zs := kwData) Tryz.underlying455 Tryz.underlying9 (by kernel_rfl) (by kernel_rfl) hd1
  have c2 := cells_of_ints3 hd2
  have d0 : cs0 = (fmData.map fun z => Value.string ⟨z.toArray⟩).toArray := by
    have h2 := congrArg List.toArray c0
    rwa [Array.toArray_toList] at h2
  have d1 : cs1 = (kwData.map fun z => Value.string ⟨z.toArray⟩).toArray := by
    have h2 := congrArg List.toArray c1
    rwa [Array.toArray_toList] at h2
  have d2 : cs2 = #[.int .i64 2, .int .i64 0, .int .i64 0] := by
    have h2 := congrArg List.toArray c2
    rwa [Array.toArray_toList] at h2
  have b0 := laid_block hg0 hv0 (by rw [d0]; simp [fmData]) (fun x hx => by rw [hps1, hps0]; simp [hx]) hp
  have b1 := laid_block hg1 hv1 (by rw [d1]; simp [kwData]) (fun x hx => by rw [hps1]; simp [hx]) hp
  have b2 := laid_block hg2 hv2 (by rw [d2]; simp) (fun x hx => by rw [hps1, hps0, hps2]; simp [hx]) hp
  refine ⟨fun p hp => ?_⟩
  unfold Ev.G0 at hp
  simp only [List.mem_cons, List.not_mem_nil, or_false] at hp
  rcases hp with rfl | rfl | rfl
  · rw [d2] at b2; exact b2
  · rw [d0] at b0; exact b0
  · rw [d1] at b1; exact b1
theorem Env.below {w w' : World} (h : Ev.Env w) (hb : Below w.heap.size w w') : Ev.Env w' := by
  refine ⟨fun p hp => ?_⟩
  obtain ⟨t, e⟩ := h.at_ p hp
  have hlt : p.1 < w.heap.size := by
    rcases Nat.lt_or_ge p.1 w.heap.size with hl | hl
    · exact hl
    · rw [Array.getElem?_eq_none hl] at e; cases e
  exact ⟨t, by rw [hb.block p.1 hlt]; exact e⟩
theorem args3 {P : Program} {W : World} {base : Nat} {t0 t1 : TypeId} {fs : Array Field} {v0 v1 v2 : Value} (u0 : P.underlying t0 = some (.struct fs)) (u1 : P.underlying t1 = some (.int .i64))
    (hval : ∀ (j : Nat) t v, #[t0, t1, t1][j]? = some t → #[v0, v1, v2][j]? = some v → Value.okWide P W .any base t v) : (∃ c, v0 = .agg c) ∧ (∃ n, v1 = .int .i64 n) ∧ (∃ n, v2 = .int .i64 n) := by
  obtain ⟨c, hc, _⟩ := okWide_struct u0 (hval 0 t0 v0 rfl rfl)
  exact ⟨⟨c, hc⟩, okWide_int u1 (hval 1 t1 v1 rfl rfl), okWide_int u1 (hval 2 t1 v2 rfl rfl)⟩
/-- for a witness: the settled world, the listed variables holding what their initialisers lay -/
def putCells (h : Array Obj) (g : Nat) (cs : Array Value) : Array Obj := h.modify g fun
  | .cells _ t frozen => .cells cs t frozen
  | o => o
noncomputable def laidWorld (os : Os) : World :=
  { World.holding Tryz.prog os ⟨#[], #[], []⟩ with heap := putCells (putCells (putCells ((World.holding Tryz.prog os ⟨#[], #[], []⟩).heap) 1 #[.string ⟨#[]⟩, .string ⟨#[100, 110]⟩, .string ⟨#[100]⟩, .string ⟨#[100, 97]⟩, .string ⟨#[100, 97, 111, 98]⟩, .string ⟨#[100]⟩, .string ⟨#[100, 99]⟩, .string ⟨#[100, 97, 109]⟩, .string ⟨#[97, 109, 98]⟩, .string ⟨#[100, 97, 99, 109, 42]⟩, .string ⟨#[100, 99, 109, 42]⟩, .string ⟨#[97, 103]⟩, .string ⟨#[103]⟩, .string ⟨#[97]⟩, .string ⟨#[97]⟩, .string ⟨#[100, 99]⟩, .string ⟨#[100, 97, 110]⟩]) 2 #[.string ⟨#[99, 108, 97, 115, 115]⟩, .string ⟨#[101, 120, 116, 101, 110, 100, 115]⟩, .string ⟨#[118, 97, 114]⟩, .string ⟨#[100, 101, 102]⟩, .string ⟨#[115, 116, 97, 116, 105, 99]⟩, .string ⟨#[105, 102]⟩, .string ⟨#[101, 108, 115, 101]⟩, .string ⟨#[119, 104, 105, 108, 101]⟩, .string ⟨#[116, 114, 121]⟩, .string ⟨#[99, 97, 116, 99, 104]⟩, .string ⟨#[116, 104, 114, 111, 119]⟩, .string ⟨#[114, 101, 116, 117, 114, 110]⟩, .string ⟨#[110, 101, 119]⟩, .string ⟨#[110, 117, 108, 108]⟩, .string ⟨#[116, 104, 105, 115]⟩, .string ⟨#[105, 110, 112, 117, 116]⟩, .string ⟨#[105, 110, 116]⟩]) 0 #[.int .i64 2, .int .i64 0, .int .i64 0] }
end Go.Proofs.YtndmnbigfpaenaaGreatDoor
