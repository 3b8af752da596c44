/- What the listed variables give; the world of a witness. -/
import Derived.Test.YtfoahdpnalbbgaaGreatDoorUL
set_option linter.unusedVariables false
set_option linter.unusedSimpArgs false
namespace Go.Proofs.YtfoahdpnalbbgaaGreatDoor
open Go.ChangeShapes Go.WideShapes Go.ChangeAt Go.RowKit Go.Deep
def fmData : List (List UInt8) := [[], [100, 110], [100], [100, 97], [100, 97, 111, 98], [100], [100, 99], [100, 97, 109], [97, 109, 98], [100, 97, 99, 109, 42], [100, 99, 109, 42], [97, 103], [103], [97], [97], [100, 99], [100, 97, 110]]
def kwData : List (List UInt8) := [[99, 108, 97, 115, 115], [101, 120, 116, 101, 110, 100, 115], [118, 97, 114], [100, 101, 102], [115, 116, 97, 116, 105, 99], [105, 102], [101, 108, 115, 101], [119, 104, 105, 108, 101], [116, 114, 121], [99, 97, 116, 99, 104], [116, 104, 114, 111, 119], [114, 101, 116, 117, 114, 110], [110, 101, 119], [110, 117, 108, 108], [116, 104, 105, 115], [105, 110, 112, 117, 116], [105, 110, 116]]
theorem hStart_eq : Ev.hStart = [(0, .cells (fmData.map Ev.avStr)), (2, .cells (kwData.map Ev.avStr))] := by rfl
theorem laid_block {W : World} {n : String} {g : Nat} {cs : Array Value} {ps : List MemPlace} (hg : Tryz.prog.globalNamed n = some g) (hv : W.var? Tryz.prog n = some cs) (hne : 0 < cs.size)
    (hm : ∀ x ∈ MemPlace.row ⟨g, 0, none⟩ cs.size, x ∈ ps) (hp : ∀ b off, MemPlace.cell b off ∈ ps → (∃ c t, W.heap[b]? = some (.cells c t (0, 0))) ∧ ∀ u v, W.cell? ⟨b, off, none⟩ = some (.iface u v) → Value.okWide Tryz.prog W .any 0 u v) :
    ∃ t, W.heap[g]? = some (.cells cs t (0, 0)) := by
  obtain ⟨⟨c, t, hc⟩, _⟩ := hp g 0 (hm _ (by
    unfold MemPlace.row
    rw [List.mem_map]
    exact ⟨0, by simpa using hne, rfl⟩))
  unfold World.var? at hv
  rw [hg, Option.bind_some, hc] at hv
  obtain rfl := Option.some.inj hv
  exact ⟨t, hc⟩
theorem env_of {W : World} (h : laidMet Tryz.prog [("dataflow/lex.keywords", Rows.laid_dataflow_lex_keywords), ("dataflow/ir.forms", Rows.laid_dataflow_ir_forms)] W) : Ev.Env W fmData kwData := by
  obtain ⟨ps, h, hnd, hp⟩ := h
  obtain ⟨g1, t1, cs1, fuel1, p1, q1, hg1, ht1, hv1, hd1, h, hps1⟩ := h
  obtain ⟨g0, t0, cs0, fuel0, p0, q0, hg0, ht0, hv0, hd0, h, hps0⟩ := h
  have e0 : g0 = 0 := Option.some.inj (hg0.symm.trans (show Tryz.prog.globalNamed "dataflow/ir.forms" = some 0 by kernel_rfl))
  have e1 : g1 = 2 := Option.some.inj (hg1.symm.trans (show Tryz.prog.globalNamed "dataflow/lex.keywords" = some 2 by kernel_rfl))
  subst e0 e1
  have f0 : t0 = 260 := Option.some.inj (ht0.symm.trans (show (Tryz.prog.globals[0]?).map (·.type) = some 260 by kernel_rfl))
  have f1 : t1 = 260 := Option.some.inj (ht1.symm.trans (show (Tryz.prog.globals[2]?).map (·.type) = some 260 by kernel_rfl))
  subst f0 f1
  have c0 := cells_of_strs (zs := fmData) Tryz.underlying260 Tryz.underlying9 (by kernel_rfl) (by kernel_rfl) hd0
  have c1 := cells_of_strs (zs := kwData) Tryz.underlying260 Tryz.underlying9 (by kernel_rfl) (by kernel_rfl) hd1
  have d0 : cs0 = (fmData.map fun z => Value.string ⟨z.toArray⟩).toArray := by
    have h2 := congrArg List.toArray c0
    rwa [Array.toArray_toList] at h2
  have d1 : cs1 = (kwData.map fun z => Value.string ⟨z.toArray⟩).toArray := by
    have h2 := congrArg List.toArray c1
    rwa [Array.toArray_toList] at h2
  refine ⟨?_, ?_⟩
  · rw [← d0]
    exact laid_block hg0 hv0 (by rw [d0]; simp [fmData]) (fun x hx => by rw [hps1, hps0]; simp [hx]) hp
  · rw [← d1]
    exact laid_block hg1 hv1 (by rw [d1]; simp [kwData]) (fun x hx => by rw [hps1]; simp [hx]) hp
theorem Env.below {w w' : World} {fm kw : List (List UInt8)} (h : Ev.Env w fm kw) (hb : Below w.heap.size w w') : Ev.Env w' fm kw := by
  have lt : ∀ {g : Nat} {o : Obj}, w.heap[g]? = some o → w'.heap[g]? = some o := fun {g o} q => by
    have hlt : g < w.heap.size := by
      rcases Nat.lt_or_ge g w.heap.size with hl | hl
      · exact hl
      · rw [Array.getElem?_eq_none hl] at q; cases q
    rw [hb.block g hlt]; exact q
  obtain ⟨t, e⟩ := h.fm
  obtain ⟨t', e'⟩ := h.kw
  exact ⟨⟨t, lt e⟩, ⟨t', lt e'⟩⟩
theorem Env.size {w : World} {fm kw : List (List UInt8)} (h : Ev.Env w fm kw) : max 0 2 < w.heap.size := by
  obtain ⟨t, e⟩ := h.fm
  obtain ⟨t', e'⟩ := h.kw
  have lt : ∀ {g : Nat} {o : Obj}, w.heap[g]? = some o → g < w.heap.size := fun {g o} q => by
    rcases Nat.lt_or_ge g w.heap.size with hl | hl
    · exact hl
    · rw [Array.getElem?_eq_none hl] at q; cases q
  have a := lt e
  have b := lt e'
  omega
theorem args3 {P : Program} {W : World} {base : Nat} {t0 t1 : TypeId} {fs : Array Field} {v0 v1 v2 : Value} (u0 : P.underlying t0 = some (.struct fs)) (u1 : P.underlying t1 = some (.int .i64))
    (hval : ∀ (j : Nat) t v, #[t0, t1, t1][j]? = some t → #[v0, v1, v2][j]? = some v → Value.okWide P W .any base t v) : (∃ c, v0 = .agg c) ∧ (∃ n, v1 = .int .i64 n) ∧ (∃ n, v2 = .int .i64 n) := by
  obtain ⟨c, hc, _⟩ := okWide_struct u0 (hval 0 t0 v0 rfl rfl)
  exact ⟨⟨c, hc⟩, okWide_int u1 (hval 1 t1 v1 rfl rfl), okWide_int u1 (hval 2 t1 v2 rfl rfl)⟩
/-- for a witness: the settled world, the listed variables holding what their initialisers lay -/
def putCells (h : Array Obj) (g : Nat) (cs : Array Value) : Array Obj := h.modify g fun
  | .cells _ t frozen => .cells cs t frozen
  | o => o
noncomputable def laidWorld (os : Os) : World :=
  { World.holding Tryz.prog os ⟨#[], #[], []⟩ with heap := putCells (putCells ((World.holding Tryz.prog os ⟨#[], #[], []⟩).heap) 0 #[.string ⟨#[]⟩, .string ⟨#[100, 110]⟩, .string ⟨#[100]⟩, .string ⟨#[100, 97]⟩, .string ⟨#[100, 97, 111, 98]⟩, .string ⟨#[100]⟩, .string ⟨#[100, 99]⟩, .string ⟨#[100, 97, 109]⟩, .string ⟨#[97, 109, 98]⟩, .string ⟨#[100, 97, 99, 109, 42]⟩, .string ⟨#[100, 99, 109, 42]⟩, .string ⟨#[97, 103]⟩, .string ⟨#[103]⟩, .string ⟨#[97]⟩, .string ⟨#[97]⟩, .string ⟨#[100, 99]⟩, .string ⟨#[100, 97, 110]⟩]) 2 #[.string ⟨#[99, 108, 97, 115, 115]⟩, .string ⟨#[101, 120, 116, 101, 110, 100, 115]⟩, .string ⟨#[118, 97, 114]⟩, .string ⟨#[100, 101, 102]⟩, .string ⟨#[115, 116, 97, 116, 105, 99]⟩, .string ⟨#[105, 102]⟩, .string ⟨#[101, 108, 115, 101]⟩, .string ⟨#[119, 104, 105, 108, 101]⟩, .string ⟨#[116, 114, 121]⟩, .string ⟨#[99, 97, 116, 99, 104]⟩, .string ⟨#[116, 104, 114, 111, 119]⟩, .string ⟨#[114, 101, 116, 117, 114, 110]⟩, .string ⟨#[110, 101, 119]⟩, .string ⟨#[110, 117, 108, 108]⟩, .string ⟨#[116, 104, 105, 115]⟩, .string ⟨#[105, 110, 112, 117, 116]⟩, .string ⟨#[105, 110, 116]⟩] }
end Go.Proofs.YtfoahdpnalbbgaaGreatDoor
