/- TaintFacts: for every input the law returns true, and its arguments read as before. -/
import Derived.Test.YtmdceifbbmnfgaaGreatDoorTgX
import Derived.Test.YtmdceifbbmnfgaaGreatDoorZbk
set_option linter.unusedVariables false
set_option linter.unusedSimpArgs false
namespace Go.Proofs.YtmdceifbbmnfgaaGreatDoor
open Go.ChangeShapes Go.WideShapes Go.ChangeAt Go.RowKit Go.Deep
section
variable {H : Type} {enc : TypeId × Value → H} {w : World} {held : Bool}
theorem noneFrozen_sub {p q : List MemPlace} (h : w.noneFrozen q) (hs : ∀ x ∈ p, x ∈ q) : w.noneFrozen p := fun b off hm => h b off (hs _ hm)
theorem trodAll_below {P : Program} (hl : laidOutB P = true) {W W' : World} (hb : Below W.heap.size W W') : ∀ {ts : List TypeId} {vs : List Value} {ds : List (DataW H)} {ps : List MemPlace}, (∀ t ∈ ts, P.readableRec t = true ∧ t < P.types.size) →
  DataW.TrodAll enc P W 0 (fun _ => true) true ts vs ds ps → (∀ x ∈ ps, x.block < W.heap.size) → DataW.TrodAll enc P W' 0 (fun b => decide (b < W.heap.size)) true ts vs ds ps
 | [], vs, ds, ps, _, h, _ => by cases vs <;> cases ds <;> simp_all [DataW.TrodAll]
 | t :: ts, vs, ds, ps, ht, h, hlt => by
  obtain ⟨v, vs', d, ds', p, q, rfl, rfl, rfl, h1, h2⟩ := trodAll_cons h
  refine trodAll_cons_mk (Below.trod hl (ht t (by simp)).1 (ht t (by simp)).2 h1 hb (fun x hx => hlt x (by simp [hx]))) (trodAll_below hl hb (fun t' ht' => ht t' (by simp [ht'])) h2 (fun x hx => hlt x (by simp [hx])))
theorem law_post {fn : Func} {s : ChangeSpec} {W W' : World} {args : Array Value} {ds : List (DataW H)} {before : List MemPlace}
  (hW : DataW.Whole enc Tryz.prog fn.params.toList s.vars false W args.toList ds [] before) (hv : s.vars = []) (hres : (s.fn H (ds ++ [])).results = [.lit (.bool true)]) (hargs : (s.fn H (ds ++ [])).args = ds) (hvs : (s.fn H (ds ++ [])).vars = [])
  (hrt : fn.resultTypes = #[4]) (hp : ∀ t ∈ fn.params.toList, Tryz.prog.readableRec t = true ∧ t < Tryz.prog.types.size) (hb : Below W.heap.size W W') :
  ∃ v, Ending.returned (.bool true) = .returned v ∧ s.post enc Tryz.prog fn false true false false W args v W' := by
 obtain ⟨p, q, hA, hV, e, hfz, hnd⟩ := hW
 have hW2 : DataW.Whole enc Tryz.prog fn.params.toList s.vars false W args.toList ds [] before := ⟨p, q, hA, hV, e, hfz, hnd⟩
 have hlt : ∀ x ∈ p, x.block < W.heap.size := fun x hx => hW2.lt x (by rw [e]; simp [hx])
 refine ⟨_, rfl, ds, [], before, [], p, [], hW2, ?_, ?_, ?_, hb.frame _, fun h => by cases h⟩
 ·rw [hres, hrt]
  exact trodAll_cons_mk (shut_bool Tryz.underlying4 _) trodAll_mk0
 ·rw [hargs]
  exact trodAll_below laidOut hb hp hA hlt
 ·rw [hvs, hv]; rfl
theorem okWide_struct {P : Program} {W : World} {base : Nat} {t : TypeId} {fs : Array Field} {v : Value} (u : P.underlying t = some (.struct fs)) (h : Value.okWide P W .any base t v) : ∃ c, v = .agg c ∧ True := by
 unfold Value.okWide at h
 rw [u] at h
 obtain ⟨c, hc, _⟩ := h
 exact ⟨c, hc, trivial⟩
theorem argsN {P : Program} {W : World} {base : Nat} {t0 t1 : TypeId} {fs0 fs1 : Array Field} {v0 v1 : Value} (u0 : P.underlying t0 = some (.struct fs0)) (u1 : P.underlying t1 = some (.struct fs1))
  (hval : ∀ (j : Nat) t v, #[t0, t1][j]? = some t → #[v0, v1][j]? = some v → Value.okWide P W .any base t v) : (∃ c, v0 = .agg c) ∧ (∃ c, v1 = .agg c) := by
 obtain ⟨c0, hc0, _⟩ := okWide_struct u0 (hval 0 t0 v0 rfl rfl)
 obtain ⟨c1, hc1, _⟩ := okWide_struct u1 (hval 1 t1 v1 rfl rfl)
 exact ⟨⟨c0, hc0⟩, ⟨c1, hc1⟩⟩
end
def putCells (h : Array Obj) (g : Nat) (cs : Array Value) : Array Obj := h.modify g fun
 | .cells _ t frozen => .cells cs t frozen
 | o => o
def litsOf (d : DataW Unit) : Array Value := ((litsIn d).map prL).toArray
noncomputable def laidWorld (os : Os) : World :=
 { World.holding Tryz.prog os ⟨#[], #[], []⟩ with heap := putCells (putCells ((World.holding Tryz.prog os ⟨#[], #[], []⟩).heap) 0 (litsOf Rows.laid_dataflow_ir_forms)) 1 (litsOf Rows.laid_dataflow_lex_keywords) }
end Go.Proofs.YtmdceifbbmnfgaaGreatDoor
namespace Go.Proofs.YtmdceifbbmnfgaaGreatDoor.taintFacts
open Go.ChangeShapes Go.WideShapes Go.ChangeAt Go.RowKit
theorem contract (H : Type) (enc : TypeId × Value → H) (W : World) (base : Nat) (args : Array Value) (ds gs : List (DataW H)) (before : List MemPlace)
  (hval : ∀ (j : Nat) t v, Tryz.f3.params[j]? = some t → args[j]? = some v → Value.okWide Tryz.prog W .any base t v)
  (hW : DataW.Whole enc Tryz.prog Tryz.f3.params.toList Rows.taintFactsSpec.vars false W args.toList ds gs before)
  (hL : laidMetH Tryz.prog Rows.taintFactsRow.laid W) :
  Calls Tryz.prog 3 args W fun e W' => ∃ v, e = .returned v ∧ Rows.taintFactsSpec.post enc Tryz.prog Tryz.f3 false true false false W args v W' := by
 have hE : Ev.EnvG Ev.G0 W := env_of hL
 have hW' := hW
 obtain ⟨p, q, hA0, hV, rfl, hfz, hnd⟩ := hW
 have hA : DataW.TrodAll enc Tryz.prog W 0 (fun _ => true) true Tryz.f3.params.toList args.toList ds p := hA0
 rw [Tryz.params3] at hA hval
 obtain ⟨v0, vs0, d0, ds0, p0, q0, hargs, rfl, rfl, h0, r0⟩ := trodAll_cons hA
 obtain ⟨v1, vs1, d1, ds1, p1, q1, rfl, rfl, rfl, h1, r1⟩ := trodAll_cons r0
 obtain ⟨rfl, rfl, rfl⟩ := trodAll_nil r1
 obtain rfl : args = #[v0, v1] := by cases args; simp_all
 obtain ⟨rfl, rfl⟩ := trodVars_none hV
 obtain ⟨⟨c0, rfl⟩, ⟨c1, rfl⟩⟩ := argsN (P := Tryz.prog) (W := W) (base := base) (v0 := v0) (v1 := v1) Tryz.underlying27 Tryz.underlying31 (by assumption)
 clear hval
 obtain ⟨f0, hf0⟩ := h0
 obtain ⟨f1, hf1⟩ := h1
 have hr := Ev.law_any hE hf0 (noneFrozen_sub hfz fun x hm => by simp [hm]) hf1 (noneFrozen_sub hfz fun x hm => by simp [hm])
 have e0 : (Value.cells (.agg c0)).toList.toArray = c0 := by simp [Value.cells]
 have e1 : (Value.cells (.agg c1)).toList.toArray = c1 := by simp [Value.cells]
 rw [e0, e1] at hr
 refine hr.mono fun e W' ⟨he, hb⟩ => ?_
 subst he
 refine law_post (before := _) hW' rfl rfl rfl rfl (by kernel_rfl) (fun t ht => ?_) hb
 rw [Tryz.params3] at ht
 simp only [List.mem_cons, List.not_mem_nil, or_false, or_self] at ht
 rcases ht with rfl | rfl
 ·exact ⟨read_un, of_decide_eq_true (by kernel_rfl)⟩
 ·exact ⟨read_pl, of_decide_eq_true (by kernel_rfl)⟩
end Go.Proofs.YtmdceifbbmnfgaaGreatDoor.taintFacts
namespace Go.Proofs.YtmdceifbbmnfgaaGreatDoor.taintFacts
open Go.ChangeShapes Go.WideShapes Go.ChangeAt Go.RowKit
theorem laid_met (os : Os) : laidMet Tryz.prog Rows.taintFactsRow.laid ((laidWorld os).forCall (fun _ _ => 0) ⟨#[], #[.agg #[.slice none 0 0, .slice none 0 0, .int .i64 0], .agg #[.int .i64 0, .int .i64 0, .int .i64 0, .string ⟨#[]⟩]], []⟩).memory :=
 laidMet_of_run' 8 (by kernel_rfl) (by kernel_rfl)
theorem reads (os : Os) {H : Type} (enc : TypeId × Value → H) : ∃ places, DataW.whole enc Tryz.prog ((laidWorld os).forCall (fun _ _ => 0) ⟨#[], #[.agg #[.slice none 0 0, .slice none 0 0, .int .i64 0], .agg #[.int .i64 0, .int .i64 0, .int .i64 0, .string ⟨#[]⟩]], []⟩).memory Tryz.f3.params.toList Rows.taintFactsSpec.vars false #[.agg #[.slice none 0 0, .slice none 0 0, .int .i64 0], .agg #[.int .i64 0, .int .i64 0, .int .i64 0, .string ⟨#[]⟩]].toList 8 = some ([.agg [.agg [.nil], .nil, .lit (.int .i64 0)], .agg [.lit (.int .i64 0), .lit (.int .i64 0), .agg [.lit (.int .i64 0), .lit (.string [])]]], [], places) :=
 ⟨[], by kernel_rfl⟩
set_option maxRecDepth 100000 in
theorem lifted (os : Os) (started : os.Started) (H : Type) (enc : TypeId × Value → H) (F : Stop.Interp) :
  ReturnsInHanded {} Tryz.checked os 3 .any ((OpenSpec.ofChange Rows.taintFactsSpec).preRow enc Tryz.prog Tryz.f3 Rows.taintFactsRow.domain false Rows.taintFactsRow.laid) (((OpenSpec.ofChange Rows.taintFactsSpec).at F).post enc Tryz.prog Tryz.f3 false true false false) := by
 obtain ⟨places, hx⟩ := reads os enc
 refine returnsInHanded_of_row (C := Tryz.checked) (s := OpenSpec.ofChange Rows.taintFactsSpec) own started (by kernel_rfl) Tryz.func3
  (witness_row_at (enc := enc) (C := Tryz.checked) false (laidWorld os) #[.agg #[.slice none 0 0, .slice none 0 0, .int .i64 0], .agg #[.int .i64 0, .int .i64 0, .int .i64 0, .string ⟨#[]⟩]] rfl (by kernel_rfl) (by kernel_rfl) (by kernel_rfl)
   (OpenSpec.preRow_of_cond 8 hx (by kernel_rfl) (fun k hk => by cases hk) (by kernel_rfl) (laid_met os))) ?_
 intro W base args ds gs before hval hW _ _ hsz hL _ _
 exact contract H enc W base args ds gs before hval hW hL
end Go.Proofs.YtmdceifbbmnfgaaGreatDoor.taintFacts